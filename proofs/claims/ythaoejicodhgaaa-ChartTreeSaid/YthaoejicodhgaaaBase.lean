/- The program's surroundings. -/
import Derived.Test.YthaoejicodhgaaaKL31
import Derived.Test.YthaoejicodhgaaaProg
import Derived.KernelRfl
import Derived.Test.YthaoejicodhgaaaKL33
set_option linter.unusedVariables false
set_option linter.unusedSimpArgs false
namespace Go.KL.Ythaoejicodhgaaa
open Go Go.KL Go.RowKit Go.Proofs
noncomputable def E0 : Env where
  P := Try.prog
  G := fun _ => none
  hG := by intro g e h n m; cases h
  hmix := by kernel_rfl

/-- what a call answers, where it changes nothing -/
def Pure (f : FuncId) (ds : List D) (d : D) : Prop := ∀ S tk, ACalls E0 f ds S tk (fun r S' tk' => r = d ∧ S' = S ∧ tk' = tk)

def i64s (l : List Int) : List (List D) := l.map fun n => [.int .i64 n]
theorem i64s_len (l : List Int) : (i64s l).length = l.length := List.length_map ..
theorem iaD_i64s {l : List Int} {n : Int} {a : Int} (h0 : 0 ≤ n) (he : l[n.toNat]? = some a) : iaD 1 (.sl (i64s l)) (.int .i64 n) = some (.pe [.int .i64 a] 0) := iaD_map (f := fun n => [.int .i64 n]) h0 he rfl

end Go.KL.Ythaoejicodhgaaa

/- slices.Sort: insertion sort, sift down, heap sort, reversal -/
set_option linter.unusedVariables false
set_option linter.unusedSimpArgs false
set_option linter.unusedSectionVars false
set_option maxRecDepth 4000
namespace Go.KL.Ythaoejicodhgaaa
open Go Go.KL Go.RowKit Go.Proofs Go.Sort

def kD (x : Int) : D := .int .i64 x
theorem kE : VEnc kD 1 false := ⟨fun _ => rfl, fun _ => rfl, fun _ => rfl, fun _ => rfl, fun _ _ _ => rfl⟩

theorem c164 : cFun E0.P 164 = some ⟨6, [(2, none)], .seq (.rg [⟨some 2, none, .mv (.k (.bool false))⟩]) (.seq (.rg [⟨some 3, none, .mv (.t 0)⟩, ⟨some 4, none, .mv (.t 0)⟩, ⟨some 5, none, .bin .neq .leaf (.t 3) (.t 4)⟩, ⟨some 2, none, .mv (.t 5)⟩]) .ret)⟩ := by kernel_rfl
theorem c130 : cFun E0.P 130 = some ⟨17, [(4, none)], .seq (.rg [⟨some 4, none, .mv (.k (.bool false))⟩]) (.seq (.rg [⟨some 5, none, .mv (.t 0)⟩, ⟨some 6, none, .call 164 [.t 5]⟩, ⟨some 7, none, .mv (.t 6)⟩, ⟨some 8, some (7, true), .mv (.t 1)⟩, ⟨some 9, some (7, true), .call 164 [.t 8]⟩, ⟨some 10, some (7, true), .un .not (.t 9)⟩, ⟨some 11, none, .pick (.t 7) (.t 10) (.k (.bool false))⟩, ⟨some 12, none, .mv (.t 11)⟩, ⟨some 13, some (12, false), .mv (.t 0)⟩, ⟨some 14, some (12, false), .mv (.t 1)⟩, ⟨some 15, some (12, false), .bin .lss .leaf (.t 13) (.t 14)⟩, ⟨some 16, none, .pick (.t 12) (.k (.bool true)) (.t 15)⟩, ⟨some 4, none, .mv (.t 16)⟩]) .ret)⟩ := by kernel_rfl
theorem c124 : cFun E0.P 124 = some ⟨49, [], .seq (.rg [⟨some 8, none, .mv (.t 1)⟩, ⟨some 9, none, .bin .add .leaf (.t 8) (.k (.int .i64 1))⟩, ⟨some 6, none, .mv (.t 9)⟩]) (.block 0 (.loop (.seq (.seq (.rg [⟨some 10, none, .mv (.t 6)⟩, ⟨some 11, none, .mv (.t 2)⟩, ⟨some 12, none, .bin .lss .leaf (.t 10) (.t 11)⟩]) (.cond (.t 12) .skip (.exit 0))) (.seq (.block 1 (.seq (.rg [⟨some 15, none, .mv (.t 6)⟩, ⟨some 7, none, .mv (.t 15)⟩]) (.block 2 (.loop (.seq (.seq (.rd [(⟨some 16, none, .mv (.t 7)⟩, none), (⟨some 17, none, .mv (.t 1)⟩, none), (⟨some 18, none, .bin .gtr .leaf (.t 16) (.t 17)⟩, none), (⟨some 19, none, .mv (.t 18)⟩, none), (⟨some 20, some (19, true), .mv (.t 0)⟩, none), (⟨some 21, some (19, true), .mv (.t 7)⟩, none), (⟨some 22, some (19, true), .ia 1 (.t 20) (.t 21)⟩, none), (⟨some 23, some (19, true), .ld 1 false (.t 22)⟩, none), (⟨some 24, some (19, true), .mv (.t 0)⟩, none), (⟨some 25, some (19, true), .mv (.t 7)⟩, none), (⟨some 26, some (19, true), .bin .sub .leaf (.t 25) (.k (.int .i64 1))⟩, none), (⟨some 27, some (19, true), .ia 1 (.t 24) (.t 26)⟩, none), (⟨some 28, some (19, true), .ld 1 false (.t 27)⟩, none), (⟨some 29, some (19, true), .call 130 [.t 23, .t 28]⟩, some []), (⟨some 30, none, .pick (.t 19) (.t 29) (.k (.bool false))⟩, none)]) (.cond (.t 30) .skip (.exit 2))) (.seq (.block 3 (.rd [(⟨some 33, none, .mv (.t 0)⟩, none), (⟨some 34, none, .mv (.t 7)⟩, none), (⟨some 35, none, .mv (.t 0)⟩, none), (⟨some 36, none, .mv (.t 7)⟩, none), (⟨some 37, none, .bin .sub .leaf (.t 36) (.k (.int .i64 1))⟩, none), (⟨some 38, none, .mv (.t 0)⟩, none), (⟨some 39, none, .mv (.t 7)⟩, none), (⟨some 40, none, .bin .sub .leaf (.t 39) (.k (.int .i64 1))⟩, none), (⟨some 41, none, .ia 1 (.t 38) (.t 40)⟩, none), (⟨some 42, none, .ld 1 false (.t 41)⟩, none), (⟨some 43, none, .mv (.t 0)⟩, none), (⟨some 44, none, .mv (.t 7)⟩, none), (⟨some 45, none, .ia 1 (.t 43) (.t 44)⟩, none), (⟨some 46, none, .ld 1 false (.t 45)⟩, none), (⟨some 47, none, .ia 1 (.t 33) (.t 34)⟩, none), (⟨none, none, .st 1 (.t 47) (.t 42)⟩, some []), (⟨some 48, none, .ia 1 (.t 35) (.t 37)⟩, none), (⟨none, none, .st 1 (.t 48) (.t 46)⟩, some [])])) (.rg [⟨some 31, none, .mv (.t 7)⟩, ⟨some 32, none, .bin .sub .leaf (.t 31) (.k (.int .i64 1))⟩, ⟨some 7, none, .mv (.t 32)⟩]))))))) (.rg [⟨some 13, none, .mv (.t 6)⟩, ⟨some 14, none, .bin .add .leaf (.t 13) (.k (.int .i64 1))⟩, ⟨some 6, none, .mv (.t 14)⟩])))))⟩ := by kernel_rfl
theorem c159 : cFun E0.P 159 = some ⟨76, [], .seq (.rg [⟨some 10, none, .mv (.t 1)⟩, ⟨some 8, none, .mv (.t 10)⟩]) (.block 0 (.loop (.block 1 (.seq (.rg [⟨some 11, none, .mv (.t 8)⟩, ⟨some 12, none, .bin .mul .leaf (.k (.int .i64 2)) (.t 11)⟩, ⟨some 13, none, .bin .add .leaf (.t 12) (.k (.int .i64 1))⟩, ⟨some 9, none, .mv (.t 13)⟩]) (.seq (.seq (.rg [⟨some 14, none, .mv (.t 9)⟩, ⟨some 15, none, .mv (.t 2)⟩, ⟨some 16, none, .bin .geq .leaf (.t 14) (.t 15)⟩]) (.cond (.t 16) (.exit 0) .skip)) (.seq (.seq (.rd [(⟨some 17, none, .mv (.t 9)⟩, none), (⟨some 18, none, .bin .add .leaf (.t 17) (.k (.int .i64 1))⟩, none), (⟨some 19, none, .mv (.t 2)⟩, none), (⟨some 20, none, .bin .lss .leaf (.t 18) (.t 19)⟩, none), (⟨some 21, none, .mv (.t 20)⟩, none), (⟨some 22, some (21, true), .mv (.t 0)⟩, none), (⟨some 23, some (21, true), .mv (.t 3)⟩, none), (⟨some 24, some (21, true), .mv (.t 9)⟩, none), (⟨some 25, some (21, true), .bin .add .leaf (.t 23) (.t 24)⟩, none), (⟨some 26, some (21, true), .ia 1 (.t 22) (.t 25)⟩, none), (⟨some 27, some (21, true), .ld 1 false (.t 26)⟩, none), (⟨some 28, some (21, true), .mv (.t 0)⟩, none), (⟨some 29, some (21, true), .mv (.t 3)⟩, none), (⟨some 30, some (21, true), .mv (.t 9)⟩, none), (⟨some 31, some (21, true), .bin .add .leaf (.t 29) (.t 30)⟩, none), (⟨some 32, some (21, true), .bin .add .leaf (.t 31) (.k (.int .i64 1))⟩, none), (⟨some 33, some (21, true), .ia 1 (.t 28) (.t 32)⟩, none), (⟨some 34, some (21, true), .ld 1 false (.t 33)⟩, none), (⟨some 35, some (21, true), .call 130 [.t 27, .t 34]⟩, some []), (⟨some 36, none, .pick (.t 21) (.t 35) (.k (.bool false))⟩, none)]) (.cond (.t 36) (.rg [⟨some 37, none, .mv (.t 9)⟩, ⟨some 38, none, .bin .add .leaf (.t 37) (.k (.int .i64 1))⟩, ⟨some 9, none, .mv (.t 38)⟩]) .skip)) (.seq (.seq (.rd [(⟨some 39, none, .mv (.t 0)⟩, none), (⟨some 40, none, .mv (.t 3)⟩, none), (⟨some 41, none, .mv (.t 8)⟩, none), (⟨some 42, none, .bin .add .leaf (.t 40) (.t 41)⟩, none), (⟨some 43, none, .ia 1 (.t 39) (.t 42)⟩, none), (⟨some 44, none, .ld 1 false (.t 43)⟩, none), (⟨some 45, none, .mv (.t 0)⟩, none), (⟨some 46, none, .mv (.t 3)⟩, none), (⟨some 47, none, .mv (.t 9)⟩, none), (⟨some 48, none, .bin .add .leaf (.t 46) (.t 47)⟩, none), (⟨some 49, none, .ia 1 (.t 45) (.t 48)⟩, none), (⟨some 50, none, .ld 1 false (.t 49)⟩, none), (⟨some 51, none, .call 130 [.t 44, .t 50]⟩, some []), (⟨some 52, none, .un .not (.t 51)⟩, none)]) (.cond (.t 52) .ret .skip)) (.seq (.rd [(⟨some 53, none, .mv (.t 0)⟩, none), (⟨some 54, none, .mv (.t 3)⟩, none), (⟨some 55, none, .mv (.t 8)⟩, none), (⟨some 56, none, .bin .add .leaf (.t 54) (.t 55)⟩, none), (⟨some 57, none, .mv (.t 0)⟩, none), (⟨some 58, none, .mv (.t 3)⟩, none), (⟨some 59, none, .mv (.t 9)⟩, none), (⟨some 60, none, .bin .add .leaf (.t 58) (.t 59)⟩, none), (⟨some 61, none, .mv (.t 0)⟩, none), (⟨some 62, none, .mv (.t 3)⟩, none), (⟨some 63, none, .mv (.t 9)⟩, none), (⟨some 64, none, .bin .add .leaf (.t 62) (.t 63)⟩, none), (⟨some 65, none, .ia 1 (.t 61) (.t 64)⟩, none), (⟨some 66, none, .ld 1 false (.t 65)⟩, none), (⟨some 67, none, .mv (.t 0)⟩, none), (⟨some 68, none, .mv (.t 3)⟩, none), (⟨some 69, none, .mv (.t 8)⟩, none), (⟨some 70, none, .bin .add .leaf (.t 68) (.t 69)⟩, none), (⟨some 71, none, .ia 1 (.t 67) (.t 70)⟩, none), (⟨some 72, none, .ld 1 false (.t 71)⟩, none), (⟨some 73, none, .ia 1 (.t 53) (.t 56)⟩, none), (⟨none, none, .st 1 (.t 73) (.t 66)⟩, some []), (⟨some 74, none, .ia 1 (.t 57) (.t 60)⟩, none), (⟨none, none, .st 1 (.t 74) (.t 72)⟩, some [])]) (.rg [⟨some 75, none, .mv (.t 9)⟩, ⟨some 8, none, .mv (.t 75)⟩])))))))))⟩ := by kernel_rfl
theorem c125 : cFun E0.P 125 = some ⟨56, [], .seq (.rg [⟨some 11, none, .mv (.t 1)⟩, ⟨some 6, none, .mv (.t 11)⟩]) (.seq (.rg [⟨some 7, none, .mv (.k (.int .i64 0))⟩]) (.seq (.rg [⟨some 12, none, .mv (.t 2)⟩, ⟨some 13, none, .mv (.t 1)⟩, ⟨some 14, none, .bin .sub .leaf (.t 12) (.t 13)⟩, ⟨some 8, none, .mv (.t 14)⟩]) (.seq (.seq (.rg [⟨some 15, none, .mv (.t 8)⟩, ⟨some 16, none, .bin .sub .leaf (.t 15) (.k (.int .i64 1))⟩, ⟨some 17, none, .bin .quo .leaf (.t 16) (.k (.int .i64 2))⟩, ⟨some 9, none, .mv (.t 17)⟩]) (.block 0 (.loop (.seq (.seq (.rg [⟨some 18, none, .mv (.t 9)⟩, ⟨some 19, none, .bin .geq .leaf (.t 18) (.k (.int .i64 0))⟩]) (.cond (.t 19) .skip (.exit 0))) (.seq (.block 1 (.rg [⟨some 22, none, .mv (.t 0)⟩, ⟨some 23, none, .mv (.t 9)⟩, ⟨some 24, none, .mv (.t 8)⟩, ⟨some 25, none, .mv (.t 6)⟩, ⟨some 26, none, .call 159 [.t 22, .t 23, .t 24, .t 25]⟩])) (.rg [⟨some 20, none, .mv (.t 9)⟩, ⟨some 21, none, .bin .sub .leaf (.t 20) (.k (.int .i64 1))⟩, ⟨some 9, none, .mv (.t 21)⟩])))))) (.seq (.rg [⟨some 27, none, .mv (.t 8)⟩, ⟨some 28, none, .bin .sub .leaf (.t 27) (.k (.int .i64 1))⟩, ⟨some 10, none, .mv (.t 28)⟩]) (.block 2 (.loop (.seq (.seq (.rg [⟨some 29, none, .mv (.t 10)⟩, ⟨some 30, none, .bin .geq .leaf (.t 29) (.k (.int .i64 0))⟩]) (.cond (.t 30) .skip (.exit 2))) (.seq (.block 3 (.seq (.rd [(⟨some 33, none, .mv (.t 0)⟩, none), (⟨some 34, none, .mv (.t 6)⟩, none), (⟨some 35, none, .mv (.t 0)⟩, none), (⟨some 36, none, .mv (.t 6)⟩, none), (⟨some 37, none, .mv (.t 10)⟩, none), (⟨some 38, none, .bin .add .leaf (.t 36) (.t 37)⟩, none), (⟨some 39, none, .mv (.t 0)⟩, none), (⟨some 40, none, .mv (.t 6)⟩, none), (⟨some 41, none, .mv (.t 10)⟩, none), (⟨some 42, none, .bin .add .leaf (.t 40) (.t 41)⟩, none), (⟨some 43, none, .ia 1 (.t 39) (.t 42)⟩, none), (⟨some 44, none, .ld 1 false (.t 43)⟩, none), (⟨some 45, none, .mv (.t 0)⟩, none), (⟨some 46, none, .mv (.t 6)⟩, none), (⟨some 47, none, .ia 1 (.t 45) (.t 46)⟩, none), (⟨some 48, none, .ld 1 false (.t 47)⟩, none), (⟨some 49, none, .ia 1 (.t 33) (.t 34)⟩, none), (⟨none, none, .st 1 (.t 49) (.t 44)⟩, some []), (⟨some 50, none, .ia 1 (.t 35) (.t 38)⟩, none), (⟨none, none, .st 1 (.t 50) (.t 48)⟩, some [])]) (.rg [⟨some 51, none, .mv (.t 0)⟩, ⟨some 52, none, .mv (.t 7)⟩, ⟨some 53, none, .mv (.t 10)⟩, ⟨some 54, none, .mv (.t 6)⟩, ⟨some 55, none, .call 159 [.t 51, .t 52, .t 53, .t 54]⟩]))) (.rg [⟨some 31, none, .mv (.t 10)⟩, ⟨some 32, none, .bin .sub .leaf (.t 31) (.k (.int .i64 1))⟩, ⟨some 10, none, .mv (.t 32)⟩])))))))))⟩ := by kernel_rfl
theorem c128 : cFun E0.P 128 = some ⟨32, [], .seq (.rg [⟨some 8, none, .mv (.t 1)⟩, ⟨some 6, none, .mv (.t 8)⟩]) (.seq (.rg [⟨some 9, none, .mv (.t 2)⟩, ⟨some 10, none, .bin .sub .leaf (.t 9) (.k (.int .i64 1))⟩, ⟨some 7, none, .mv (.t 10)⟩]) (.block 0 (.loop (.seq (.seq (.rg [⟨some 11, none, .mv (.t 6)⟩, ⟨some 12, none, .mv (.t 7)⟩, ⟨some 13, none, .bin .lss .leaf (.t 11) (.t 12)⟩]) (.cond (.t 13) .skip (.exit 0))) (.block 1 (.seq (.rd [(⟨some 14, none, .mv (.t 0)⟩, none), (⟨some 15, none, .mv (.t 6)⟩, none), (⟨some 16, none, .mv (.t 0)⟩, none), (⟨some 17, none, .mv (.t 7)⟩, none), (⟨some 18, none, .mv (.t 0)⟩, none), (⟨some 19, none, .mv (.t 7)⟩, none), (⟨some 20, none, .ia 1 (.t 18) (.t 19)⟩, none), (⟨some 21, none, .ld 1 false (.t 20)⟩, none), (⟨some 22, none, .mv (.t 0)⟩, none), (⟨some 23, none, .mv (.t 6)⟩, none), (⟨some 24, none, .ia 1 (.t 22) (.t 23)⟩, none), (⟨some 25, none, .ld 1 false (.t 24)⟩, none), (⟨some 26, none, .ia 1 (.t 14) (.t 15)⟩, none), (⟨none, none, .st 1 (.t 26) (.t 21)⟩, some []), (⟨some 27, none, .ia 1 (.t 16) (.t 17)⟩, none), (⟨none, none, .st 1 (.t 27) (.t 25)⟩, some [])]) (.seq (.rg [⟨some 28, none, .mv (.t 6)⟩, ⟨some 29, none, .bin .add .leaf (.t 28) (.k (.int .i64 1))⟩, ⟨some 6, none, .mv (.t 29)⟩]) (.rg [⟨some 30, none, .mv (.t 7)⟩, ⟨some 31, none, .bin .sub .leaf (.t 30) (.k (.int .i64 1))⟩, ⟨some 7, none, .mv (.t 31)⟩]))))))))⟩ := by kernel_rfl

theorem isNaN (x : Int) : Pure 164 [kD x] (.bool false) := by
  intro S tk
  refine ACalls.fgo c164 rfl fun hS => ?_
  repeat' first | with_reducible refine fzD_ite (fun q => ?_) (fun q => ?_) | ((try conv => whnf); first
    | refine bs_d (fun q => ?_) (fun q => ?_)
    | refine bs_n ?_
    | refine bs_i (fun q => ?_) (fun q => ?_)
    | refine eqk rfl ?_
    | refine ffin _ rfl rfl hS (Sub.refl _) rfl ⟨?_, rfl, rfl⟩)
  all_goals first | rfl | omega
theorem less (x y : Int) : Pure 130 [kD x, kD y] (.bool (ltInt x y)) := by
  intro S tk
  refine ACalls.fgo c130 rfl fun hS => ?_
  repeat' first | with_reducible refine fzD_ite (fun q => ?_) (fun q => ?_) | ((try conv => whnf); first
    | refine bs_d (fun q => ?_) (fun q => ?_)
    | refine bs_n ?_
    | refine bs_i (fun q => ?_) (fun q => ?_)
    | refine ck (by first | rfl | simp) rfl (isNaN _) ?_
    | refine cq (isNaN _) ?_
    | refine eqk rfl ?_
    | refine ffin _ rfl rfl hS (Sub.refl _) rfl ⟨?_, rfl, rfl⟩)
  all_goals simp [tupD, ltInt, *]

theorem ltt {x y : Int} (h : x < y) : ltInt x y = true := decide_eq_true h
theorem ltf {x y : Int} (h : ¬ x < y) : ltInt x y = false := decide_eq_false h
theorem ltn {x y : Int} (h : ¬ x < y) : ¬ ltInt x y = true := by rw [ltf h]; simp
abbrev vec (id n : Nat) : D := .vec id n 1
abbrev VI (d : Array Int) : O := VO kD 3 1 d
/-- a call turns the row d into d', and answers r -/
def Turns (f : FuncId) (id n : Nat) (ds : List D) (d : Array Int) (r : D) (d' : Array Int) : Prop :=
  ∀ (S0 : List O) (tk : Tks), id < S0.length → ACalls E0 f (vec id n :: ds) (S0.set id (VI d)) tk (fun r' S' tk' => r' = r ∧ S' = S0.set id (VI d') ∧ tk' = tk)

structure SI where
  d : Array Int
  i : Nat

theorem insertionSort (id n : Nat) (d : Array Int) (a b : Nat) (hd : d.size = n) (hab : a ≤ b) (hb : b ≤ n) (hn : n < 4611686018427387904) :
    Turns 124 id n [.int .i64 a, .int .i64 b] d (.tup []) (insertionSort ltInt d a b) := by
  intro S0 tk hid
  refine ACalls.fgo c124 rfl fun hS => ?_
  have hl : (S0.set id (VI d)).length = S0.length := List.length_set ..
  repeat' first | with_reducible refine fzD_ite (fun q => ?_) (fun q => ?_) | ((try conv => whnf); first
    | refine bs_d (fun q => ?_) (fun q => ?_)
    | refine bs_n ?_
    | refine bs_i (fun q => ?_) (fun q => ?_)
    | refine eqk rfl ?_
    | refine ffin _ rfl rfl hS (Sub.refl _) rfl ⟨?_, rfl, rfl⟩)
  refine floopS (α := SI) rfl (fun s => s.d.size = n ∧ a < s.i ∧ insOuter ltInt a b s.i s.d = Sort.insertionSort ltInt d a b) (fun s => b - s.i) (fun s => [(6, .d (.int .i64 s.i)), (0, .d (vec id n)), (1, .d (.int .i64 a)), (2, .d (.int .i64 b))])
    (fun s => S0.set id (VI s.d)) (fun _ => []) (fun _ => []) (fun s _ => ⟨by simp, osc_VO' kE _ hS⟩) ⟨d, a + 1⟩ ⟨hd, by simp, rfl⟩ rfl (fstep_sub ⟨Sub.int (by simp only [wi64]; omega), Sub.refl _, Sub.refl _, Sub.refl _, trivial⟩) ?_
  rintro s ⟨h1, h2, h3⟩
  repeat' first | with_reducible refine fzD_ite (fun q => ?_) (fun q => ?_) | ((try conv => whnf); first
    | refine bs_d (fun q => ?_) (fun q => ?_)
    | refine bs_n ?_
    | refine bs_i (fun q => ?_) (fun q => ?_)
    | refine eqk rfl ?_
    | refine ffin _ rfl rfl hS (Sub.refl _) rfl ⟨?_, rfl, rfl⟩)
  · refine floopS (α := SI) rfl (fun t => t.d.size = n ∧ a ≤ t.i ∧ t.i ≤ s.i ∧ insInner ltInt a t.i t.d = insInner ltInt a s.i s.d) (fun t => t.i) (fun t => [(7, .d (.int .i64 t.i)), (6, .d (.int .i64 s.i)), (0, .d (vec id n)), (1, .d (.int .i64 a)), (2, .d (.int .i64 b))])
      (fun t => S0.set id (VI t.d)) (fun _ => []) (fun _ => []) (fun t _ => ⟨by simp, osc_VO' kE _ hS⟩) s ⟨h1, by omega, by simp, rfl⟩ rfl (fstep_sub ⟨Sub.refl _, Sub.refl _, Sub.refl _, Sub.refl _, Sub.refl _, trivial⟩) ?_
    rintro t ⟨k1, k2, k3, k4⟩
    repeat' first | with_reducible refine fzD_ite (fun q => ?_) (fun q => ?_) | ((try conv => whnf); first
      | refine bs_d (fun q => ?_) (fun q => ?_)
      | refine bs_n ?_
      | refine bs_i (fun q => ?_) (fun q => ?_)
      | refine ck (by first | rfl | simp) rfl (less _ _) ?_
      | refine cq (less _ _) ?_
      | refine pK_i (iaD_vecN (k := t.i) (by first | rfl | omega | (refine Int.sub_eq_zero.mp ?_; simp (disch := ((try unfold I64); omega)) only [wi64_id, td]; omega)) (by omega)) ?_
      | refine pK_i (iaD_vecN (k := t.i - 1) (by first | rfl | omega | (refine Int.sub_eq_zero.mp ?_; simp (disch := ((try unfold I64); omega)) only [wi64_id, td]; omega)) (by omega)) ?_
      | refine pK_i (ldV_VO kE hid k1 (by omega)) ?_
      | refine gk_stVO kE hid (List.length_set ..).symm rfl rfl (by simpa using k1) (by omega) rfl ?_
      | refine eqk rfl ?_
      | refine ffin _ rfl rfl hS (Sub.refl _) rfl ⟨?_, rfl, rfl⟩)
    · skip
      refine fnextS (α := SI) ⟨swp t.d t.i (t.i - 1), t.i - 1⟩ ⟨by rw [size_swp']; exact k1, by simp only; omega, by simp only; omega, ?_⟩ (by simp only; omega) rfl (fstep_sub ⟨Sub.int (by first | rfl | omega | (refine Int.sub_eq_zero.mp ?_; simp (disch := ((try unfold I64); omega)) only [wi64_id, td]; omega)), Sub.refl _, Sub.refl _, Sub.refl _, Sub.refl _, trivial⟩)
      rw [← k4, insInner_step (i := t.i) (d := t.d) (by omega) (ltt q)]
    · skip
      refine fnextS (α := SI) ⟨t.d, s.i + 1⟩ ⟨k1, by simp only; omega, ?_⟩ (by simp only; omega) rfl (fstep_sub ⟨Sub.int (by first | rfl | omega | (refine Int.sub_eq_zero.mp ?_; simp (disch := ((try unfold I64); omega)) only [wi64_id, td]; omega)), Sub.refl _, Sub.refl _, Sub.refl _, trivial⟩)
      rw [← h3, insOuter_step (i := s.i) (by omega), ← k4, insInner_stop fun _ => ltf q]
    · refine fnextS (α := SI) ⟨t.d, s.i + 1⟩ ⟨k1, by simp only; omega, ?_⟩ (by simp only; omega) rfl (fstep_sub ⟨Sub.int (by first | rfl | omega | (refine Int.sub_eq_zero.mp ?_; simp (disch := ((try unfold I64); omega)) only [wi64_id, td]; omega)), Sub.refl _, Sub.refl _, Sub.refl _, trivial⟩)
      rw [← h3, insOuter_step (i := s.i) (by omega), ← k4, insInner_stop fun h => by omega]
  · refine ffin _ (by simp) rfl (osc_VO' kE _ hS) (Sub.refl _) rfl ⟨rfl, ?_, rfl⟩
    rw [← h3, insOuter_stop (by omega)]
set_option maxHeartbeats 1000000 in
theorem siftDown (id n : Nat) (d : Array Int) (lo hi first : Nat) (hd : d.size = n) (hlo : lo ≤ n) (hb : first + hi ≤ n) (hn : n < 4611686018427387904) :
    Turns 159 id n [.int .i64 lo, .int .i64 hi, .int .i64 first] d (.tup []) (siftDown ltInt hi first lo d) := by
  intro S0 tk hid
  refine ACalls.fgo c159 rfl fun hS => ?_
  repeat' first | with_reducible refine fzD_ite (fun q => ?_) (fun q => ?_) | ((try conv => whnf); first
    | refine bs_d (fun q => ?_) (fun q => ?_)
    | refine bs_n ?_
    | refine bs_i (fun q => ?_) (fun q => ?_)
    | refine eqk rfl ?_
    | refine ffin _ rfl rfl hS (Sub.refl _) rfl ⟨?_, rfl, rfl⟩)
  refine floopS (α := SI) rfl (fun s => s.d.size = n ∧ s.i ≤ n ∧ Sort.siftDown ltInt hi first s.i s.d = Sort.siftDown ltInt hi first lo d) (fun s => n - s.i) (fun s => [(8, .d (.int .i64 s.i)), (0, .d (vec id n)), (2, .d (.int .i64 hi)), (3, .d (.int .i64 first))])
    (fun s => S0.set id (VI s.d)) (fun _ => []) (fun _ => []) (fun s _ => ⟨by simp, osc_VO' kE _ hS⟩) ⟨d, lo⟩ ⟨hd, hlo, rfl⟩ rfl (fstep_sub ⟨Sub.refl _, Sub.refl _, Sub.refl _, Sub.refl _, trivial⟩) ?_
  rintro s ⟨h1, h2, h3⟩
  repeat' first | with_reducible refine fzD_ite (fun q => ?_) (fun q => ?_) | ((try conv => whnf); first
    | refine bs_d (fun q => ?_) (fun q => ?_) <;> (try simp (disch := ((try unfold I64); omega)) only [wi64_id, td] at q)
    | refine bs_n ?_
    | refine bs_i (fun q => ?_) (fun q => ?_)
    | refine ck (by first | rfl | simp) rfl (less _ _) ?_
    | refine cq (less _ _) ?_
    | refine pK_i (iaD_vecN (k := first + s.i) (by first | rfl | omega | (refine Int.sub_eq_zero.mp ?_; simp (disch := ((try unfold I64); omega)) only [wi64_id, td]; omega)) (by omega)) ?_
    | refine pK_i (iaD_vecN (k := first + (2 * s.i + 1)) (by first | rfl | omega | (refine Int.sub_eq_zero.mp ?_; simp (disch := ((try unfold I64); omega)) only [wi64_id, td]; omega)) (by omega)) ?_
    | refine pK_i (iaD_vecN (k := first + (2 * s.i + 1 + 1)) (by first | rfl | omega | (refine Int.sub_eq_zero.mp ?_; simp (disch := ((try unfold I64); omega)) only [wi64_id, td]; omega)) (by omega)) ?_
    | refine pK_i (ldV_VO kE hid h1 (by omega)) ?_
    | refine gk_stVO kE hid (List.length_set ..).symm rfl rfl (by simpa using h1) (by omega) rfl ?_
    | refine ffin _ (by simp) rfl (osc_VO' kE _ hS) (Sub.refl _) rfl ⟨rfl, ?_, rfl⟩
    | refine eqk rfl ?_
    | refine ffin _ rfl rfl hS (Sub.refl _) rfl ⟨?_, rfl, rfl⟩)
  · rw [← h3, siftDown_stop (by omega)]
  · rename_i q2 q3 q4
    refine fnextS (α := SI) ⟨swp s.d (first + s.i) (first + (2 * s.i + 1 + 1)), 2 * s.i + 1 + 1⟩ ⟨by rw [size_swp']; exact h1, by simp only; omega, ?_⟩ (by simp only; omega) rfl (fstep_sub ⟨Sub.int (by first | rfl | omega | (refine Int.sub_eq_zero.mp ?_; simp (disch := ((try unfold I64); omega)) only [wi64_id, td]; omega)), Sub.refl _, Sub.refl _, Sub.refl _, trivial⟩)
    rw [← h3, siftDown_b1 (r := s.i) (by omega) (by omega) (ltt q4), if_pos (ltt q)]
  · rename_i q2 q3 q4
    rw [← h3, siftDown_b1 (r := s.i) (by omega) (by omega) (ltt q4), if_neg (ltn q)]
  · rename_i q2 q3 q4
    refine fnextS (α := SI) ⟨swp s.d (first + s.i) (first + (2 * s.i + 1)), 2 * s.i + 1⟩ ⟨by rw [size_swp']; exact h1, by simp only; omega, ?_⟩ (by simp only; omega) rfl (fstep_sub ⟨Sub.int (by first | rfl | omega | (refine Int.sub_eq_zero.mp ?_; simp (disch := ((try unfold I64); omega)) only [wi64_id, td]; omega)), Sub.refl _, Sub.refl _, Sub.refl _, trivial⟩)
    rw [← h3, siftDown_b2 (r := s.i) (by omega) (fun _ => ltf q4), if_pos (ltt q)]
  · rename_i q2 q3 q4
    rw [← h3, siftDown_b2 (r := s.i) (by omega) (fun _ => ltf q4), if_neg (ltn q)]
  · refine fnextS (α := SI) ⟨swp s.d (first + s.i) (first + (2 * s.i + 1)), 2 * s.i + 1⟩ ⟨by rw [size_swp']; exact h1, by simp only; omega, ?_⟩ (by simp only; omega) rfl (fstep_sub ⟨Sub.int (by first | rfl | omega | (refine Int.sub_eq_zero.mp ?_; simp (disch := ((try unfold I64); omega)) only [wi64_id, td]; omega)), Sub.refl _, Sub.refl _, Sub.refl _, trivial⟩)
    rw [← h3, siftDown_b2 (r := s.i) (by omega) (fun h => by omega), if_pos (ltt q)]
  · rw [← h3, siftDown_b2 (r := s.i) (by omega) (fun h => by omega), if_neg (ltn q)]

structure SJ where
  d : Array Int
  i : Nat
  j : Nat

theorem reverseRange (id n : Nat) (d : Array Int) (a b : Nat) (hd : d.size = n) (hab : a < b) (hb : b ≤ n) (hn : n < 4611686018427387904) :
    Turns 128 id n [.int .i64 a, .int .i64 b] d (.tup []) (reverseRange d a b) := by
  intro S0 tk hid
  refine ACalls.fgo c128 rfl fun hS => ?_
  repeat' first | with_reducible refine fzD_ite (fun q => ?_) (fun q => ?_) | ((try conv => whnf); first
    | refine bs_d (fun q => ?_) (fun q => ?_)
    | refine bs_n ?_
    | refine bs_i (fun q => ?_) (fun q => ?_)
    | refine eqk rfl ?_
    | refine ffin _ rfl rfl hS (Sub.refl _) rfl ⟨?_, rfl, rfl⟩)
  refine floopS (α := SJ) rfl (fun s => s.d.size = n ∧ a ≤ s.i ∧ s.i ≤ n ∧ s.j + 1 ≤ b ∧ a ≤ s.j + 1 ∧ (s.i < s.j → 0 < s.j) ∧ Sort.reverseLoop s.i s.j s.d = Sort.reverseRange d a b) (fun s => n + s.j - s.i) (fun s => [(6, .d (.int .i64 s.i)), (7, .d (.int .i64 s.j)), (0, .d (vec id n))])
    (fun s => S0.set id (VI s.d)) (fun _ => []) (fun _ => []) (fun s _ => ⟨by simp, osc_VO' kE _ hS⟩) ⟨d, a, b - 1⟩ ⟨hd, by simp, by simp only; omega, by simp only; omega, by simp only; omega, by simp only; omega, rfl⟩ rfl (fstep_sub ⟨Sub.refl _, Sub.int (by first | rfl | omega | (refine Int.sub_eq_zero.mp ?_; simp (disch := ((try unfold I64); omega)) only [wi64_id, td]; omega)), Sub.refl _, trivial⟩) ?_
  rintro s ⟨h1, h2, h3, h4, h5, h6, h7⟩
  repeat' first | with_reducible refine fzD_ite (fun q => ?_) (fun q => ?_) | ((try conv => whnf); first
    | refine bs_d (fun q => ?_) (fun q => ?_) <;> (try simp (disch := ((try unfold I64); omega)) only [wi64_id, td] at q)
    | refine bs_n ?_
    | refine bs_i (fun q => ?_) (fun q => ?_)
    | refine pK_i (iaD_vecN (k := s.i) (by first | rfl | omega | (refine Int.sub_eq_zero.mp ?_; simp (disch := ((try unfold I64); omega)) only [wi64_id, td]; omega)) (by omega)) ?_
    | refine pK_i (iaD_vecN (k := s.j) (by first | rfl | omega | (refine Int.sub_eq_zero.mp ?_; simp (disch := ((try unfold I64); omega)) only [wi64_id, td]; omega)) (by omega)) ?_
    | refine pK_i (ldV_VO kE hid h1 (by omega)) ?_
    | refine gk_stVO kE hid (List.length_set ..).symm rfl rfl (by simpa using h1) (by omega) rfl ?_
    | refine ffin _ (by simp) rfl (osc_VO' kE _ hS) (Sub.refl _) rfl ⟨rfl, ?_, rfl⟩
    | refine eqk rfl ?_
    | refine ffin _ rfl rfl hS (Sub.refl _) rfl ⟨?_, rfl, rfl⟩)
  · refine fnextS (α := SJ) ⟨swp s.d s.i s.j, s.i + 1, s.j - 1⟩ ⟨by rw [size_swp']; exact h1, by simp only; omega, by simp only; omega, by simp only; omega, by simp only; omega, by simp only; omega, ?_⟩ (by simp only; omega) rfl (fstep_sub ⟨Sub.int (by first | rfl | omega | (refine Int.sub_eq_zero.mp ?_; simp (disch := ((try unfold I64); omega)) only [wi64_id, td]; omega)), Sub.int (by first | rfl | omega | (refine Int.sub_eq_zero.mp ?_; simp (disch := ((try unfold I64); omega)) only [wi64_id, td]; omega)), Sub.refl _, trivial⟩)
    rw [← h7, reverseLoop_step (i := s.i) (by omega)]
  · rw [← h7, reverseLoop_stop (by omega)]

theorem size_heapBuild (hi first : Nat) : ∀ (k : Nat) (d : Array Int), (heapBuild ltInt hi first k d).size = d.size
  | 0, d => rfl
  | k + 1, d => by rw [heapBuild, size_heapBuild hi first k, size_sift']

theorem heapSort (id n : Nat) (d : Array Int) (a b : Nat) (hd : d.size = n) (hab : a ≤ b) (hb : b ≤ n) (hn : n < 4611686018427387904) :
    Turns 125 id n [.int .i64 a, .int .i64 b] d (.tup []) (heapSort ltInt d a b) := by
  intro S0 tk hid
  refine ACalls.fgo c125 rfl fun hS => ?_
  repeat' first | with_reducible refine fzD_ite (fun q => ?_) (fun q => ?_) | ((try conv => whnf); first
    | refine bs_d (fun q => ?_) (fun q => ?_)
    | refine bs_n ?_
    | refine bs_i (fun q => ?_) (fun q => ?_)
    | refine eqk rfl ?_
    | refine ffin _ rfl rfl hS (Sub.refl _) rfl ⟨?_, rfl, rfl⟩)
  refine floopS (α := SI) rfl (fun s => s.d.size = n ∧ s.i ≤ n + 1 ∧ heapBuild ltInt (b - a) a s.i s.d = heapBuild ltInt (b - a) a ((b - a - 1) / 2 + 1) d) (fun s => s.i) (fun s => [(9, .d (.int .i64 ((s.i : Int) - 1))), (0, .d (vec id n)), (6, .d (.int .i64 a)), (7, .d (.int .i64 ((0 : Nat) : Int))), (8, .d (.int .i64 ((b - a : Nat) : Int)))])
    (fun s => S0.set id (VI s.d)) (fun _ => []) (fun _ => []) (fun s _ => ⟨by simp, osc_VO' kE _ hS⟩) ⟨d, (b - a - 1) / 2 + 1⟩ ⟨hd, by simp only; omega, rfl⟩ rfl (fstep_sub ⟨Sub.int ?_, Sub.refl _, Sub.refl _, Sub.refl _, Sub.int (by first | rfl | omega | (refine Int.sub_eq_zero.mp ?_; simp (disch := ((try unfold I64); omega)) only [wi64_id, td]; omega)), trivial⟩) ?_
  · simp (disch := (unfold I64; omega)) only [wi64_id]
    rw [tdiv2 (by omega)]
    split <;> (rw [wi64_id (by unfold I64; omega)]; omega)
  rintro s ⟨h1, h2, h3⟩
  repeat' first | with_reducible refine fzD_ite (fun q => ?_) (fun q => ?_) | ((try conv => whnf); first
    | refine bs_d (fun q => ?_) (fun q => ?_) <;> (try simp (disch := ((try unfold I64); omega)) only [wi64_id, td] at q)
    | refine bs_n ?_
    | refine bs_i (fun q => ?_) (fun q => ?_)
    | refine ckVOS hid (List.length_set ..).symm rfl (siftDown id n s.d (s.i - 1) (b - a) a h1 (by omega) (by omega) hn) (.cons (Sub.refl _) (.cons (Sub.int (by omega)) (.cons (Sub.refl _) (.cons (Sub.refl _) .nil)))) ?_
    | refine eqk rfl ?_
    | refine ffin _ rfl rfl hS (Sub.refl _) rfl ⟨?_, rfl, rfl⟩)
  · refine fnextS (α := SI) ⟨Sort.siftDown ltInt (b - a) a (s.i - 1) s.d, s.i - 1⟩ ⟨by rw [size_sift']; exact h1, by simp only; omega, ?_⟩ (by simp only; omega) rfl (fstep_sub ⟨Sub.int (by first | rfl | omega | (refine Int.sub_eq_zero.mp ?_; simp (disch := ((try unfold I64); omega)) only [wi64_id, td]; omega)), Sub.refl _, Sub.refl _, Sub.refl _, Sub.refl _, trivial⟩)
    rw [← h3]
    obtain ⟨k, hk⟩ : ∃ k, s.i = k + 1 := ⟨s.i - 1, by omega⟩
    simp only [hk, heapBuild, Nat.add_sub_cancel]
  · have h0 : s.i = 0 := by omega
    rw [h0, heapBuild] at h3
    refine floopS (α := SI) rfl (fun t => t.d.size = n ∧ t.i ≤ b - a ∧ heapPop ltInt a t.i t.d = Sort.heapSort ltInt d a b) (fun t => t.i) (fun t => [(10, .d (.int .i64 ((t.i : Int) - 1))), (0, .d (vec id n)), (6, .d (.int .i64 a)), (7, .d (.int .i64 ((0 : Nat) : Int)))])
      (fun t => S0.set id (VI t.d)) (fun _ => []) (fun _ => []) (fun t _ => ⟨by simp, osc_VO' kE _ hS⟩) ⟨s.d, b - a⟩ ⟨h1, Nat.le_refl _, by simp only [Sort.heapSort, ← h3]⟩ rfl (fstep_sub ⟨Sub.int (by first | rfl | omega | (refine Int.sub_eq_zero.mp ?_; simp (disch := ((try unfold I64); omega)) only [wi64_id, td]; omega)), Sub.refl _, Sub.refl _, Sub.refl _, trivial⟩) ?_
    rintro t ⟨k1, k2, k3⟩
    repeat' first | with_reducible refine fzD_ite (fun q => ?_) (fun q => ?_) | ((try conv => whnf); first
      | refine bs_d (fun q => ?_) (fun q => ?_) <;> (try simp (disch := ((try unfold I64); omega)) only [wi64_id, td] at q)
      | refine bs_n ?_
      | refine bs_i (fun q => ?_) (fun q => ?_)
      | refine ckVOS hid (List.length_set ..).symm rfl (siftDown id n (swp t.d a (a + (t.i - 1))) 0 (t.i - 1) a (by rw [size_swp']; exact k1) (by omega) (by omega) hn) (.cons (Sub.refl _) (.cons (Sub.refl _) (.cons (Sub.int (by omega)) (.cons (Sub.refl _) .nil)))) ?_
      | refine pK_i (iaD_vecN (k := a) (by first | rfl | omega | (refine Int.sub_eq_zero.mp ?_; simp (disch := ((try unfold I64); omega)) only [wi64_id, td]; omega)) (by omega)) ?_
      | refine pK_i (iaD_vecN (k := a + (t.i - 1)) (by first | rfl | omega | (refine Int.sub_eq_zero.mp ?_; simp (disch := ((try unfold I64); omega)) only [wi64_id, td]; omega)) (by omega)) ?_
      | refine pK_i (ldV_VO kE hid k1 (by omega)) ?_
      | refine gk_stVO kE hid (List.length_set ..).symm rfl rfl (by simpa using k1) (by omega) rfl ?_
      | refine ffin _ (by simp) rfl (osc_VO' kE _ hS) (Sub.refl _) rfl ⟨rfl, ?_, rfl⟩
      | refine eqk rfl ?_
      | refine ffin _ rfl rfl hS (Sub.refl _) rfl ⟨?_, rfl, rfl⟩)
    · refine fnextS (α := SI) ⟨Sort.siftDown ltInt (t.i - 1) a 0 (swp t.d a (a + (t.i - 1))), t.i - 1⟩ ⟨by rw [size_sift', size_swp']; exact k1, by simp only; omega, ?_⟩ (by simp only; omega) rfl (fstep_sub ⟨Sub.int (by first | rfl | omega | (refine Int.sub_eq_zero.mp ?_; simp (disch := ((try unfold I64); omega)) only [wi64_id, td]; omega)), Sub.refl _, Sub.refl _, Sub.refl _, trivial⟩)
      rw [← k3]
      obtain ⟨k, hk⟩ : ∃ k, t.i = k + 1 := ⟨t.i - 1, by omega⟩
      simp only [hk, heapPop, Nat.add_sub_cancel]
    · have h0 : t.i = 0 := by omega
      rw [h0, heapPop] at k3
      rw [k3]
end Go.KL.Ythaoejicodhgaaa

/- slices.Sort: the choice of a pivot -/
set_option linter.unusedVariables false
set_option linter.unusedSimpArgs false
set_option linter.unusedSectionVars false
set_option maxRecDepth 4000
namespace Go.KL.Ythaoejicodhgaaa
open Go Go.KL Go.RowKit Go.Proofs Go.Sort

theorem c189 : cFun E0.P 189 = some ⟨28, [(8, none), (9, none)], .seq (.rg [⟨some 8, none, .mv (.k (.int .i64 0))⟩, ⟨some 9, none, .mv (.k (.int .i64 0))⟩]) (.seq (.seq (.rd [(⟨some 10, none, .mv (.t 0)⟩, none), (⟨some 11, none, .mv (.t 2)⟩, none), (⟨some 12, none, .ia 1 (.t 10) (.t 11)⟩, none), (⟨some 13, none, .ld 1 false (.t 12)⟩, none), (⟨some 14, none, .mv (.t 0)⟩, none), (⟨some 15, none, .mv (.t 1)⟩, none), (⟨some 16, none, .ia 1 (.t 14) (.t 15)⟩, none), (⟨some 17, none, .ld 1 false (.t 16)⟩, none), (⟨some 18, none, .call 130 [.t 13, .t 17]⟩, some [])]) (.cond (.t 18) (.seq (.rg [⟨some 19, none, .mv (.t 3)⟩, ⟨some 20, none, .nilck (.t 19)⟩, ⟨some 21, none, .ld 1 false (.t 20)⟩, ⟨some 22, none, .bin .add .leaf (.t 21) (.k (.int .i64 1))⟩, ⟨some 23, none, .nilck (.t 19)⟩, ⟨none, none, .st 1 (.t 23) (.t 22)⟩]) (.seq (.rg [⟨some 24, none, .mv (.t 2)⟩, ⟨some 25, none, .mv (.t 1)⟩, ⟨some 8, none, .mv (.t 24)⟩, ⟨some 9, none, .mv (.t 25)⟩]) .ret)) .skip)) (.seq (.rg [⟨some 26, none, .mv (.t 1)⟩, ⟨some 27, none, .mv (.t 2)⟩, ⟨some 8, none, .mv (.t 26)⟩, ⟨some 9, none, .mv (.t 27)⟩]) .ret))⟩ := by kernel_rfl
theorem c163 : cFun E0.P 163 = some ⟨36, [(10, none)], .seq (.rg [⟨some 10, none, .mv (.k (.int .i64 0))⟩]) (.seq (.rg [⟨some 12, none, .mv (.t 0)⟩, ⟨some 13, none, .mv (.t 1)⟩, ⟨some 14, none, .mv (.t 2)⟩, ⟨some 15, none, .mv (.t 4)⟩, ⟨some 16, none, .call 189 [.t 12, .t 13, .t 14, .t 15]⟩, ⟨some 11, none, .mv (.t 16)⟩, ⟨some 17, none, .ext 0 (.t 11)⟩, ⟨some 18, none, .ext 1 (.t 11)⟩, ⟨some 1, none, .mv (.t 17)⟩, ⟨some 2, none, .mv (.t 18)⟩]) (.seq (.rg [⟨some 20, none, .mv (.t 0)⟩, ⟨some 21, none, .mv (.t 2)⟩, ⟨some 22, none, .mv (.t 3)⟩, ⟨some 23, none, .mv (.t 4)⟩, ⟨some 24, none, .call 189 [.t 20, .t 21, .t 22, .t 23]⟩, ⟨some 19, none, .mv (.t 24)⟩, ⟨some 25, none, .ext 0 (.t 19)⟩, ⟨some 26, none, .ext 1 (.t 19)⟩, ⟨some 2, none, .mv (.t 25)⟩, ⟨some 3, none, .mv (.t 26)⟩]) (.seq (.rg [⟨some 28, none, .mv (.t 0)⟩, ⟨some 29, none, .mv (.t 1)⟩, ⟨some 30, none, .mv (.t 2)⟩, ⟨some 31, none, .mv (.t 4)⟩, ⟨some 32, none, .call 189 [.t 28, .t 29, .t 30, .t 31]⟩, ⟨some 27, none, .mv (.t 32)⟩, ⟨some 33, none, .ext 0 (.t 27)⟩, ⟨some 34, none, .ext 1 (.t 27)⟩, ⟨some 1, none, .mv (.t 33)⟩, ⟨some 2, none, .mv (.t 34)⟩]) (.seq (.rg [⟨some 35, none, .mv (.t 2)⟩, ⟨some 10, none, .mv (.t 35)⟩]) .ret))))⟩ := by kernel_rfl
theorem c162 : cFun E0.P 162 = some ⟨15, [(6, none)], .seq (.rg [⟨some 6, none, .mv (.k (.int .i64 0))⟩]) (.seq (.rg [⟨some 7, none, .mv (.t 0)⟩, ⟨some 8, none, .mv (.t 1)⟩, ⟨some 9, none, .bin .sub .leaf (.t 8) (.k (.int .i64 1))⟩, ⟨some 10, none, .mv (.t 1)⟩, ⟨some 11, none, .mv (.t 1)⟩, ⟨some 12, none, .bin .add .leaf (.t 11) (.k (.int .i64 1))⟩, ⟨some 13, none, .mv (.t 2)⟩, ⟨some 14, none, .call 163 [.t 7, .t 9, .t 10, .t 12, .t 13]⟩, ⟨some 6, none, .mv (.t 14)⟩]) .ret)⟩ := by kernel_rfl
theorem c127 : cFun E0.P 127 = some ⟨57, [(6, none), (7, none)], .seq (.rg [⟨some 6, none, .mv (.k (.int .i64 0))⟩, ⟨some 7, none, .mv (.k (.int .i64 0))⟩]) (.seq (.rg [⟨some 13, none, .mv (.t 2)⟩, ⟨some 14, none, .mv (.t 1)⟩, ⟨some 15, none, .bin .sub .leaf (.t 13) (.t 14)⟩, ⟨some 8, none, .mv (.t 15)⟩]) (.seq (.rg [⟨some 9, none, .alloc [.int .i64 0] 3⟩]) (.seq (.rg [⟨some 16, none, .mv (.t 1)⟩, ⟨some 17, none, .mv (.t 8)⟩, ⟨some 18, none, .bin .quo .leaf (.t 17) (.k (.int .i64 4))⟩, ⟨some 19, none, .bin .mul .leaf (.t 18) (.k (.int .i64 1))⟩, ⟨some 20, none, .bin .add .leaf (.t 16) (.t 19)⟩, ⟨some 10, none, .mv (.t 20)⟩]) (.seq (.rg [⟨some 21, none, .mv (.t 1)⟩, ⟨some 22, none, .mv (.t 8)⟩, ⟨some 23, none, .bin .quo .leaf (.t 22) (.k (.int .i64 4))⟩, ⟨some 24, none, .bin .mul .leaf (.t 23) (.k (.int .i64 2))⟩, ⟨some 25, none, .bin .add .leaf (.t 21) (.t 24)⟩, ⟨some 11, none, .mv (.t 25)⟩]) (.seq (.rg [⟨some 26, none, .mv (.t 1)⟩, ⟨some 27, none, .mv (.t 8)⟩, ⟨some 28, none, .bin .quo .leaf (.t 27) (.k (.int .i64 4))⟩, ⟨some 29, none, .bin .mul .leaf (.t 28) (.k (.int .i64 3))⟩, ⟨some 30, none, .bin .add .leaf (.t 26) (.t 29)⟩, ⟨some 12, none, .mv (.t 30)⟩]) (.seq (.seq (.rg [⟨some 31, none, .mv (.t 8)⟩, ⟨some 32, none, .bin .geq .leaf (.t 31) (.k (.int .i64 8))⟩]) (.cond (.t 32) (.seq (.seq (.rg [⟨some 33, none, .mv (.t 8)⟩, ⟨some 34, none, .bin .geq .leaf (.t 33) (.k (.int .i64 50))⟩]) (.cond (.t 34) (.seq (.rg [⟨some 35, none, .mv (.t 0)⟩, ⟨some 36, none, .mv (.t 10)⟩, ⟨some 37, none, .call 162 [.t 35, .t 36, .t 9]⟩, ⟨some 10, none, .mv (.t 37)⟩]) (.seq (.rg [⟨some 38, none, .mv (.t 0)⟩, ⟨some 39, none, .mv (.t 11)⟩, ⟨some 40, none, .call 162 [.t 38, .t 39, .t 9]⟩, ⟨some 11, none, .mv (.t 40)⟩]) (.rg [⟨some 41, none, .mv (.t 0)⟩, ⟨some 42, none, .mv (.t 12)⟩, ⟨some 43, none, .call 162 [.t 41, .t 42, .t 9]⟩, ⟨some 12, none, .mv (.t 43)⟩]))) .skip)) (.rg [⟨some 44, none, .mv (.t 0)⟩, ⟨some 45, none, .mv (.t 10)⟩, ⟨some 46, none, .mv (.t 11)⟩, ⟨some 47, none, .mv (.t 12)⟩, ⟨some 48, none, .call 163 [.t 44, .t 45, .t 46, .t 47, .t 9]⟩, ⟨some 11, none, .mv (.t 48)⟩])) .skip)) (.seq (.rg [⟨some 49, none, .ld 1 false (.t 9)⟩]) (.block 0 (.seq (.rg [⟨some 52, none, .bin .eql .leaf (.t 49) (.k (.int .i64 0))⟩, ⟨some 51, none, .mv (.t 52)⟩]) (.cond (.t 51) (.seq (.rg [⟨some 53, none, .mv (.t 11)⟩, ⟨some 6, none, .mv (.t 53)⟩, ⟨some 7, none, .mv (.k (.int .i64 1))⟩]) .ret) (.seq (.rg [⟨some 55, none, .bin .eql .leaf (.t 49) (.k (.int .i64 12))⟩, ⟨some 54, none, .mv (.t 55)⟩]) (.cond (.t 54) (.seq (.rg [⟨some 56, none, .mv (.t 11)⟩, ⟨some 6, none, .mv (.t 56)⟩, ⟨some 7, none, .mv (.k (.int .i64 2))⟩]) .ret) (.seq (.rg [⟨some 50, none, .mv (.t 11)⟩, ⟨some 6, none, .mv (.t 50)⟩, ⟨some 7, none, .mv (.k (.int .i64 0))⟩]) .ret)))))))))))))⟩ := by kernel_rfl

abbrev SwI (S0 : List O) (pid k id : Nat) (d : Array Int) : List O := SwS kD 3 1 S0 pid k id d
abbrev Counts (f : FuncId) (id pid n : Nat) (ds : List D) (d : Array Int) (k : Nat) (r : D) (k' : Nat) : Prop := SwC kD 3 1 E0 f id pid (vec id n :: ds) d k r k'

theorem order2 (id pid n : Nat) (d : Array Int) (a b k : Nat) (hd : d.size = n) (ha : a < n) (hb : b < n) (hn : n < 4611686018427387904) (hk : k < 4611686018427387904) :
    Counts 189 id pid n [.int .i64 a, .int .i64 b, .po pid 0] d k (.tup [.int .i64 (order2 ltInt d a b k).1, .int .i64 (order2 ltInt d a b k).2.1]) (order2 ltInt d a b k).2.2 := by
  intro S0 tk hid hp hne
  refine ACalls.fgo c189 rfl fun hS => ?_
  repeat' first | with_reducible refine fzD_ite (fun q => ?_) (fun q => ?_) | ((try conv => whnf); first
    | refine bs_d (fun q => ?_) (fun q => ?_) <;> (try simp (disch := ((try unfold I64); omega)) only [wi64_id, td] at q)
    | refine bs_n ?_
    | refine bs_i (fun q => ?_) (fun q => ?_)
    | refine ck (by first | rfl | simp) rfl (less _ _) ?_
    | refine cq (less _ _) ?_
    | refine pK_i (iaD_vecN (k := b) (by first | rfl | omega | (refine Int.sub_eq_zero.mp ?_; simp (disch := ((try unfold I64); omega)) only [wi64_id, td]; omega)) (by omega)) ?_
    | refine pK_i (iaD_vecN (k := a) (by first | rfl | omega | (refine Int.sub_eq_zero.mp ?_; simp (disch := ((try unfold I64); omega)) only [wi64_id, td]; omega)) (by omega)) ?_
    | refine pK_i (ldV_Sw kE hid hd (by omega)) ?_
    | refine pK_i (ldO_Sw hp hne) ?_
    | refine gk_stSw (k' := k + 1) hp hne SwS_len.symm rfl rfl (congrArg (D.int .i64) (by first | rfl | omega | (refine Int.sub_eq_zero.mp ?_; simp (disch := ((try unfold I64); omega)) only [wi64_id, td]; omega))) ?_
    | refine ffin _ (by simp [SwS_len]) rfl (osc_Sw hne hS) (Sub.refl _) rfl ⟨?_, ?_, rfl⟩
    | refine eqk rfl ?_
    | refine ffin _ rfl rfl hS (Sub.refl _) rfl ⟨?_, rfl, rfl⟩)
  · rw [Sort.order2, if_pos (ltt q)]; rfl
  · rw [Sort.order2, if_pos (ltt q)]
  · rw [Sort.order2, if_neg (ltn q)]; rfl
  · rw [Sort.order2, if_neg (ltn q)]

theorem median (id pid n : Nat) (d : Array Int) (a b c k : Nat) (hd : d.size = n) (ha : a < n) (hb : b < n) (hc : c < n) (hn : n < 4611686018427387904) (hk : k < 4611686018427387900) :
    Counts 163 id pid n [.int .i64 a, .int .i64 b, .int .i64 c, .po pid 0] d k (.int .i64 (median ltInt d a b c k).1) (median ltInt d a b c k).2 := by
  intro S0 tk hid hp hne
  have m1 := order2_mem ltInt d a b k
  have k1 := order2_count (lt := ltInt) d a b k
  generalize e1 : Sort.order2 ltInt d a b k = r1 at m1 k1
  have m2 := order2_mem ltInt d r1.2.1 c r1.2.2
  have k2 := order2_count (lt := ltInt) d r1.2.1 c r1.2.2
  generalize e2 : Sort.order2 ltInt d r1.2.1 c r1.2.2 = r2 at m2 k2
  have m3 := order2_mem ltInt d r1.1 r2.1 r2.2.2
  have c1 := order2 id pid n d a b k hd ha hb hn (by omega)
  have c2 := order2 id pid n d r1.2.1 c r1.2.2 hd (by omega) hc hn (by omega)
  have c3 := order2 id pid n d r1.1 r2.1 r2.2.2 hd (by omega) (by omega) hn (by omega)
  rw [e1] at c1
  rw [e2] at c2
  refine ACalls.fgo c163 rfl fun hS => ?_
  repeat' first | with_reducible refine fzD_ite (fun q => ?_) (fun q => ?_) | ((try conv => whnf); first
    | refine bs_d (fun q => ?_) (fun q => ?_) <;> (try simp (disch := ((try unfold I64); omega)) only [wi64_id, td] at q)
    | refine bs_n ?_
    | refine bs_i (fun q => ?_) (fun q => ?_)
    | refine ckSw hid hp hne SwS_len.symm rfl c1 (SubL.refl _) ?_
    | refine ckSw hid hp hne SwS_len.symm rfl c2 (SubL.refl _) ?_
    | refine ckSw hid hp hne SwS_len.symm rfl c3 (SubL.refl _) ?_
    | refine ffin _ (by simp [SwS_len]) rfl (osc_Sw hne hS) (Sub.refl _) rfl ⟨?_, ?_, rfl⟩
    | refine eqk rfl ?_
    | refine ffin _ rfl rfl hS (Sub.refl _) rfl ⟨?_, rfl, rfl⟩)
  · simp only [Sort.median, e1, e2]; rfl
  · simp only [Sort.median, e1, e2]

theorem medianAdjacent (id pid n : Nat) (d : Array Int) (a k : Nat) (hd : d.size = n) (ha : 0 < a) (hb : a + 1 < n) (hn : n < 4611686018427387904) (hk : k < 4611686018427387900) :
    Counts 162 id pid n [.int .i64 a, .po pid 0] d k (.int .i64 (medianAdjacent ltInt d a k).1) (medianAdjacent ltInt d a k).2 := by
  intro S0 tk hid hp hne
  have c1 := median id pid n d (a - 1) a (a + 1) k hd (by omega) (by omega) hb hn hk
  refine ACalls.fgo c162 rfl fun hS => ?_
  repeat' first | with_reducible refine fzD_ite (fun q => ?_) (fun q => ?_) | ((try conv => whnf); first
    | refine bs_d (fun q => ?_) (fun q => ?_) <;> (try simp (disch := ((try unfold I64); omega)) only [wi64_id, td] at q)
    | refine bs_n ?_
    | refine bs_i (fun q => ?_) (fun q => ?_)
    | refine ckSw hid hp hne SwS_len.symm rfl c1 (.cons (Sub.refl _) (.cons (Sub.int (by first | rfl | omega | (refine Int.sub_eq_zero.mp ?_; simp (disch := ((try unfold I64); omega)) only [wi64_id, td]; omega))) (.cons (Sub.refl _) (.cons (Sub.int (by first | rfl | omega | (refine Int.sub_eq_zero.mp ?_; simp (disch := ((try unfold I64); omega)) only [wi64_id, td]; omega))) (.cons (Sub.refl _) .nil))))) ?_
    | refine ffin _ (by simp [SwS_len]) rfl (osc_Sw hne hS) (Sub.refl _) rfl ⟨?_, ?_, rfl⟩
    | refine eqk rfl ?_
    | refine ffin _ rfl rfl hS (Sub.refl _) rfl ⟨?_, rfl, rfl⟩)
  all_goals rfl
end Go.KL.Ythaoejicodhgaaa

/- slices.Sort: choosePivot, partitions -/
set_option linter.unusedVariables false
set_option linter.unusedSimpArgs false
set_option linter.unusedSectionVars false
set_option maxRecDepth 4000
namespace Go.KL.Ythaoejicodhgaaa
open Go Go.KL Go.RowKit Go.Proofs Go.Sort

theorem c131 : cFun E0.P 131 = some ⟨84, [(8, none)], .seq (.rg [⟨some 8, none, .mv (.k (.int .i64 0))⟩]) (.seq (.rd [(⟨some 11, none, .mv (.t 0)⟩, none), (⟨some 12, none, .mv (.t 1)⟩, none), (⟨some 13, none, .mv (.t 0)⟩, none), (⟨some 14, none, .mv (.t 3)⟩, none), (⟨some 15, none, .mv (.t 0)⟩, none), (⟨some 16, none, .mv (.t 3)⟩, none), (⟨some 17, none, .ia 1 (.t 15) (.t 16)⟩, none), (⟨some 18, none, .ld 1 false (.t 17)⟩, none), (⟨some 19, none, .mv (.t 0)⟩, none), (⟨some 20, none, .mv (.t 1)⟩, none), (⟨some 21, none, .ia 1 (.t 19) (.t 20)⟩, none), (⟨some 22, none, .ld 1 false (.t 21)⟩, none), (⟨some 23, none, .ia 1 (.t 11) (.t 12)⟩, none), (⟨none, none, .st 1 (.t 23) (.t 18)⟩, some []), (⟨some 24, none, .ia 1 (.t 13) (.t 14)⟩, none), (⟨none, none, .st 1 (.t 24) (.t 22)⟩, some [])]) (.seq (.rg [⟨some 25, none, .mv (.t 1)⟩, ⟨some 26, none, .bin .add .leaf (.t 25) (.k (.int .i64 1))⟩, ⟨some 27, none, .mv (.t 2)⟩, ⟨some 28, none, .bin .sub .leaf (.t 27) (.k (.int .i64 1))⟩, ⟨some 9, none, .mv (.t 26)⟩, ⟨some 10, none, .mv (.t 28)⟩]) (.seq (.block 0 (.loop (.block 1 (.seq (.block 2 (.loop (.seq (.seq (.rd [(⟨some 29, none, .mv (.t 9)⟩, none), (⟨some 30, none, .mv (.t 10)⟩, none), (⟨some 31, none, .bin .leq .leaf (.t 29) (.t 30)⟩, none), (⟨some 32, none, .mv (.t 31)⟩, none), (⟨some 33, some (32, true), .mv (.t 0)⟩, none), (⟨some 34, some (32, true), .mv (.t 1)⟩, none), (⟨some 35, some (32, true), .ia 1 (.t 33) (.t 34)⟩, none), (⟨some 36, some (32, true), .ld 1 false (.t 35)⟩, none), (⟨some 37, some (32, true), .mv (.t 0)⟩, none), (⟨some 38, some (32, true), .mv (.t 9)⟩, none), (⟨some 39, some (32, true), .ia 1 (.t 37) (.t 38)⟩, none), (⟨some 40, some (32, true), .ld 1 false (.t 39)⟩, none), (⟨some 41, some (32, true), .call 130 [.t 36, .t 40]⟩, some []), (⟨some 42, some (32, true), .un .not (.t 41)⟩, none), (⟨some 43, none, .pick (.t 32) (.t 42) (.k (.bool false))⟩, none)]) (.cond (.t 43) .skip (.exit 2))) (.block 3 (.rg [⟨some 44, none, .mv (.t 9)⟩, ⟨some 45, none, .bin .add .leaf (.t 44) (.k (.int .i64 1))⟩, ⟨some 9, none, .mv (.t 45)⟩]))))) (.seq (.block 4 (.loop (.seq (.seq (.rd [(⟨some 46, none, .mv (.t 9)⟩, none), (⟨some 47, none, .mv (.t 10)⟩, none), (⟨some 48, none, .bin .leq .leaf (.t 46) (.t 47)⟩, none), (⟨some 49, none, .mv (.t 48)⟩, none), (⟨some 50, some (49, true), .mv (.t 0)⟩, none), (⟨some 51, some (49, true), .mv (.t 1)⟩, none), (⟨some 52, some (49, true), .ia 1 (.t 50) (.t 51)⟩, none), (⟨some 53, some (49, true), .ld 1 false (.t 52)⟩, none), (⟨some 54, some (49, true), .mv (.t 0)⟩, none), (⟨some 55, some (49, true), .mv (.t 10)⟩, none), (⟨some 56, some (49, true), .ia 1 (.t 54) (.t 55)⟩, none), (⟨some 57, some (49, true), .ld 1 false (.t 56)⟩, none), (⟨some 58, some (49, true), .call 130 [.t 53, .t 57]⟩, some []), (⟨some 59, none, .pick (.t 49) (.t 58) (.k (.bool false))⟩, none)]) (.cond (.t 59) .skip (.exit 4))) (.block 5 (.rg [⟨some 60, none, .mv (.t 10)⟩, ⟨some 61, none, .bin .sub .leaf (.t 60) (.k (.int .i64 1))⟩, ⟨some 10, none, .mv (.t 61)⟩]))))) (.seq (.seq (.rg [⟨some 62, none, .mv (.t 9)⟩, ⟨some 63, none, .mv (.t 10)⟩, ⟨some 64, none, .bin .gtr .leaf (.t 62) (.t 63)⟩]) (.cond (.t 64) (.exit 0) .skip)) (.seq (.rd [(⟨some 65, none, .mv (.t 0)⟩, none), (⟨some 66, none, .mv (.t 9)⟩, none), (⟨some 67, none, .mv (.t 0)⟩, none), (⟨some 68, none, .mv (.t 10)⟩, none), (⟨some 69, none, .mv (.t 0)⟩, none), (⟨some 70, none, .mv (.t 10)⟩, none), (⟨some 71, none, .ia 1 (.t 69) (.t 70)⟩, none), (⟨some 72, none, .ld 1 false (.t 71)⟩, none), (⟨some 73, none, .mv (.t 0)⟩, none), (⟨some 74, none, .mv (.t 9)⟩, none), (⟨some 75, none, .ia 1 (.t 73) (.t 74)⟩, none), (⟨some 76, none, .ld 1 false (.t 75)⟩, none), (⟨some 77, none, .ia 1 (.t 65) (.t 66)⟩, none), (⟨none, none, .st 1 (.t 77) (.t 72)⟩, some []), (⟨some 78, none, .ia 1 (.t 67) (.t 68)⟩, none), (⟨none, none, .st 1 (.t 78) (.t 76)⟩, some [])]) (.seq (.rg [⟨some 79, none, .mv (.t 9)⟩, ⟨some 80, none, .bin .add .leaf (.t 79) (.k (.int .i64 1))⟩, ⟨some 9, none, .mv (.t 80)⟩]) (.rg [⟨some 81, none, .mv (.t 10)⟩, ⟨some 82, none, .bin .sub .leaf (.t 81) (.k (.int .i64 1))⟩, ⟨some 10, none, .mv (.t 82)⟩]))))))))) (.seq (.rg [⟨some 83, none, .mv (.t 9)⟩, ⟨some 8, none, .mv (.t 83)⟩]) .ret))))⟩ := by kernel_rfl
theorem c132 : cFun E0.P 132 = some ⟨168, [(8, none), (9, none)], .seq (.rg [⟨some 8, none, .mv (.k (.int .i64 0))⟩, ⟨some 9, none, .mv (.k (.bool false))⟩]) (.seq (.rd [(⟨some 12, none, .mv (.t 0)⟩, none), (⟨some 13, none, .mv (.t 1)⟩, none), (⟨some 14, none, .mv (.t 0)⟩, none), (⟨some 15, none, .mv (.t 3)⟩, none), (⟨some 16, none, .mv (.t 0)⟩, none), (⟨some 17, none, .mv (.t 3)⟩, none), (⟨some 18, none, .ia 1 (.t 16) (.t 17)⟩, none), (⟨some 19, none, .ld 1 false (.t 18)⟩, none), (⟨some 20, none, .mv (.t 0)⟩, none), (⟨some 21, none, .mv (.t 1)⟩, none), (⟨some 22, none, .ia 1 (.t 20) (.t 21)⟩, none), (⟨some 23, none, .ld 1 false (.t 22)⟩, none), (⟨some 24, none, .ia 1 (.t 12) (.t 13)⟩, none), (⟨none, none, .st 1 (.t 24) (.t 19)⟩, some []), (⟨some 25, none, .ia 1 (.t 14) (.t 15)⟩, none), (⟨none, none, .st 1 (.t 25) (.t 23)⟩, some [])]) (.seq (.rg [⟨some 26, none, .mv (.t 1)⟩, ⟨some 27, none, .bin .add .leaf (.t 26) (.k (.int .i64 1))⟩, ⟨some 28, none, .mv (.t 2)⟩, ⟨some 29, none, .bin .sub .leaf (.t 28) (.k (.int .i64 1))⟩, ⟨some 10, none, .mv (.t 27)⟩, ⟨some 11, none, .mv (.t 29)⟩]) (.seq (.block 0 (.loop (.seq (.seq (.rd [(⟨some 30, none, .mv (.t 10)⟩, none), (⟨some 31, none, .mv (.t 11)⟩, none), (⟨some 32, none, .bin .leq .leaf (.t 30) (.t 31)⟩, none), (⟨some 33, none, .mv (.t 32)⟩, none), (⟨some 34, some (33, true), .mv (.t 0)⟩, none), (⟨some 35, some (33, true), .mv (.t 10)⟩, none), (⟨some 36, some (33, true), .ia 1 (.t 34) (.t 35)⟩, none), (⟨some 37, some (33, true), .ld 1 false (.t 36)⟩, none), (⟨some 38, some (33, true), .mv (.t 0)⟩, none), (⟨some 39, some (33, true), .mv (.t 1)⟩, none), (⟨some 40, some (33, true), .ia 1 (.t 38) (.t 39)⟩, none), (⟨some 41, some (33, true), .ld 1 false (.t 40)⟩, none), (⟨some 42, some (33, true), .call 130 [.t 37, .t 41]⟩, some []), (⟨some 43, none, .pick (.t 33) (.t 42) (.k (.bool false))⟩, none)]) (.cond (.t 43) .skip (.exit 0))) (.block 1 (.rg [⟨some 44, none, .mv (.t 10)⟩, ⟨some 45, none, .bin .add .leaf (.t 44) (.k (.int .i64 1))⟩, ⟨some 10, none, .mv (.t 45)⟩]))))) (.seq (.block 2 (.loop (.seq (.seq (.rd [(⟨some 46, none, .mv (.t 10)⟩, none), (⟨some 47, none, .mv (.t 11)⟩, none), (⟨some 48, none, .bin .leq .leaf (.t 46) (.t 47)⟩, none), (⟨some 49, none, .mv (.t 48)⟩, none), (⟨some 50, some (49, true), .mv (.t 0)⟩, none), (⟨some 51, some (49, true), .mv (.t 11)⟩, none), (⟨some 52, some (49, true), .ia 1 (.t 50) (.t 51)⟩, none), (⟨some 53, some (49, true), .ld 1 false (.t 52)⟩, none), (⟨some 54, some (49, true), .mv (.t 0)⟩, none), (⟨some 55, some (49, true), .mv (.t 1)⟩, none), (⟨some 56, some (49, true), .ia 1 (.t 54) (.t 55)⟩, none), (⟨some 57, some (49, true), .ld 1 false (.t 56)⟩, none), (⟨some 58, some (49, true), .call 130 [.t 53, .t 57]⟩, some []), (⟨some 59, some (49, true), .un .not (.t 58)⟩, none), (⟨some 60, none, .pick (.t 49) (.t 59) (.k (.bool false))⟩, none)]) (.cond (.t 60) .skip (.exit 2))) (.block 3 (.rg [⟨some 61, none, .mv (.t 11)⟩, ⟨some 62, none, .bin .sub .leaf (.t 61) (.k (.int .i64 1))⟩, ⟨some 11, none, .mv (.t 62)⟩]))))) (.seq (.seq (.rg [⟨some 63, none, .mv (.t 10)⟩, ⟨some 64, none, .mv (.t 11)⟩, ⟨some 65, none, .bin .gtr .leaf (.t 63) (.t 64)⟩]) (.cond (.t 65) (.seq (.rd [(⟨some 66, none, .mv (.t 0)⟩, none), (⟨some 67, none, .mv (.t 11)⟩, none), (⟨some 68, none, .mv (.t 0)⟩, none), (⟨some 69, none, .mv (.t 1)⟩, none), (⟨some 70, none, .mv (.t 0)⟩, none), (⟨some 71, none, .mv (.t 1)⟩, none), (⟨some 72, none, .ia 1 (.t 70) (.t 71)⟩, none), (⟨some 73, none, .ld 1 false (.t 72)⟩, none), (⟨some 74, none, .mv (.t 0)⟩, none), (⟨some 75, none, .mv (.t 11)⟩, none), (⟨some 76, none, .ia 1 (.t 74) (.t 75)⟩, none), (⟨some 77, none, .ld 1 false (.t 76)⟩, none), (⟨some 78, none, .ia 1 (.t 66) (.t 67)⟩, none), (⟨none, none, .st 1 (.t 78) (.t 73)⟩, some []), (⟨some 79, none, .ia 1 (.t 68) (.t 69)⟩, none), (⟨none, none, .st 1 (.t 79) (.t 77)⟩, some [])]) (.seq (.rg [⟨some 80, none, .mv (.t 11)⟩, ⟨some 8, none, .mv (.t 80)⟩, ⟨some 9, none, .mv (.k (.bool true))⟩]) .ret)) .skip)) (.seq (.rd [(⟨some 81, none, .mv (.t 0)⟩, none), (⟨some 82, none, .mv (.t 10)⟩, none), (⟨some 83, none, .mv (.t 0)⟩, none), (⟨some 84, none, .mv (.t 11)⟩, none), (⟨some 85, none, .mv (.t 0)⟩, none), (⟨some 86, none, .mv (.t 11)⟩, none), (⟨some 87, none, .ia 1 (.t 85) (.t 86)⟩, none), (⟨some 88, none, .ld 1 false (.t 87)⟩, none), (⟨some 89, none, .mv (.t 0)⟩, none), (⟨some 90, none, .mv (.t 10)⟩, none), (⟨some 91, none, .ia 1 (.t 89) (.t 90)⟩, none), (⟨some 92, none, .ld 1 false (.t 91)⟩, none), (⟨some 93, none, .ia 1 (.t 81) (.t 82)⟩, none), (⟨none, none, .st 1 (.t 93) (.t 88)⟩, some []), (⟨some 94, none, .ia 1 (.t 83) (.t 84)⟩, none), (⟨none, none, .st 1 (.t 94) (.t 92)⟩, some [])]) (.seq (.rg [⟨some 95, none, .mv (.t 10)⟩, ⟨some 96, none, .bin .add .leaf (.t 95) (.k (.int .i64 1))⟩, ⟨some 10, none, .mv (.t 96)⟩]) (.seq (.rg [⟨some 97, none, .mv (.t 11)⟩, ⟨some 98, none, .bin .sub .leaf (.t 97) (.k (.int .i64 1))⟩, ⟨some 11, none, .mv (.t 98)⟩]) (.seq (.block 4 (.loop (.block 5 (.seq (.block 6 (.loop (.seq (.seq (.rd [(⟨some 99, none, .mv (.t 10)⟩, none), (⟨some 100, none, .mv (.t 11)⟩, none), (⟨some 101, none, .bin .leq .leaf (.t 99) (.t 100)⟩, none), (⟨some 102, none, .mv (.t 101)⟩, none), (⟨some 103, some (102, true), .mv (.t 0)⟩, none), (⟨some 104, some (102, true), .mv (.t 10)⟩, none), (⟨some 105, some (102, true), .ia 1 (.t 103) (.t 104)⟩, none), (⟨some 106, some (102, true), .ld 1 false (.t 105)⟩, none), (⟨some 107, some (102, true), .mv (.t 0)⟩, none), (⟨some 108, some (102, true), .mv (.t 1)⟩, none), (⟨some 109, some (102, true), .ia 1 (.t 107) (.t 108)⟩, none), (⟨some 110, some (102, true), .ld 1 false (.t 109)⟩, none), (⟨some 111, some (102, true), .call 130 [.t 106, .t 110]⟩, some []), (⟨some 112, none, .pick (.t 102) (.t 111) (.k (.bool false))⟩, none)]) (.cond (.t 112) .skip (.exit 6))) (.block 7 (.rg [⟨some 113, none, .mv (.t 10)⟩, ⟨some 114, none, .bin .add .leaf (.t 113) (.k (.int .i64 1))⟩, ⟨some 10, none, .mv (.t 114)⟩]))))) (.seq (.block 8 (.loop (.seq (.seq (.rd [(⟨some 115, none, .mv (.t 10)⟩, none), (⟨some 116, none, .mv (.t 11)⟩, none), (⟨some 117, none, .bin .leq .leaf (.t 115) (.t 116)⟩, none), (⟨some 118, none, .mv (.t 117)⟩, none), (⟨some 119, some (118, true), .mv (.t 0)⟩, none), (⟨some 120, some (118, true), .mv (.t 11)⟩, none), (⟨some 121, some (118, true), .ia 1 (.t 119) (.t 120)⟩, none), (⟨some 122, some (118, true), .ld 1 false (.t 121)⟩, none), (⟨some 123, some (118, true), .mv (.t 0)⟩, none), (⟨some 124, some (118, true), .mv (.t 1)⟩, none), (⟨some 125, some (118, true), .ia 1 (.t 123) (.t 124)⟩, none), (⟨some 126, some (118, true), .ld 1 false (.t 125)⟩, none), (⟨some 127, some (118, true), .call 130 [.t 122, .t 126]⟩, some []), (⟨some 128, some (118, true), .un .not (.t 127)⟩, none), (⟨some 129, none, .pick (.t 118) (.t 128) (.k (.bool false))⟩, none)]) (.cond (.t 129) .skip (.exit 8))) (.block 9 (.rg [⟨some 130, none, .mv (.t 11)⟩, ⟨some 131, none, .bin .sub .leaf (.t 130) (.k (.int .i64 1))⟩, ⟨some 11, none, .mv (.t 131)⟩]))))) (.seq (.seq (.rg [⟨some 132, none, .mv (.t 10)⟩, ⟨some 133, none, .mv (.t 11)⟩, ⟨some 134, none, .bin .gtr .leaf (.t 132) (.t 133)⟩]) (.cond (.t 134) (.exit 4) .skip)) (.seq (.rd [(⟨some 135, none, .mv (.t 0)⟩, none), (⟨some 136, none, .mv (.t 10)⟩, none), (⟨some 137, none, .mv (.t 0)⟩, none), (⟨some 138, none, .mv (.t 11)⟩, none), (⟨some 139, none, .mv (.t 0)⟩, none), (⟨some 140, none, .mv (.t 11)⟩, none), (⟨some 141, none, .ia 1 (.t 139) (.t 140)⟩, none), (⟨some 142, none, .ld 1 false (.t 141)⟩, none), (⟨some 143, none, .mv (.t 0)⟩, none), (⟨some 144, none, .mv (.t 10)⟩, none), (⟨some 145, none, .ia 1 (.t 143) (.t 144)⟩, none), (⟨some 146, none, .ld 1 false (.t 145)⟩, none), (⟨some 147, none, .ia 1 (.t 135) (.t 136)⟩, none), (⟨none, none, .st 1 (.t 147) (.t 142)⟩, some []), (⟨some 148, none, .ia 1 (.t 137) (.t 138)⟩, none), (⟨none, none, .st 1 (.t 148) (.t 146)⟩, some [])]) (.seq (.rg [⟨some 149, none, .mv (.t 10)⟩, ⟨some 150, none, .bin .add .leaf (.t 149) (.k (.int .i64 1))⟩, ⟨some 10, none, .mv (.t 150)⟩]) (.rg [⟨some 151, none, .mv (.t 11)⟩, ⟨some 152, none, .bin .sub .leaf (.t 151) (.k (.int .i64 1))⟩, ⟨some 11, none, .mv (.t 152)⟩]))))))))) (.seq (.rd [(⟨some 153, none, .mv (.t 0)⟩, none), (⟨some 154, none, .mv (.t 11)⟩, none), (⟨some 155, none, .mv (.t 0)⟩, none), (⟨some 156, none, .mv (.t 1)⟩, none), (⟨some 157, none, .mv (.t 0)⟩, none), (⟨some 158, none, .mv (.t 1)⟩, none), (⟨some 159, none, .ia 1 (.t 157) (.t 158)⟩, none), (⟨some 160, none, .ld 1 false (.t 159)⟩, none), (⟨some 161, none, .mv (.t 0)⟩, none), (⟨some 162, none, .mv (.t 11)⟩, none), (⟨some 163, none, .ia 1 (.t 161) (.t 162)⟩, none), (⟨some 164, none, .ld 1 false (.t 163)⟩, none), (⟨some 165, none, .ia 1 (.t 153) (.t 154)⟩, none), (⟨none, none, .st 1 (.t 165) (.t 160)⟩, some []), (⟨some 166, none, .ia 1 (.t 155) (.t 156)⟩, none), (⟨none, none, .st 1 (.t 166) (.t 164)⟩, some [])]) (.seq (.rg [⟨some 167, none, .mv (.t 11)⟩, ⟨some 8, none, .mv (.t 167)⟩, ⟨some 9, none, .mv (.k (.bool false))⟩]) .ret)))))))))))⟩ := by kernel_rfl

def Reads (f : FuncId) (id n : Nat) (ds : List D) (d : Array Int) (r : D) : Prop := Turns f id n ds d r d

set_option maxHeartbeats 1000000 in
theorem choosePivot (id n : Nat) (d : Array Int) (a b : Nat) (hd : d.size = n) (hab : a < b) (hb : b ≤ n) (hn : n < 4611686018427387904) :
    Turns 127 id n [.int .i64 a, .int .i64 b] d (.tup [.int .i64 (choosePivot ltInt d a b).1, .int .i64 (hintCode (choosePivot ltInt d a b).2)]) d := by
  intro S0 tk hid
  have m1 := medianAdjacent_mem ltInt d (a + (b - a) / 4 * 1) 0
  have k1 := medianAdjacent_count (lt := ltInt) d (a + (b - a) / 4 * 1) 0
  generalize e1 : Sort.medianAdjacent ltInt d (a + (b - a) / 4 * 1) 0 = r1 at m1 k1
  have m2 := medianAdjacent_mem ltInt d (a + (b - a) / 4 * 2) r1.2
  have k2 := medianAdjacent_count (lt := ltInt) d (a + (b - a) / 4 * 2) r1.2
  generalize e2 : Sort.medianAdjacent ltInt d (a + (b - a) / 4 * 2) r1.2 = r2 at m2 k2
  have m3 := medianAdjacent_mem ltInt d (a + (b - a) / 4 * 3) r2.2
  have k3 := medianAdjacent_count (lt := ltInt) d (a + (b - a) / 4 * 3) r2.2
  generalize e3 : Sort.medianAdjacent ltInt d (a + (b - a) / 4 * 3) r2.2 = r3 at m3 k3
  have c1 : ∀ p, 8 ≤ b - a → Counts 162 id p n [.int .i64 (a + (b - a) / 4 * 1 : Nat), .po p 0] d 0 (.int .i64 r1.1) r1.2 := fun p h => by
    have := medianAdjacent id p n d (a + (b - a) / 4 * 1) 0 hd (by omega) (by omega) hn (by omega)
    rwa [e1] at this
  have c2 : ∀ p, 8 ≤ b - a → Counts 162 id p n [.int .i64 (a + (b - a) / 4 * 2 : Nat), .po p 0] d r1.2 (.int .i64 r2.1) r2.2 := fun p h => by
    have := medianAdjacent id p n d (a + (b - a) / 4 * 2) r1.2 hd (by omega) (by omega) hn (by omega)
    rwa [e2] at this
  have c3 : ∀ p, 8 ≤ b - a → Counts 162 id p n [.int .i64 (a + (b - a) / 4 * 3 : Nat), .po p 0] d r2.2 (.int .i64 r3.1) r3.2 := fun p h => by
    have := medianAdjacent id p n d (a + (b - a) / 4 * 3) r2.2 hd (by omega) (by omega) hn (by omega)
    rwa [e3] at this
  have c4 : ∀ p, 8 ≤ b - a → Counts 163 id p n [.int .i64 r1.1, .int .i64 r2.1, .int .i64 r3.1, .po p 0] d r3.2 (.int .i64 (Sort.median ltInt d r1.1 r2.1 r3.1 r3.2).1) (Sort.median ltInt d r1.1 r2.1 r3.1 r3.2).2 := fun p h =>
    median id p n d r1.1 r2.1 r3.1 r3.2 hd (by omega) (by omega) (by omega) hn (by omega)
  have c5 : ∀ p, 8 ≤ b - a → Counts 163 id p n [.int .i64 (a + (b - a) / 4 * 1 : Nat), .int .i64 (a + (b - a) / 4 * 2 : Nat), .int .i64 (a + (b - a) / 4 * 3 : Nat), .po p 0] d 0 _ _ := fun p h =>
    median id p n d (a + (b - a) / 4 * 1) (a + (b - a) / 4 * 2) (a + (b - a) / 4 * 3) 0 hd (by omega) (by omega) (by omega) hn (by omega)
  have hraw : rawPivot ltInt d a b = if b - a ≥ 8 then (if b - a ≥ 50 then Sort.median ltInt d r1.1 r2.1 r3.1 r3.2 else Sort.median ltInt d (a + (b - a) / 4 * 1) (a + (b - a) / 4 * 2) (a + (b - a) / 4 * 3) 0) else (a + (b - a) / 4 * 2, 0) := by
    unfold rawPivot
    rw [e1, e2, e3]
  rw [choosePivot_eq]
  refine ACalls.fgo c127 rfl fun hS => ?_
  repeat' first | with_reducible refine fzD_ite (fun q => ?_) (fun q => ?_) | ((try conv => whnf); first
    | refine bs_d (fun q => ?_) (fun q => ?_) <;> (try simp (disch := ((try unfold I64); omega)) only [wi64_id, td] at q)
    | refine bs_n ?_
    | refine bs_i (fun q => ?_) (fun q => ?_)
    | refine ckSwN (k := 0) hid (List.length_set ..).symm rfl (c1 _ (by omega)) (.cons (Sub.refl _) (.cons (Sub.int (by first | rfl | omega | (refine Int.sub_eq_zero.mp ?_; simp (disch := ((try unfold I64); omega)) only [wi64_id, td]; omega))) (.cons (Sub.refl _) .nil))) ?_
    | refine ckSwN hid (List.length_set ..).symm rfl (c2 _ (by omega)) (.cons (Sub.refl _) (.cons (Sub.int (by first | rfl | omega | (refine Int.sub_eq_zero.mp ?_; simp (disch := ((try unfold I64); omega)) only [wi64_id, td]; omega))) (.cons (Sub.refl _) .nil))) ?_
    | refine ckSwN hid (List.length_set ..).symm rfl (c3 _ (by omega)) (.cons (Sub.refl _) (.cons (Sub.int (by first | rfl | omega | (refine Int.sub_eq_zero.mp ?_; simp (disch := ((try unfold I64); omega)) only [wi64_id, td]; omega))) (.cons (Sub.refl _) .nil))) ?_
    | refine ckSwN hid (List.length_set ..).symm rfl (c4 _ (by omega)) (SubL.refl _) ?_
    | refine ckSwN (k := 0) hid (List.length_set ..).symm rfl (c5 _ (by omega)) (.cons (Sub.refl _) (.cons (Sub.int (by first | rfl | omega | (refine Int.sub_eq_zero.mp ?_; simp (disch := ((try unfold I64); omega)) only [wi64_id, td]; omega))) (.cons (Sub.int (by first | rfl | omega | (refine Int.sub_eq_zero.mp ?_; simp (disch := ((try unfold I64); omega)) only [wi64_id, td]; omega))) (.cons (Sub.int (by first | rfl | omega | (refine Int.sub_eq_zero.mp ?_; simp (disch := ((try unfold I64); omega)) only [wi64_id, td]; omega))) (.cons (Sub.refl _) .nil))))) ?_
    | refine ffin _ (by simp) rfl hS (Sub.refl _) rfl ⟨?_, rfl, rfl⟩
    | refine eqk rfl ?_
    | refine ffin _ rfl rfl hS (Sub.refl _) rfl ⟨?_, rfl, rfl⟩)
  all_goals rw [hraw]
  all_goals first
    | rw [if_pos (by omega), if_pos (by omega)]
    | rw [if_pos (by omega), if_neg (by omega)]
    | rw [if_neg (by omega)]
  all_goals simp only [tupD, hintOf]
  all_goals first
    | (rw [if_pos (by omega)]; first | rfl | (simp only [D.tup.injEq, List.cons.injEq, D.int.injEq, true_and, and_true]; exact ⟨(by first | rfl | omega | (refine Int.sub_eq_zero.mp ?_; simp (disch := ((try unfold I64); omega)) only [wi64_id, td]; omega)), rfl⟩))
    | (rw [if_neg (by omega), if_pos (by omega)]; rfl)
    | (rw [if_neg (by omega), if_neg (by omega)]; rfl)
    | (simp only [D.tup.injEq, List.cons.injEq, D.int.injEq, true_and, and_true, ↓reduceIte]; exact ⟨(by first | rfl | omega | (refine Int.sub_eq_zero.mp ?_; simp (disch := ((try unfold I64); omega)) only [wi64_id, td]; omega)), rfl⟩)

theorem partitionEqual (id n : Nat) (d : Array Int) (a b p : Nat) (hd : d.size = n) (hap : a ≤ p) (hpb : p < b) (hb : b ≤ n) (hn : n < 4611686018427387904) :
    Turns 131 id n [.int .i64 a, .int .i64 b, .int .i64 p] d (.int .i64 (partitionEqual ltInt d a b p).1) (partitionEqual ltInt d a b p).2 := by
  intro S0 tk hid
  refine ACalls.fgo c131 rfl fun hS => ?_
  repeat' first | with_reducible refine fzD_ite (fun q => ?_) (fun q => ?_) | ((try conv => whnf); first
    | refine bs_d (fun q => ?_) (fun q => ?_) <;> (try simp (disch := ((try unfold I64); omega)) only [wi64_id, td] at q)
    | refine bs_n ?_
    | refine bs_i (fun q => ?_) (fun q => ?_)
    | refine pK_i (iaD_vecN (k := p) (by first | rfl | omega | (refine Int.sub_eq_zero.mp ?_; simp (disch := ((try unfold I64); omega)) only [wi64_id, td]; omega)) (by omega)) ?_
    | refine pK_i (iaD_vecN (k := a) (by first | rfl | omega | (refine Int.sub_eq_zero.mp ?_; simp (disch := ((try unfold I64); omega)) only [wi64_id, td]; omega)) (by omega)) ?_
    | refine pK_i (ldV_VO kE hid hd (by omega)) ?_
    | refine gk_stVO kE hid (List.length_set ..).symm rfl rfl (by simpa using hd) (by omega) rfl ?_
    | refine eqk rfl ?_
    | refine ffin _ rfl rfl hS (Sub.refl _) rfl ⟨?_, rfl, rfl⟩)
  refine floopS (α := SJ) rfl (fun s => s.d.size = n ∧ a < s.i ∧ s.i ≤ s.j + 1 ∧ s.j < b ∧ partEqLoop ltInt a s.i s.j s.d = Sort.partitionEqual ltInt d a b p) (fun s => s.j + 1 - s.i) (fun s => [(9, .d (.int .i64 s.i)), (10, .d (.int .i64 s.j)), (0, .d (vec id n)), (1, .d (.int .i64 a))])
    (fun s => S0.set id (VI s.d)) (fun _ => []) (fun _ => []) (fun s _ => ⟨by simp, osc_VO' kE _ hS⟩) ⟨swp d a p, a + 1, b - 1⟩ ⟨by rw [size_swp']; exact hd, by simp, by simp only; omega, by simp only; omega, rfl⟩ rfl (fstep_sub ⟨Sub.int (by first | rfl | omega | (refine Int.sub_eq_zero.mp ?_; simp (disch := ((try unfold I64); omega)) only [wi64_id, td]; omega)), Sub.int (by first | rfl | omega | (refine Int.sub_eq_zero.mp ?_; simp (disch := ((try unfold I64); omega)) only [wi64_id, td]; omega)), Sub.refl _, Sub.refl _, trivial⟩) ?_
  rintro s ⟨h1, h2, h3, h4, h5⟩
  refine floopS (α := SI) rfl (fun t => t.d = s.d ∧ s.i ≤ t.i ∧ t.i ≤ s.j + 1 ∧ scanUp (fun x => !ltInt s.d[a]! x) s.d s.j t.i = scanUp (fun x => !ltInt s.d[a]! x) s.d s.j s.i) (fun t => s.j + 1 - t.i) (fun t => [(9, .d (.int .i64 t.i)), (10, .d (.int .i64 s.j)), (0, .d (vec id n)), (1, .d (.int .i64 a))])
    (fun _ => S0.set id (VI s.d)) (fun _ => []) (fun _ => []) (fun _ _ => ⟨by simp, osc_VO' kE _ hS⟩) ⟨s.d, s.i⟩ ⟨rfl, Nat.le_refl _, h3, rfl⟩ rfl (fstep_sub ⟨Sub.refl _, Sub.refl _, Sub.refl _, Sub.refl _, trivial⟩) ?_
  rintro t ⟨-, k2, k3, k4⟩
  repeat' first | with_reducible refine fzD_ite (fun q => ?_) (fun q => ?_) | ((try conv => whnf); first
    | refine bs_d (fun q => ?_) (fun q => ?_) <;> (try simp (disch := ((try unfold I64); omega)) only [wi64_id, td] at q)
    | refine bs_n ?_
    | refine bs_i (fun q => ?_) (fun q => ?_)
    | refine ck (by first | rfl | simp) rfl (less _ _) ?_
    | refine cq (less _ _) ?_
    | refine pK_i (iaD_vecN (k := a) (by first | rfl | omega | (refine Int.sub_eq_zero.mp ?_; simp (disch := ((try unfold I64); omega)) only [wi64_id, td]; omega)) (by omega)) ?_
    | refine pK_i (iaD_vecN (k := t.i) (by first | rfl | omega | (refine Int.sub_eq_zero.mp ?_; simp (disch := ((try unfold I64); omega)) only [wi64_id, td]; omega)) (by omega)) ?_
    | refine pK_i (ldV_VO kE hid h1 (by omega)) ?_
    | refine eqk rfl ?_
    | refine ffin _ rfl rfl hS (Sub.refl _) rfl ⟨?_, rfl, rfl⟩)
  case' refine_1.refine_2 =>
    refine fnextS (α := SI) ⟨s.d, t.i + 1⟩ ⟨rfl, by simp only; omega, by simp only; omega, ?_⟩ (by simp only; omega) rfl (fstep_sub ⟨Sub.int (by first | rfl | omega | (refine Int.sub_eq_zero.mp ?_; simp (disch := ((try unfold I64); omega)) only [wi64_id, td]; omega)), Sub.refl _, Sub.refl _, Sub.refl _, trivial⟩)
    rw [← k4, scanUp_step (i := t.i) (by omega) (by simp [ltf q])]
  case' refine_1.refine_1 =>
    have fs : t.i ≤ s.j → ltInt s.d[a]! s.d[t.i]! = true := fun _ => ltt (by assumption)
  case' refine_2 =>
    have fs : t.i ≤ s.j → ltInt s.d[a]! s.d[t.i]! = true := fun _ => by omega
  all_goals
    have hs : scanUp (fun x => !ltInt s.d[a]! x) s.d s.j t.i = t.i := scanUp_stop fun h => by simp [fs h]
    rw [hs] at k4
    refine floopS (α := SI) rfl (fun u => u.d = s.d ∧ u.i ≤ s.j ∧ t.i ≤ u.i + 1 ∧ scanDown (fun x => ltInt s.d[a]! x) s.d t.i u.i = scanDown (fun x => ltInt s.d[a]! x) s.d t.i s.j) (fun u => u.i) (fun u => [(9, .d (.int .i64 t.i)), (10, .d (.int .i64 u.i)), (0, .d (vec id n)), (1, .d (.int .i64 a))])
      (fun _ => S0.set id (VI s.d)) (fun _ => []) (fun _ => []) (fun _ _ => ⟨by simp, osc_VO' kE _ hS⟩) ⟨s.d, s.j⟩ ⟨rfl, Nat.le_refl _, k3, rfl⟩ rfl (fstep_sub ⟨Sub.refl _, Sub.refl _, Sub.refl _, Sub.refl _, trivial⟩) ?_
    rintro u ⟨-, l2, l3, l4⟩
    repeat' first | with_reducible refine fzD_ite (fun q => ?_) (fun q => ?_) | ((try conv => whnf); first
      | refine bs_d (fun q => ?_) (fun q => ?_) <;> (try simp (disch := ((try unfold I64); omega)) only [wi64_id, td] at q)
      | refine bs_n ?_
      | refine bs_i (fun q => ?_) (fun q => ?_)
      | refine ck (by first | rfl | simp) rfl (less _ _) ?_
      | refine cq (less _ _) ?_
      | refine pK_i (iaD_vecN (k := a) (by first | rfl | omega | (refine Int.sub_eq_zero.mp ?_; simp (disch := ((try unfold I64); omega)) only [wi64_id, td]; omega)) (by omega)) ?_
      | refine pK_i (iaD_vecN (k := u.i) (by first | rfl | omega | (refine Int.sub_eq_zero.mp ?_; simp (disch := ((try unfold I64); omega)) only [wi64_id, td]; omega)) (by omega)) ?_
      | refine pK_i (ldV_VO kE hid h1 (by omega)) ?_
      | refine eqk rfl ?_
      | refine ffin _ rfl rfl hS (Sub.refl _) rfl ⟨?_, rfl, rfl⟩)
    · first
        | (exfalso; omega)
        | (refine fnextS (α := SI) ⟨s.d, u.i - 1⟩ ⟨rfl, by simp only; omega, by simp only; omega, ?_⟩ (by simp only; omega) rfl (fstep_sub ⟨Sub.refl _, Sub.int (by first | rfl | omega | (refine Int.sub_eq_zero.mp ?_; simp (disch := ((try unfold I64); omega)) only [wi64_id, td]; omega)), Sub.refl _, Sub.refl _, trivial⟩)
           rw [← l4, scanDown_step (j := u.i) (by omega) (by omega) (ltt q)])
    all_goals
      have fu : t.i ≤ u.i → ltInt s.d[a]! s.d[u.i]! = false := fun h => by first | (exfalso; omega) | exact ltf (by assumption)
      have hu : scanDown (fun x => ltInt s.d[a]! x) s.d t.i u.i = u.i := scanDown_stop fun h => by simp [fu h]
      have hne : t.i ≠ u.i := fun e => by
        have x1 := fs (by omega)
        rw [e, fu (by omega)] at x1
        cases x1
      rw [hu] at l4
      have heq := partEqLoop_eq ltInt a s.i s.j s.d
      rw [← k4, ← l4] at heq
      repeat' first | with_reducible refine fzD_ite (fun q => ?_) (fun q => ?_) | ((try conv => whnf); first
        | refine bs_d (fun q => ?_) (fun q => ?_) <;> (try simp (disch := ((try unfold I64); omega)) only [wi64_id, td] at q)
        | refine bs_n ?_
        | refine bs_i (fun q => ?_) (fun q => ?_)
        | refine pK_i (iaD_vecN (k := t.i) (by first | rfl | omega | (refine Int.sub_eq_zero.mp ?_; simp (disch := ((try unfold I64); omega)) only [wi64_id, td]; omega)) (by omega)) ?_
        | refine pK_i (iaD_vecN (k := u.i) (by first | rfl | omega | (refine Int.sub_eq_zero.mp ?_; simp (disch := ((try unfold I64); omega)) only [wi64_id, td]; omega)) (by omega)) ?_
        | refine pK_i (ldV_VO kE hid h1 (by omega)) ?_
        | refine gk_stVO kE hid (List.length_set ..).symm rfl rfl (by simpa using h1) (by omega) rfl ?_
        | refine ffin _ (by simp) rfl (osc_VO' kE _ hS) (Sub.refl _) rfl ⟨?_, ?_, rfl⟩
        | refine eqk rfl ?_
        | refine ffin _ rfl rfl hS (Sub.refl _) rfl ⟨?_, rfl, rfl⟩)
      all_goals first
        | (exfalso; omega)
        | (rw [← h5, heq, if_pos (by omega)]; rfl)
        | rw [← h5, heq, if_pos (by omega)]
        | (refine fnextS (α := SJ) ⟨swp s.d t.i u.i, t.i + 1, u.i - 1⟩ ⟨by rw [size_swp']; exact h1, by simp only; omega, by simp only; omega, by simp only; omega, ?_⟩ (by simp only; omega) rfl (fstep_sub ⟨Sub.int (by first | rfl | omega | (refine Int.sub_eq_zero.mp ?_; simp (disch := ((try unfold I64); omega)) only [wi64_id, td]; omega)), Sub.int (by first | rfl | omega | (refine Int.sub_eq_zero.mp ?_; simp (disch := ((try unfold I64); omega)) only [wi64_id, td]; omega)), Sub.refl _, Sub.refl _, trivial⟩)
           rw [← h5, heq, if_neg (by omega)])
end Go.KL.Ythaoejicodhgaaa
