/- slices.Sort: insertion sort, sift down, heap sort, reversal -/
import Derived.Test.YtjjdfplonbgpbaaDoorDa
import Derived.Test.YtjjdfplonbgpbaaDoorKL33
import Derived.Test.YtjjdfplonbgpbaaDoorKL34
import Derived.Lib.BitFns
import Derived.Laws.Bits64
import Derived.Laws.Bits64b
import Derived.Sort.LotD1
import Derived.Test.YtjjdfplonbgpbaaDoorKL36
import Derived.Test.YtjjdfplonbgpbaaDoorKL37
set_option linter.unusedVariables false
set_option linter.unusedSimpArgs false
set_option linter.unusedSectionVars false
set_option maxRecDepth 4000
namespace Go.KL.YtjjdfplonbgpbaaDoor.U
open Go Go.KL Go.RowKit Go.Proofs Go.Sort
def kD (x : Int) : D := .int .u64 x
theorem kE : VEnc kD 1 false := ⟨fun _ => rfl, fun _ => rfl, fun _ => rfl, fun _ => rfl, fun _ _ _ => rfl⟩

theorem c60 : cFun E0.P 60 = some ⟨6, [(2, none)], .seq (.rg [⟨some 2, none, .mv (.k (.bool false))⟩]) (.seq (.rg [⟨some 3, none, .mv (.t 0)⟩, ⟨some 4, none, .mv (.t 0)⟩, ⟨some 5, none, .bin .neq .leaf (.t 3) (.t 4)⟩, ⟨some 2, none, .mv (.t 5)⟩]) .ret)⟩ := by kernel_rfl
theorem c67 : cFun E0.P 67 = some ⟨17, [(4, none)], .seq (.rg [⟨some 4, none, .mv (.k (.bool false))⟩]) (.seq (.rg [⟨some 5, none, .mv (.t 0)⟩, ⟨some 6, none, .call 60 [.t 5]⟩, ⟨some 7, none, .mv (.t 6)⟩, ⟨some 8, some (7, true), .mv (.t 1)⟩, ⟨some 9, some (7, true), .call 60 [.t 8]⟩, ⟨some 10, some (7, true), .un .not (.t 9)⟩, ⟨some 11, none, .pick (.t 7) (.t 10) (.k (.bool false))⟩, ⟨some 12, none, .mv (.t 11)⟩, ⟨some 13, some (12, false), .mv (.t 0)⟩, ⟨some 14, some (12, false), .mv (.t 1)⟩, ⟨some 15, some (12, false), .bin .lss .leaf (.t 13) (.t 14)⟩, ⟨some 16, none, .pick (.t 12) (.k (.bool true)) (.t 15)⟩, ⟨some 4, none, .mv (.t 16)⟩]) .ret)⟩ := by kernel_rfl
theorem c61 : cFun E0.P 61 = some ⟨49, [], .seq (.rg [⟨some 8, none, .mv (.t 1)⟩, ⟨some 9, none, .bin .add .leaf (.t 8) (.k (.int .i64 1))⟩, ⟨some 6, none, .mv (.t 9)⟩]) (.block 0 (.loop (.seq (.seq (.rg [⟨some 10, none, .mv (.t 6)⟩, ⟨some 11, none, .mv (.t 2)⟩, ⟨some 12, none, .bin .lss .leaf (.t 10) (.t 11)⟩]) (.cond (.t 12) .skip (.exit 0))) (.seq (.block 1 (.seq (.rg [⟨some 15, none, .mv (.t 6)⟩, ⟨some 7, none, .mv (.t 15)⟩]) (.block 2 (.loop (.seq (.seq (.rd [(⟨some 16, none, .mv (.t 7)⟩, none), (⟨some 17, none, .mv (.t 1)⟩, none), (⟨some 18, none, .bin .gtr .leaf (.t 16) (.t 17)⟩, none), (⟨some 19, none, .mv (.t 18)⟩, none), (⟨some 20, some (19, true), .mv (.t 0)⟩, none), (⟨some 21, some (19, true), .mv (.t 7)⟩, none), (⟨some 22, some (19, true), .ia 1 (.t 20) (.t 21)⟩, none), (⟨some 23, some (19, true), .ld 1 false (.t 22)⟩, none), (⟨some 24, some (19, true), .mv (.t 0)⟩, none), (⟨some 25, some (19, true), .mv (.t 7)⟩, none), (⟨some 26, some (19, true), .bin .sub .leaf (.t 25) (.k (.int .i64 1))⟩, none), (⟨some 27, some (19, true), .ia 1 (.t 24) (.t 26)⟩, none), (⟨some 28, some (19, true), .ld 1 false (.t 27)⟩, none), (⟨some 29, some (19, true), .call 67 [.t 23, .t 28]⟩, some []), (⟨some 30, none, .pick (.t 19) (.t 29) (.k (.bool false))⟩, none)]) (.cond (.t 30) .skip (.exit 2))) (.seq (.block 3 (.rd [(⟨some 33, none, .mv (.t 0)⟩, none), (⟨some 34, none, .mv (.t 7)⟩, none), (⟨some 35, none, .mv (.t 0)⟩, none), (⟨some 36, none, .mv (.t 7)⟩, none), (⟨some 37, none, .bin .sub .leaf (.t 36) (.k (.int .i64 1))⟩, none), (⟨some 38, none, .mv (.t 0)⟩, none), (⟨some 39, none, .mv (.t 7)⟩, none), (⟨some 40, none, .bin .sub .leaf (.t 39) (.k (.int .i64 1))⟩, none), (⟨some 41, none, .ia 1 (.t 38) (.t 40)⟩, none), (⟨some 42, none, .ld 1 false (.t 41)⟩, none), (⟨some 43, none, .mv (.t 0)⟩, none), (⟨some 44, none, .mv (.t 7)⟩, none), (⟨some 45, none, .ia 1 (.t 43) (.t 44)⟩, none), (⟨some 46, none, .ld 1 false (.t 45)⟩, none), (⟨some 47, none, .ia 1 (.t 33) (.t 34)⟩, none), (⟨none, none, .st 1 (.t 47) (.t 42)⟩, some []), (⟨some 48, none, .ia 1 (.t 35) (.t 37)⟩, none), (⟨none, none, .st 1 (.t 48) (.t 46)⟩, some [])])) (.rg [⟨some 31, none, .mv (.t 7)⟩, ⟨some 32, none, .bin .sub .leaf (.t 31) (.k (.int .i64 1))⟩, ⟨some 7, none, .mv (.t 32)⟩]))))))) (.rg [⟨some 13, none, .mv (.t 6)⟩, ⟨some 14, none, .bin .add .leaf (.t 13) (.k (.int .i64 1))⟩, ⟨some 6, none, .mv (.t 14)⟩])))))⟩ := by kernel_rfl
theorem c75 : cFun E0.P 75 = some ⟨76, [], .seq (.rg [⟨some 10, none, .mv (.t 1)⟩, ⟨some 8, none, .mv (.t 10)⟩]) (.block 0 (.loop (.block 1 (.seq (.rg [⟨some 11, none, .mv (.t 8)⟩, ⟨some 12, none, .bin .mul .leaf (.k (.int .i64 2)) (.t 11)⟩, ⟨some 13, none, .bin .add .leaf (.t 12) (.k (.int .i64 1))⟩, ⟨some 9, none, .mv (.t 13)⟩]) (.seq (.seq (.rg [⟨some 14, none, .mv (.t 9)⟩, ⟨some 15, none, .mv (.t 2)⟩, ⟨some 16, none, .bin .geq .leaf (.t 14) (.t 15)⟩]) (.cond (.t 16) (.exit 0) .skip)) (.seq (.seq (.rd [(⟨some 17, none, .mv (.t 9)⟩, none), (⟨some 18, none, .bin .add .leaf (.t 17) (.k (.int .i64 1))⟩, none), (⟨some 19, none, .mv (.t 2)⟩, none), (⟨some 20, none, .bin .lss .leaf (.t 18) (.t 19)⟩, none), (⟨some 21, none, .mv (.t 20)⟩, none), (⟨some 22, some (21, true), .mv (.t 0)⟩, none), (⟨some 23, some (21, true), .mv (.t 3)⟩, none), (⟨some 24, some (21, true), .mv (.t 9)⟩, none), (⟨some 25, some (21, true), .bin .add .leaf (.t 23) (.t 24)⟩, none), (⟨some 26, some (21, true), .ia 1 (.t 22) (.t 25)⟩, none), (⟨some 27, some (21, true), .ld 1 false (.t 26)⟩, none), (⟨some 28, some (21, true), .mv (.t 0)⟩, none), (⟨some 29, some (21, true), .mv (.t 3)⟩, none), (⟨some 30, some (21, true), .mv (.t 9)⟩, none), (⟨some 31, some (21, true), .bin .add .leaf (.t 29) (.t 30)⟩, none), (⟨some 32, some (21, true), .bin .add .leaf (.t 31) (.k (.int .i64 1))⟩, none), (⟨some 33, some (21, true), .ia 1 (.t 28) (.t 32)⟩, none), (⟨some 34, some (21, true), .ld 1 false (.t 33)⟩, none), (⟨some 35, some (21, true), .call 67 [.t 27, .t 34]⟩, some []), (⟨some 36, none, .pick (.t 21) (.t 35) (.k (.bool false))⟩, none)]) (.cond (.t 36) (.rg [⟨some 37, none, .mv (.t 9)⟩, ⟨some 38, none, .bin .add .leaf (.t 37) (.k (.int .i64 1))⟩, ⟨some 9, none, .mv (.t 38)⟩]) .skip)) (.seq (.seq (.rd [(⟨some 39, none, .mv (.t 0)⟩, none), (⟨some 40, none, .mv (.t 3)⟩, none), (⟨some 41, none, .mv (.t 8)⟩, none), (⟨some 42, none, .bin .add .leaf (.t 40) (.t 41)⟩, none), (⟨some 43, none, .ia 1 (.t 39) (.t 42)⟩, none), (⟨some 44, none, .ld 1 false (.t 43)⟩, none), (⟨some 45, none, .mv (.t 0)⟩, none), (⟨some 46, none, .mv (.t 3)⟩, none), (⟨some 47, none, .mv (.t 9)⟩, none), (⟨some 48, none, .bin .add .leaf (.t 46) (.t 47)⟩, none), (⟨some 49, none, .ia 1 (.t 45) (.t 48)⟩, none), (⟨some 50, none, .ld 1 false (.t 49)⟩, none), (⟨some 51, none, .call 67 [.t 44, .t 50]⟩, some []), (⟨some 52, none, .un .not (.t 51)⟩, none)]) (.cond (.t 52) .ret .skip)) (.seq (.rd [(⟨some 53, none, .mv (.t 0)⟩, none), (⟨some 54, none, .mv (.t 3)⟩, none), (⟨some 55, none, .mv (.t 8)⟩, none), (⟨some 56, none, .bin .add .leaf (.t 54) (.t 55)⟩, none), (⟨some 57, none, .mv (.t 0)⟩, none), (⟨some 58, none, .mv (.t 3)⟩, none), (⟨some 59, none, .mv (.t 9)⟩, none), (⟨some 60, none, .bin .add .leaf (.t 58) (.t 59)⟩, none), (⟨some 61, none, .mv (.t 0)⟩, none), (⟨some 62, none, .mv (.t 3)⟩, none), (⟨some 63, none, .mv (.t 9)⟩, none), (⟨some 64, none, .bin .add .leaf (.t 62) (.t 63)⟩, none), (⟨some 65, none, .ia 1 (.t 61) (.t 64)⟩, none), (⟨some 66, none, .ld 1 false (.t 65)⟩, none), (⟨some 67, none, .mv (.t 0)⟩, none), (⟨some 68, none, .mv (.t 3)⟩, none), (⟨some 69, none, .mv (.t 8)⟩, none), (⟨some 70, none, .bin .add .leaf (.t 68) (.t 69)⟩, none), (⟨some 71, none, .ia 1 (.t 67) (.t 70)⟩, none), (⟨some 72, none, .ld 1 false (.t 71)⟩, none), (⟨some 73, none, .ia 1 (.t 53) (.t 56)⟩, none), (⟨none, none, .st 1 (.t 73) (.t 66)⟩, some []), (⟨some 74, none, .ia 1 (.t 57) (.t 60)⟩, none), (⟨none, none, .st 1 (.t 74) (.t 72)⟩, some [])]) (.rg [⟨some 75, none, .mv (.t 9)⟩, ⟨some 8, none, .mv (.t 75)⟩])))))))))⟩ := by kernel_rfl
theorem c62 : cFun E0.P 62 = some ⟨56, [], .seq (.rg [⟨some 11, none, .mv (.t 1)⟩, ⟨some 6, none, .mv (.t 11)⟩]) (.seq (.rg [⟨some 7, none, .mv (.k (.int .i64 0))⟩]) (.seq (.rg [⟨some 12, none, .mv (.t 2)⟩, ⟨some 13, none, .mv (.t 1)⟩, ⟨some 14, none, .bin .sub .leaf (.t 12) (.t 13)⟩, ⟨some 8, none, .mv (.t 14)⟩]) (.seq (.seq (.rg [⟨some 15, none, .mv (.t 8)⟩, ⟨some 16, none, .bin .sub .leaf (.t 15) (.k (.int .i64 1))⟩, ⟨some 17, none, .bin .quo .leaf (.t 16) (.k (.int .i64 2))⟩, ⟨some 9, none, .mv (.t 17)⟩]) (.block 0 (.loop (.seq (.seq (.rg [⟨some 18, none, .mv (.t 9)⟩, ⟨some 19, none, .bin .geq .leaf (.t 18) (.k (.int .i64 0))⟩]) (.cond (.t 19) .skip (.exit 0))) (.seq (.block 1 (.rg [⟨some 22, none, .mv (.t 0)⟩, ⟨some 23, none, .mv (.t 9)⟩, ⟨some 24, none, .mv (.t 8)⟩, ⟨some 25, none, .mv (.t 6)⟩, ⟨some 26, none, .call 75 [.t 22, .t 23, .t 24, .t 25]⟩])) (.rg [⟨some 20, none, .mv (.t 9)⟩, ⟨some 21, none, .bin .sub .leaf (.t 20) (.k (.int .i64 1))⟩, ⟨some 9, none, .mv (.t 21)⟩])))))) (.seq (.rg [⟨some 27, none, .mv (.t 8)⟩, ⟨some 28, none, .bin .sub .leaf (.t 27) (.k (.int .i64 1))⟩, ⟨some 10, none, .mv (.t 28)⟩]) (.block 2 (.loop (.seq (.seq (.rg [⟨some 29, none, .mv (.t 10)⟩, ⟨some 30, none, .bin .geq .leaf (.t 29) (.k (.int .i64 0))⟩]) (.cond (.t 30) .skip (.exit 2))) (.seq (.block 3 (.seq (.rd [(⟨some 33, none, .mv (.t 0)⟩, none), (⟨some 34, none, .mv (.t 6)⟩, none), (⟨some 35, none, .mv (.t 0)⟩, none), (⟨some 36, none, .mv (.t 6)⟩, none), (⟨some 37, none, .mv (.t 10)⟩, none), (⟨some 38, none, .bin .add .leaf (.t 36) (.t 37)⟩, none), (⟨some 39, none, .mv (.t 0)⟩, none), (⟨some 40, none, .mv (.t 6)⟩, none), (⟨some 41, none, .mv (.t 10)⟩, none), (⟨some 42, none, .bin .add .leaf (.t 40) (.t 41)⟩, none), (⟨some 43, none, .ia 1 (.t 39) (.t 42)⟩, none), (⟨some 44, none, .ld 1 false (.t 43)⟩, none), (⟨some 45, none, .mv (.t 0)⟩, none), (⟨some 46, none, .mv (.t 6)⟩, none), (⟨some 47, none, .ia 1 (.t 45) (.t 46)⟩, none), (⟨some 48, none, .ld 1 false (.t 47)⟩, none), (⟨some 49, none, .ia 1 (.t 33) (.t 34)⟩, none), (⟨none, none, .st 1 (.t 49) (.t 44)⟩, some []), (⟨some 50, none, .ia 1 (.t 35) (.t 38)⟩, none), (⟨none, none, .st 1 (.t 50) (.t 48)⟩, some [])]) (.rg [⟨some 51, none, .mv (.t 0)⟩, ⟨some 52, none, .mv (.t 7)⟩, ⟨some 53, none, .mv (.t 10)⟩, ⟨some 54, none, .mv (.t 6)⟩, ⟨some 55, none, .call 75 [.t 51, .t 52, .t 53, .t 54]⟩]))) (.rg [⟨some 31, none, .mv (.t 10)⟩, ⟨some 32, none, .bin .sub .leaf (.t 31) (.k (.int .i64 1))⟩, ⟨some 10, none, .mv (.t 32)⟩])))))))))⟩ := by kernel_rfl
theorem c65 : cFun E0.P 65 = some ⟨32, [], .seq (.rg [⟨some 8, none, .mv (.t 1)⟩, ⟨some 6, none, .mv (.t 8)⟩]) (.seq (.rg [⟨some 9, none, .mv (.t 2)⟩, ⟨some 10, none, .bin .sub .leaf (.t 9) (.k (.int .i64 1))⟩, ⟨some 7, none, .mv (.t 10)⟩]) (.block 0 (.loop (.seq (.seq (.rg [⟨some 11, none, .mv (.t 6)⟩, ⟨some 12, none, .mv (.t 7)⟩, ⟨some 13, none, .bin .lss .leaf (.t 11) (.t 12)⟩]) (.cond (.t 13) .skip (.exit 0))) (.block 1 (.seq (.rd [(⟨some 14, none, .mv (.t 0)⟩, none), (⟨some 15, none, .mv (.t 6)⟩, none), (⟨some 16, none, .mv (.t 0)⟩, none), (⟨some 17, none, .mv (.t 7)⟩, none), (⟨some 18, none, .mv (.t 0)⟩, none), (⟨some 19, none, .mv (.t 7)⟩, none), (⟨some 20, none, .ia 1 (.t 18) (.t 19)⟩, none), (⟨some 21, none, .ld 1 false (.t 20)⟩, none), (⟨some 22, none, .mv (.t 0)⟩, none), (⟨some 23, none, .mv (.t 6)⟩, none), (⟨some 24, none, .ia 1 (.t 22) (.t 23)⟩, none), (⟨some 25, none, .ld 1 false (.t 24)⟩, none), (⟨some 26, none, .ia 1 (.t 14) (.t 15)⟩, none), (⟨none, none, .st 1 (.t 26) (.t 21)⟩, some []), (⟨some 27, none, .ia 1 (.t 16) (.t 17)⟩, none), (⟨none, none, .st 1 (.t 27) (.t 25)⟩, some [])]) (.seq (.rg [⟨some 28, none, .mv (.t 6)⟩, ⟨some 29, none, .bin .add .leaf (.t 28) (.k (.int .i64 1))⟩, ⟨some 6, none, .mv (.t 29)⟩]) (.rg [⟨some 30, none, .mv (.t 7)⟩, ⟨some 31, none, .bin .sub .leaf (.t 30) (.k (.int .i64 1))⟩, ⟨some 7, none, .mv (.t 31)⟩]))))))))⟩ := by kernel_rfl

theorem isNaN (x : Int) : Pure 60 [kD x] (.bool false) := by
  intro S tk
  refine ACalls.fgo c60 rfl fun hS => ?_
  repeat' first | with_reducible refine fzD_ite (fun q => ?_) (fun q => ?_) | ((try conv => whnf); first | refine bs_d (fun q => ?_) (fun q => ?_) | refine bs_n ?_ | refine bs_i (fun q => ?_) (fun q => ?_) | refine eqk rfl ?_ | refine ffin _ rfl rfl hS (Sub.refl _) rfl ⟨?_, rfl, rfl⟩)
  all_goals first | rfl | omega
theorem less (x y : Int) : Pure 67 [kD x, kD y] (.bool (ltInt x y)) := by
  intro S tk
  refine ACalls.fgo c67 rfl fun hS => ?_
  repeat' first | with_reducible refine fzD_ite (fun q => ?_) (fun q => ?_) | ((try conv => whnf); first | refine bs_d (fun q => ?_) (fun q => ?_) | refine bs_n ?_ | refine bs_i (fun q => ?_) (fun q => ?_) | refine ckz (isNaN _) ?_ | refine cq (isNaN _) ?_ | refine eqk rfl ?_ | refine ffin _ rfl rfl hS (Sub.refl _) rfl ⟨?_, rfl, rfl⟩)
  all_goals simp [tupD, ltInt, *]

theorem ltt {x y : Int} (h : x < y) : ltInt x y = true := decide_eq_true h
theorem ltf {x y : Int} (h : ¬ x < y) : ltInt x y = false := decide_eq_false h
theorem ltn {x y : Int} (h : ¬ x < y) : ¬ ltInt x y = true := by rw [ltf h]; simp
abbrev vec (id n : Nat) : D := .vec id n 1
abbrev VI (d : Array Int) : O := VO kD 25 1 d
def Turns (f : FuncId) (id n : Nat) (ds : List D) (d : Array Int) (r : D) (d' : Array Int) : Prop :=
  ∀ (S0 : List O) (tk : Tks), id < S0.length → ACalls E0 f (vec id n :: ds) (S0.set id (VI d)) tk (fun r' S' tk' => r' = r ∧ S' = S0.set id (VI d') ∧ tk' = tk)

structure SI where
  d : Array Int
  i : Nat

theorem insertionSort (id n : Nat) (d : Array Int) (a b : Nat) (hd : d.size = n) (hab : a ≤ b) (hb : b ≤ n) (hn : n < 4611686018427387904) :
    Turns 61 id n [.int .i64 a, .int .i64 b] d (.tup []) (insertionSort ltInt d a b) := by
  intro S0 tk hid
  refine ACalls.fgo c61 rfl fun hS => ?_
  have hl : (S0.set id (VI d)).length = S0.length := List.length_set ..
  repeat' first | with_reducible refine fzD_ite (fun q => ?_) (fun q => ?_) | ((try conv => whnf); first | refine bs_d (fun q => ?_) (fun q => ?_) | refine bs_n ?_ | refine bs_i (fun q => ?_) (fun q => ?_) | refine eqk rfl ?_ | refine ffin _ rfl rfl hS (Sub.refl _) rfl ⟨?_, rfl, rfl⟩)
  refine floopS (α := SI) rfl (fun s => s.d.size = n ∧ a < s.i ∧ insOuter ltInt a b s.i s.d = Sort.insertionSort ltInt d a b) (fun s => b - s.i) (fun s => [(6, .d (.int .i64 s.i)), (0, .d (vec id n)), (1, .d (.int .i64 a)), (2, .d (.int .i64 b))])
    (fun s => S0.set id (VI s.d)) (fun _ => []) (fun _ => []) (fun s _ => ⟨by simp, osc_VO' kE _ hS⟩) ⟨d, a + 1⟩ ⟨hd, by simp, rfl⟩ rfl (fstep_sub ⟨Sub.int (by simp only [wi64]; omega), Sub.refl _, Sub.refl _, Sub.refl _, trivial⟩) ?_
  rintro s ⟨h1, h2, h3⟩
  repeat' first | with_reducible refine fzD_ite (fun q => ?_) (fun q => ?_) | ((try conv => whnf); first | refine bs_d (fun q => ?_) (fun q => ?_) | refine bs_n ?_ | refine bs_i (fun q => ?_) (fun q => ?_) | refine eqk rfl ?_ | refine ffin _ rfl rfl hS (Sub.refl _) rfl ⟨?_, rfl, rfl⟩)
  · refine floopS (α := SI) rfl (fun t => t.d.size = n ∧ a ≤ t.i ∧ t.i ≤ s.i ∧ insInner ltInt a t.i t.d = insInner ltInt a s.i s.d) (fun t => t.i) (fun t => [(7, .d (.int .i64 t.i)), (6, .d (.int .i64 s.i)), (0, .d (vec id n)), (1, .d (.int .i64 a)), (2, .d (.int .i64 b))])
      (fun t => S0.set id (VI t.d)) (fun _ => []) (fun _ => []) (fun t _ => ⟨by simp, osc_VO' kE _ hS⟩) s ⟨h1, by omega, by simp, rfl⟩ rfl (fstep_sub ⟨Sub.refl _, Sub.refl _, Sub.refl _, Sub.refl _, Sub.refl _, trivial⟩) ?_
    rintro t ⟨k1, k2, k3, k4⟩
    repeat' first | with_reducible refine fzD_ite (fun q => ?_) (fun q => ?_) | ((try conv => whnf); first | refine bs_d (fun q => ?_) (fun q => ?_) | refine bs_n ?_ | refine bs_i (fun q => ?_) (fun q => ?_) | refine ckz (less _ _) ?_ | refine cq (less _ _) ?_ | refine pK_i (iaD_vecN (k := t.i) (by first | rfl | omega | (refine Int.sub_eq_zero.mp ?_; simp (disch := ((try unfold I64); omega)) only [wi64_id, td]; omega)) (by omega)) ?_ | refine pK_i (iaD_vecN (k := t.i - 1) (by first | rfl | omega | (refine Int.sub_eq_zero.mp ?_; simp (disch := ((try unfold I64); omega)) only [wi64_id, td]; omega)) (by omega)) ?_ | refine pK_i (ldV_VO kE hid k1 (by omega)) ?_ | refine gk_stVO kE hid (List.length_set ..).symm rfl rfl (by simpa using k1) (by omega) rfl ?_ | refine eqk rfl ?_ | refine ffin _ rfl rfl hS (Sub.refl _) rfl ⟨?_, rfl, rfl⟩)
    · skip
      refine fnextS (α := SI) ⟨swp t.d t.i (t.i - 1), t.i - 1⟩ ⟨by rw [size_swp']; exact k1, by simp only; omega, by simp only; omega, ?_⟩ (by simp only; omega) rfl (fstep_sub ⟨Sub.int (by first | rfl | omega | (refine Int.sub_eq_zero.mp ?_; simp (disch := ((try unfold I64); omega)) only [wi64_id, td]; omega)), Sub.refl _, Sub.refl _, Sub.refl _, Sub.refl _, trivial⟩)
      rw [← k4, insInner_step (i := t.i) (d := t.d) (by omega) (ltt q)]
    · skip
      refine fnextS (α := SI) ⟨t.d, s.i + 1⟩ ⟨k1, by simp only; omega, ?_⟩ (by simp only; omega) rfl (fstep_sub ⟨Sub.int (by first | rfl | omega | (refine Int.sub_eq_zero.mp ?_; simp (disch := ((try unfold I64); omega)) only [wi64_id, td]; omega)), Sub.refl _, Sub.refl _, Sub.refl _, trivial⟩)
      rw [← h3, insOuter_step (i := s.i) (by omega), ← k4, insInner_stop fun _ => ltf q]
    · refine fnextS (α := SI) ⟨t.d, s.i + 1⟩ ⟨k1, by simp only; omega, ?_⟩ (by simp only; omega) rfl (fstep_sub ⟨Sub.int (by first | rfl | omega | (refine Int.sub_eq_zero.mp ?_; simp (disch := ((try unfold I64); omega)) only [wi64_id, td]; omega)), Sub.refl _, Sub.refl _, Sub.refl _, trivial⟩)
      rw [← h3, insOuter_step (i := s.i) (by omega), ← k4, insInner_stop fun h => by omega]
  · refine ffin _ (by simp) rfl (osc_VO' kE _ hS) (Sub.refl _) rfl ⟨rfl, ?_, rfl⟩
    rw [← h3, insOuter_stop (by omega)]
set_option maxHeartbeats 1000000 in
theorem siftDown (id n : Nat) (d : Array Int) (lo hi first : Nat) (hd : d.size = n) (hlo : lo ≤ n) (hb : first + hi ≤ n) (hn : n < 4611686018427387904) :
    Turns 75 id n [.int .i64 lo, .int .i64 hi, .int .i64 first] d (.tup []) (siftDown ltInt hi first lo d) := by
  intro S0 tk hid
  refine ACalls.fgo c75 rfl fun hS => ?_
  repeat' first | with_reducible refine fzD_ite (fun q => ?_) (fun q => ?_) | ((try conv => whnf); first | refine bs_d (fun q => ?_) (fun q => ?_) | refine bs_n ?_ | refine bs_i (fun q => ?_) (fun q => ?_) | refine eqk rfl ?_ | refine ffin _ rfl rfl hS (Sub.refl _) rfl ⟨?_, rfl, rfl⟩)
  refine floopS (α := SI) rfl (fun s => s.d.size = n ∧ s.i ≤ n ∧ Sort.siftDown ltInt hi first s.i s.d = Sort.siftDown ltInt hi first lo d) (fun s => n - s.i) (fun s => [(8, .d (.int .i64 s.i)), (0, .d (vec id n)), (2, .d (.int .i64 hi)), (3, .d (.int .i64 first))])
    (fun s => S0.set id (VI s.d)) (fun _ => []) (fun _ => []) (fun s _ => ⟨by simp, osc_VO' kE _ hS⟩) ⟨d, lo⟩ ⟨hd, hlo, rfl⟩ rfl (fstep_sub ⟨Sub.refl _, Sub.refl _, Sub.refl _, Sub.refl _, trivial⟩) ?_
  rintro s ⟨h1, h2, h3⟩
  repeat' first | with_reducible refine fzD_ite (fun q => ?_) (fun q => ?_) | ((try conv => whnf); first | refine bs_d (fun q => ?_) (fun q => ?_) <;> (try simp (disch := ((try unfold I64); omega)) only [wi64_id, td] at q) | refine bs_n ?_ | refine bs_i (fun q => ?_) (fun q => ?_) | refine ckz (less _ _) ?_ | refine cq (less _ _) ?_ | refine pK_i (iaD_vecN (k := first + s.i) (by first | rfl | omega | (refine Int.sub_eq_zero.mp ?_; simp (disch := ((try unfold I64); omega)) only [wi64_id, td]; omega)) (by omega)) ?_ | refine pK_i (iaD_vecN (k := first + (2 * s.i + 1)) (by first | rfl | omega | (refine Int.sub_eq_zero.mp ?_; simp (disch := ((try unfold I64); omega)) only [wi64_id, td]; omega)) (by omega)) ?_ | refine pK_i (iaD_vecN (k := first + (2 * s.i + 1 + 1)) (by first | rfl | omega | (refine Int.sub_eq_zero.mp ?_; simp (disch := ((try unfold I64); omega)) only [wi64_id, td]; omega)) (by omega)) ?_ | refine pK_i (ldV_VO kE hid h1 (by omega)) ?_ | refine gk_stVO kE hid (List.length_set ..).symm rfl rfl (by simpa using h1) (by omega) rfl ?_ | refine ffin _ (by simp) rfl (osc_VO' kE _ hS) (Sub.refl _) rfl ⟨rfl, ?_, rfl⟩ | refine eqk rfl ?_ | refine ffin _ rfl rfl hS (Sub.refl _) rfl ⟨?_, rfl, rfl⟩)
  · rw [← h3, siftDown_stop (by omega)]
  · rename_i q2 q3 q4
    refine fnextS (α := SI) ⟨swp s.d (first + s.i) (first + (2 * s.i + 1 + 1)), 2 * s.i + 1 + 1⟩ ⟨by rw [size_swp']; exact h1, by simp only; omega, ?_⟩ (by simp only; omega) rfl (fstep_sub ⟨Sub.int (by first | rfl | omega | (refine Int.sub_eq_zero.mp ?_; simp (disch := ((try unfold I64); omega)) only [wi64_id, td]; omega)), Sub.refl _, Sub.refl _, Sub.refl _, trivial⟩)
    rw [← h3, siftDown_b1 (r := s.i) (by omega) (by omega) (ltt q4), if_pos (ltt q)]
  · rename_i q2 q3 q4
    rw [← h3, siftDown_b1 (r := s.i) (by omega) (by omega) (ltt q4), if_neg (ltn q)]
  · rename_i q2 q3 q4
    refine fnextS (α := SI) ⟨swp s.d (first + s.i) (first + (2 * s.i + 1)), 2 * s.i + 1⟩ ⟨by rw [size_swp']; exact h1, by simp only; omega, ?_⟩ (by simp only; omega) rfl (fstep_sub ⟨Sub.int (by first | rfl | omega | (refine Int.sub_eq_zero.mp ?_; simp (disch := ((try unfold I64); omega)) only [wi64_id, td]; omega)), Sub.refl _, Sub.refl _, Sub.refl _, trivial⟩)
    rw [← h3, siftDown_b2 (r := s.i) (by omega) (fun _ => ltf q4), if_pos (ltt q)]
  · rename_i q2 q3 q4
    rw [← h3, siftDown_b2 (r := s.i) (by omega) (fun _ => ltf q4), if_neg (ltn q)]
  · refine fnextS (α := SI) ⟨swp s.d (first + s.i) (first + (2 * s.i + 1)), 2 * s.i + 1⟩ ⟨by rw [size_swp']; exact h1, by simp only; omega, ?_⟩ (by simp only; omega) rfl (fstep_sub ⟨Sub.int (by first | rfl | omega | (refine Int.sub_eq_zero.mp ?_; simp (disch := ((try unfold I64); omega)) only [wi64_id, td]; omega)), Sub.refl _, Sub.refl _, Sub.refl _, trivial⟩)
    rw [← h3, siftDown_b2 (r := s.i) (by omega) (fun h => by omega), if_pos (ltt q)]
  · rw [← h3, siftDown_b2 (r := s.i) (by omega) (fun h => by omega), if_neg (ltn q)]

structure SJ where
  d : Array Int
  i : Nat
  j : Nat

theorem reverseRange (id n : Nat) (d : Array Int) (a b : Nat) (hd : d.size = n) (hab : a < b) (hb : b ≤ n) (hn : n < 4611686018427387904) :
    Turns 65 id n [.int .i64 a, .int .i64 b] d (.tup []) (reverseRange d a b) := by
  intro S0 tk hid
  refine ACalls.fgo c65 rfl fun hS => ?_
  repeat' first | with_reducible refine fzD_ite (fun q => ?_) (fun q => ?_) | ((try conv => whnf); first | refine bs_d (fun q => ?_) (fun q => ?_) | refine bs_n ?_ | refine bs_i (fun q => ?_) (fun q => ?_) | refine eqk rfl ?_ | refine ffin _ rfl rfl hS (Sub.refl _) rfl ⟨?_, rfl, rfl⟩)
  refine floopS (α := SJ) rfl (fun s => s.d.size = n ∧ a ≤ s.i ∧ s.i ≤ n ∧ s.j + 1 ≤ b ∧ a ≤ s.j + 1 ∧ (s.i < s.j → 0 < s.j) ∧ Sort.reverseLoop s.i s.j s.d = Sort.reverseRange d a b) (fun s => n + s.j - s.i) (fun s => [(6, .d (.int .i64 s.i)), (7, .d (.int .i64 s.j)), (0, .d (vec id n))])
    (fun s => S0.set id (VI s.d)) (fun _ => []) (fun _ => []) (fun s _ => ⟨by simp, osc_VO' kE _ hS⟩) ⟨d, a, b - 1⟩ ⟨hd, by simp, by simp only; omega, by simp only; omega, by simp only; omega, by simp only; omega, rfl⟩ rfl (fstep_sub ⟨Sub.refl _, Sub.int (by first | rfl | omega | (refine Int.sub_eq_zero.mp ?_; simp (disch := ((try unfold I64); omega)) only [wi64_id, td]; omega)), Sub.refl _, trivial⟩) ?_
  rintro s ⟨h1, h2, h3, h4, h5, h6, h7⟩
  repeat' first | with_reducible refine fzD_ite (fun q => ?_) (fun q => ?_) | ((try conv => whnf); first | refine bs_d (fun q => ?_) (fun q => ?_) <;> (try simp (disch := ((try unfold I64); omega)) only [wi64_id, td] at q) | refine bs_n ?_ | refine bs_i (fun q => ?_) (fun q => ?_) | refine pK_i (iaD_vecN (k := s.i) (by first | rfl | omega | (refine Int.sub_eq_zero.mp ?_; simp (disch := ((try unfold I64); omega)) only [wi64_id, td]; omega)) (by omega)) ?_ | refine pK_i (iaD_vecN (k := s.j) (by first | rfl | omega | (refine Int.sub_eq_zero.mp ?_; simp (disch := ((try unfold I64); omega)) only [wi64_id, td]; omega)) (by omega)) ?_ | refine pK_i (ldV_VO kE hid h1 (by omega)) ?_ | refine gk_stVO kE hid (List.length_set ..).symm rfl rfl (by simpa using h1) (by omega) rfl ?_ | refine ffin _ (by simp) rfl (osc_VO' kE _ hS) (Sub.refl _) rfl ⟨rfl, ?_, rfl⟩ | refine eqk rfl ?_ | refine ffin _ rfl rfl hS (Sub.refl _) rfl ⟨?_, rfl, rfl⟩)
  · refine fnextS (α := SJ) ⟨swp s.d s.i s.j, s.i + 1, s.j - 1⟩ ⟨by rw [size_swp']; exact h1, by simp only; omega, by simp only; omega, by simp only; omega, by simp only; omega, by simp only; omega, ?_⟩ (by simp only; omega) rfl (fstep_sub ⟨Sub.int (by first | rfl | omega | (refine Int.sub_eq_zero.mp ?_; simp (disch := ((try unfold I64); omega)) only [wi64_id, td]; omega)), Sub.int (by first | rfl | omega | (refine Int.sub_eq_zero.mp ?_; simp (disch := ((try unfold I64); omega)) only [wi64_id, td]; omega)), Sub.refl _, trivial⟩)
    rw [← h7, reverseLoop_step (i := s.i) (by omega)]
  · rw [← h7, reverseLoop_stop (by omega)]

theorem size_heapBuild (hi first : Nat) : ∀ (k : Nat) (d : Array Int), (heapBuild ltInt hi first k d).size = d.size
  | 0, d => rfl
  | k + 1, d => by rw [heapBuild, size_heapBuild hi first k, size_sift']

theorem heapSort (id n : Nat) (d : Array Int) (a b : Nat) (hd : d.size = n) (hab : a ≤ b) (hb : b ≤ n) (hn : n < 4611686018427387904) :
    Turns 62 id n [.int .i64 a, .int .i64 b] d (.tup []) (heapSort ltInt d a b) := by
  intro S0 tk hid
  refine ACalls.fgo c62 rfl fun hS => ?_
  repeat' first | with_reducible refine fzD_ite (fun q => ?_) (fun q => ?_) | ((try conv => whnf); first | refine bs_d (fun q => ?_) (fun q => ?_) | refine bs_n ?_ | refine bs_i (fun q => ?_) (fun q => ?_) | refine eqk rfl ?_ | refine ffin _ rfl rfl hS (Sub.refl _) rfl ⟨?_, rfl, rfl⟩)
  refine floopS (α := SI) rfl (fun s => s.d.size = n ∧ s.i ≤ n + 1 ∧ heapBuild ltInt (b - a) a s.i s.d = heapBuild ltInt (b - a) a ((b - a - 1) / 2 + 1) d) (fun s => s.i) (fun s => [(9, .d (.int .i64 ((s.i : Int) - 1))), (0, .d (vec id n)), (6, .d (.int .i64 a)), (7, .d (.int .i64 ((0 : Nat) : Int))), (8, .d (.int .i64 ((b - a : Nat) : Int)))])
    (fun s => S0.set id (VI s.d)) (fun _ => []) (fun _ => []) (fun s _ => ⟨by simp, osc_VO' kE _ hS⟩) ⟨d, (b - a - 1) / 2 + 1⟩ ⟨hd, by simp only; omega, rfl⟩ rfl (fstep_sub ⟨Sub.int ?_, Sub.refl _, Sub.refl _, Sub.refl _, Sub.int (by first | rfl | omega | (refine Int.sub_eq_zero.mp ?_; simp (disch := ((try unfold I64); omega)) only [wi64_id, td]; omega)), trivial⟩) ?_
  · simp (disch := (unfold I64; omega)) only [wi64_id]
    rw [tdiv2 (by omega)]
    split <;> (rw [wi64_id (by unfold I64; omega)]; omega)
  rintro s ⟨h1, h2, h3⟩
  repeat' first | with_reducible refine fzD_ite (fun q => ?_) (fun q => ?_) | ((try conv => whnf); first | refine bs_d (fun q => ?_) (fun q => ?_) <;> (try simp (disch := ((try unfold I64); omega)) only [wi64_id, td] at q) | refine bs_n ?_ | refine bs_i (fun q => ?_) (fun q => ?_) | refine ckVOS hid (List.length_set ..).symm rfl (siftDown id n s.d (s.i - 1) (b - a) a h1 (by omega) (by omega) hn) (.cons (Sub.refl _) (.cons (Sub.int (by omega)) (.cons (Sub.refl _) (.cons (Sub.refl _) .nil)))) ?_ | refine eqk rfl ?_ | refine ffin _ rfl rfl hS (Sub.refl _) rfl ⟨?_, rfl, rfl⟩)
  · refine fnextS (α := SI) ⟨Sort.siftDown ltInt (b - a) a (s.i - 1) s.d, s.i - 1⟩ ⟨by rw [size_sift']; exact h1, by simp only; omega, ?_⟩ (by simp only; omega) rfl (fstep_sub ⟨Sub.int (by first | rfl | omega | (refine Int.sub_eq_zero.mp ?_; simp (disch := ((try unfold I64); omega)) only [wi64_id, td]; omega)), Sub.refl _, Sub.refl _, Sub.refl _, Sub.refl _, trivial⟩)
    rw [← h3]
    obtain ⟨k, hk⟩ : ∃ k, s.i = k + 1 := ⟨s.i - 1, by omega⟩
    simp only [hk, heapBuild, Nat.add_sub_cancel]
  · have h0 : s.i = 0 := by omega
    rw [h0, heapBuild] at h3
    refine floopS (α := SI) rfl (fun t => t.d.size = n ∧ t.i ≤ b - a ∧ heapPop ltInt a t.i t.d = Sort.heapSort ltInt d a b) (fun t => t.i) (fun t => [(10, .d (.int .i64 ((t.i : Int) - 1))), (0, .d (vec id n)), (6, .d (.int .i64 a)), (7, .d (.int .i64 ((0 : Nat) : Int)))])
      (fun t => S0.set id (VI t.d)) (fun _ => []) (fun _ => []) (fun t _ => ⟨by simp, osc_VO' kE _ hS⟩) ⟨s.d, b - a⟩ ⟨h1, Nat.le_refl _, by simp only [Sort.heapSort, ← h3]⟩ rfl (fstep_sub ⟨Sub.int (by first | rfl | omega | (refine Int.sub_eq_zero.mp ?_; simp (disch := ((try unfold I64); omega)) only [wi64_id, td]; omega)), Sub.refl _, Sub.refl _, Sub.refl _, trivial⟩) ?_
    rintro t ⟨k1, k2, k3⟩
    repeat' first | with_reducible refine fzD_ite (fun q => ?_) (fun q => ?_) | ((try conv => whnf); first | refine bs_d (fun q => ?_) (fun q => ?_) <;> (try simp (disch := ((try unfold I64); omega)) only [wi64_id, td] at q) | refine bs_n ?_ | refine bs_i (fun q => ?_) (fun q => ?_) | refine ckVOS hid (List.length_set ..).symm rfl (siftDown id n (swp t.d a (a + (t.i - 1))) 0 (t.i - 1) a (by rw [size_swp']; exact k1) (by omega) (by omega) hn) (.cons (Sub.refl _) (.cons (Sub.refl _) (.cons (Sub.int (by omega)) (.cons (Sub.refl _) .nil)))) ?_ | refine pK_i (iaD_vecN (k := a) (by first | rfl | omega | (refine Int.sub_eq_zero.mp ?_; simp (disch := ((try unfold I64); omega)) only [wi64_id, td]; omega)) (by omega)) ?_ | refine pK_i (iaD_vecN (k := a + (t.i - 1)) (by first | rfl | omega | (refine Int.sub_eq_zero.mp ?_; simp (disch := ((try unfold I64); omega)) only [wi64_id, td]; omega)) (by omega)) ?_ | refine pK_i (ldV_VO kE hid k1 (by omega)) ?_ | refine gk_stVO kE hid (List.length_set ..).symm rfl rfl (by simpa using k1) (by omega) rfl ?_ | refine ffin _ (by simp) rfl (osc_VO' kE _ hS) (Sub.refl _) rfl ⟨rfl, ?_, rfl⟩ | refine eqk rfl ?_ | refine ffin _ rfl rfl hS (Sub.refl _) rfl ⟨?_, rfl, rfl⟩)
    · refine fnextS (α := SI) ⟨Sort.siftDown ltInt (t.i - 1) a 0 (swp t.d a (a + (t.i - 1))), t.i - 1⟩ ⟨by rw [size_sift', size_swp']; exact k1, by simp only; omega, ?_⟩ (by simp only; omega) rfl (fstep_sub ⟨Sub.int (by first | rfl | omega | (refine Int.sub_eq_zero.mp ?_; simp (disch := ((try unfold I64); omega)) only [wi64_id, td]; omega)), Sub.refl _, Sub.refl _, Sub.refl _, trivial⟩)
      rw [← k3]
      obtain ⟨k, hk⟩ : ∃ k, t.i = k + 1 := ⟨t.i - 1, by omega⟩
      simp only [hk, heapPop, Nat.add_sub_cancel]
    · have h0 : t.i = 0 := by omega
      rw [h0, heapPop] at k3
      rw [k3]
theorem c79 : cFun E0.P 79 = some ⟨28, [(8, none), (9, none)], .seq (.rg [⟨some 8, none, .mv (.k (.int .i64 0))⟩, ⟨some 9, none, .mv (.k (.int .i64 0))⟩]) (.seq (.seq (.rd [(⟨some 10, none, .mv (.t 0)⟩, none), (⟨some 11, none, .mv (.t 2)⟩, none), (⟨some 12, none, .ia 1 (.t 10) (.t 11)⟩, none), (⟨some 13, none, .ld 1 false (.t 12)⟩, none), (⟨some 14, none, .mv (.t 0)⟩, none), (⟨some 15, none, .mv (.t 1)⟩, none), (⟨some 16, none, .ia 1 (.t 14) (.t 15)⟩, none), (⟨some 17, none, .ld 1 false (.t 16)⟩, none), (⟨some 18, none, .call 67 [.t 13, .t 17]⟩, some [])]) (.cond (.t 18) (.seq (.rg [⟨some 19, none, .mv (.t 3)⟩, ⟨some 20, none, .nilck (.t 19)⟩, ⟨some 21, none, .ld 1 false (.t 20)⟩, ⟨some 22, none, .bin .add .leaf (.t 21) (.k (.int .i64 1))⟩, ⟨some 23, none, .nilck (.t 19)⟩, ⟨none, none, .st 1 (.t 23) (.t 22)⟩]) (.seq (.rg [⟨some 24, none, .mv (.t 2)⟩, ⟨some 25, none, .mv (.t 1)⟩, ⟨some 8, none, .mv (.t 24)⟩, ⟨some 9, none, .mv (.t 25)⟩]) .ret)) .skip)) (.seq (.rg [⟨some 26, none, .mv (.t 1)⟩, ⟨some 27, none, .mv (.t 2)⟩, ⟨some 8, none, .mv (.t 26)⟩, ⟨some 9, none, .mv (.t 27)⟩]) .ret))⟩ := by kernel_rfl
theorem c77 : cFun E0.P 77 = some ⟨36, [(10, none)], .seq (.rg [⟨some 10, none, .mv (.k (.int .i64 0))⟩]) (.seq (.rg [⟨some 12, none, .mv (.t 0)⟩, ⟨some 13, none, .mv (.t 1)⟩, ⟨some 14, none, .mv (.t 2)⟩, ⟨some 15, none, .mv (.t 4)⟩, ⟨some 16, none, .call 79 [.t 12, .t 13, .t 14, .t 15]⟩, ⟨some 11, none, .mv (.t 16)⟩, ⟨some 17, none, .ext 0 (.t 11)⟩, ⟨some 18, none, .ext 1 (.t 11)⟩, ⟨some 1, none, .mv (.t 17)⟩, ⟨some 2, none, .mv (.t 18)⟩]) (.seq (.rg [⟨some 20, none, .mv (.t 0)⟩, ⟨some 21, none, .mv (.t 2)⟩, ⟨some 22, none, .mv (.t 3)⟩, ⟨some 23, none, .mv (.t 4)⟩, ⟨some 24, none, .call 79 [.t 20, .t 21, .t 22, .t 23]⟩, ⟨some 19, none, .mv (.t 24)⟩, ⟨some 25, none, .ext 0 (.t 19)⟩, ⟨some 26, none, .ext 1 (.t 19)⟩, ⟨some 2, none, .mv (.t 25)⟩, ⟨some 3, none, .mv (.t 26)⟩]) (.seq (.rg [⟨some 28, none, .mv (.t 0)⟩, ⟨some 29, none, .mv (.t 1)⟩, ⟨some 30, none, .mv (.t 2)⟩, ⟨some 31, none, .mv (.t 4)⟩, ⟨some 32, none, .call 79 [.t 28, .t 29, .t 30, .t 31]⟩, ⟨some 27, none, .mv (.t 32)⟩, ⟨some 33, none, .ext 0 (.t 27)⟩, ⟨some 34, none, .ext 1 (.t 27)⟩, ⟨some 1, none, .mv (.t 33)⟩, ⟨some 2, none, .mv (.t 34)⟩]) (.seq (.rg [⟨some 35, none, .mv (.t 2)⟩, ⟨some 10, none, .mv (.t 35)⟩]) .ret))))⟩ := by kernel_rfl
theorem c76 : cFun E0.P 76 = some ⟨15, [(6, none)], .seq (.rg [⟨some 6, none, .mv (.k (.int .i64 0))⟩]) (.seq (.rg [⟨some 7, none, .mv (.t 0)⟩, ⟨some 8, none, .mv (.t 1)⟩, ⟨some 9, none, .bin .sub .leaf (.t 8) (.k (.int .i64 1))⟩, ⟨some 10, none, .mv (.t 1)⟩, ⟨some 11, none, .mv (.t 1)⟩, ⟨some 12, none, .bin .add .leaf (.t 11) (.k (.int .i64 1))⟩, ⟨some 13, none, .mv (.t 2)⟩, ⟨some 14, none, .call 77 [.t 7, .t 9, .t 10, .t 12, .t 13]⟩, ⟨some 6, none, .mv (.t 14)⟩]) .ret)⟩ := by kernel_rfl
theorem c64 : cFun E0.P 64 = some ⟨57, [(6, none), (7, none)], .seq (.rg [⟨some 6, none, .mv (.k (.int .i64 0))⟩, ⟨some 7, none, .mv (.k (.int .i64 0))⟩]) (.seq (.rg [⟨some 13, none, .mv (.t 2)⟩, ⟨some 14, none, .mv (.t 1)⟩, ⟨some 15, none, .bin .sub .leaf (.t 13) (.t 14)⟩, ⟨some 8, none, .mv (.t 15)⟩]) (.seq (.rg [⟨some 9, none, .alloc [.int .i64 0] 3⟩]) (.seq (.rg [⟨some 16, none, .mv (.t 1)⟩, ⟨some 17, none, .mv (.t 8)⟩, ⟨some 18, none, .bin .quo .leaf (.t 17) (.k (.int .i64 4))⟩, ⟨some 19, none, .bin .mul .leaf (.t 18) (.k (.int .i64 1))⟩, ⟨some 20, none, .bin .add .leaf (.t 16) (.t 19)⟩, ⟨some 10, none, .mv (.t 20)⟩]) (.seq (.rg [⟨some 21, none, .mv (.t 1)⟩, ⟨some 22, none, .mv (.t 8)⟩, ⟨some 23, none, .bin .quo .leaf (.t 22) (.k (.int .i64 4))⟩, ⟨some 24, none, .bin .mul .leaf (.t 23) (.k (.int .i64 2))⟩, ⟨some 25, none, .bin .add .leaf (.t 21) (.t 24)⟩, ⟨some 11, none, .mv (.t 25)⟩]) (.seq (.rg [⟨some 26, none, .mv (.t 1)⟩, ⟨some 27, none, .mv (.t 8)⟩, ⟨some 28, none, .bin .quo .leaf (.t 27) (.k (.int .i64 4))⟩, ⟨some 29, none, .bin .mul .leaf (.t 28) (.k (.int .i64 3))⟩, ⟨some 30, none, .bin .add .leaf (.t 26) (.t 29)⟩, ⟨some 12, none, .mv (.t 30)⟩]) (.seq (.seq (.rg [⟨some 31, none, .mv (.t 8)⟩, ⟨some 32, none, .bin .geq .leaf (.t 31) (.k (.int .i64 8))⟩]) (.cond (.t 32) (.seq (.seq (.rg [⟨some 33, none, .mv (.t 8)⟩, ⟨some 34, none, .bin .geq .leaf (.t 33) (.k (.int .i64 50))⟩]) (.cond (.t 34) (.seq (.rg [⟨some 35, none, .mv (.t 0)⟩, ⟨some 36, none, .mv (.t 10)⟩, ⟨some 37, none, .call 76 [.t 35, .t 36, .t 9]⟩, ⟨some 10, none, .mv (.t 37)⟩]) (.seq (.rg [⟨some 38, none, .mv (.t 0)⟩, ⟨some 39, none, .mv (.t 11)⟩, ⟨some 40, none, .call 76 [.t 38, .t 39, .t 9]⟩, ⟨some 11, none, .mv (.t 40)⟩]) (.rg [⟨some 41, none, .mv (.t 0)⟩, ⟨some 42, none, .mv (.t 12)⟩, ⟨some 43, none, .call 76 [.t 41, .t 42, .t 9]⟩, ⟨some 12, none, .mv (.t 43)⟩]))) .skip)) (.rg [⟨some 44, none, .mv (.t 0)⟩, ⟨some 45, none, .mv (.t 10)⟩, ⟨some 46, none, .mv (.t 11)⟩, ⟨some 47, none, .mv (.t 12)⟩, ⟨some 48, none, .call 77 [.t 44, .t 45, .t 46, .t 47, .t 9]⟩, ⟨some 11, none, .mv (.t 48)⟩])) .skip)) (.seq (.rg [⟨some 49, none, .ld 1 false (.t 9)⟩]) (.block 0 (.seq (.rg [⟨some 52, none, .bin .eql .leaf (.t 49) (.k (.int .i64 0))⟩, ⟨some 51, none, .mv (.t 52)⟩]) (.cond (.t 51) (.seq (.rg [⟨some 53, none, .mv (.t 11)⟩, ⟨some 6, none, .mv (.t 53)⟩, ⟨some 7, none, .mv (.k (.int .i64 1))⟩]) .ret) (.seq (.rg [⟨some 55, none, .bin .eql .leaf (.t 49) (.k (.int .i64 12))⟩, ⟨some 54, none, .mv (.t 55)⟩]) (.cond (.t 54) (.seq (.rg [⟨some 56, none, .mv (.t 11)⟩, ⟨some 6, none, .mv (.t 56)⟩, ⟨some 7, none, .mv (.k (.int .i64 2))⟩]) .ret) (.seq (.rg [⟨some 50, none, .mv (.t 11)⟩, ⟨some 6, none, .mv (.t 50)⟩, ⟨some 7, none, .mv (.k (.int .i64 0))⟩]) .ret)))))))))))))⟩ := by kernel_rfl

abbrev SwI (S0 : List O) (pid k id : Nat) (d : Array Int) : List O := SwS kD 25 1 S0 pid k id d
abbrev Counts (f : FuncId) (id pid n : Nat) (ds : List D) (d : Array Int) (k : Nat) (r : D) (k' : Nat) : Prop := SwC kD 25 1 E0 f id pid (vec id n :: ds) d k r k'

theorem order2 (id pid n : Nat) (d : Array Int) (a b k : Nat) (hd : d.size = n) (ha : a < n) (hb : b < n) (hn : n < 4611686018427387904) (hk : k < 4611686018427387904) :
    Counts 79 id pid n [.int .i64 a, .int .i64 b, .po pid 0] d k (.tup [.int .i64 (order2 ltInt d a b k).1, .int .i64 (order2 ltInt d a b k).2.1]) (order2 ltInt d a b k).2.2 := by
  intro S0 tk hid hp hne
  refine ACalls.fgo c79 rfl fun hS => ?_
  repeat' first | with_reducible refine fzD_ite (fun q => ?_) (fun q => ?_) | ((try conv => whnf); first | refine bs_d (fun q => ?_) (fun q => ?_) <;> (try simp (disch := ((try unfold I64); omega)) only [wi64_id, td] at q) | refine bs_n ?_ | refine bs_i (fun q => ?_) (fun q => ?_) | refine ckz (less _ _) ?_ | refine cq (less _ _) ?_ | refine pK_i (iaD_vecN (k := b) (by first | rfl | omega | (refine Int.sub_eq_zero.mp ?_; simp (disch := ((try unfold I64); omega)) only [wi64_id, td]; omega)) (by omega)) ?_ | refine pK_i (iaD_vecN (k := a) (by first | rfl | omega | (refine Int.sub_eq_zero.mp ?_; simp (disch := ((try unfold I64); omega)) only [wi64_id, td]; omega)) (by omega)) ?_ | refine pK_i (ldV_Sw kE hid hd (by omega)) ?_ | refine pK_i (ldO_Sw hp hne) ?_ | refine gk_stSw (k' := k + 1) hp hne SwS_len.symm rfl rfl (congrArg (D.int .i64) (by first | rfl | omega | (refine Int.sub_eq_zero.mp ?_; simp (disch := ((try unfold I64); omega)) only [wi64_id, td]; omega))) ?_ | refine ffin _ (by simp [SwS_len]) rfl (osc_Sw hne hS) (Sub.refl _) rfl ⟨?_, ?_, rfl⟩ | refine eqk rfl ?_ | refine ffin _ rfl rfl hS (Sub.refl _) rfl ⟨?_, rfl, rfl⟩)
  · rw [Sort.order2, if_pos (ltt q)]; rfl
  · rw [Sort.order2, if_pos (ltt q)]
  · rw [Sort.order2, if_neg (ltn q)]; rfl
  · rw [Sort.order2, if_neg (ltn q)]

theorem median (id pid n : Nat) (d : Array Int) (a b c k : Nat) (hd : d.size = n) (ha : a < n) (hb : b < n) (hc : c < n) (hn : n < 4611686018427387904) (hk : k < 4611686018427387900) :
    Counts 77 id pid n [.int .i64 a, .int .i64 b, .int .i64 c, .po pid 0] d k (.int .i64 (median ltInt d a b c k).1) (median ltInt d a b c k).2 := by
  intro S0 tk hid hp hne
  have m1 := order2_mem ltInt d a b k
  have k1 := order2_count (lt := ltInt) d a b k
  generalize e1 : Sort.order2 ltInt d a b k = r1 at m1 k1
  have m2 := order2_mem ltInt d r1.2.1 c r1.2.2
  have k2 := order2_count (lt := ltInt) d r1.2.1 c r1.2.2
  generalize e2 : Sort.order2 ltInt d r1.2.1 c r1.2.2 = r2 at m2 k2
  have m3 := order2_mem ltInt d r1.1 r2.1 r2.2.2
  have c1 := order2 id pid n d a b k hd ha hb hn (by omega)
  have c2 := order2 id pid n d r1.2.1 c r1.2.2 hd (by omega) hc hn (by omega)
  have c3 := order2 id pid n d r1.1 r2.1 r2.2.2 hd (by omega) (by omega) hn (by omega)
  rw [e1] at c1
  rw [e2] at c2
  refine ACalls.fgo c77 rfl fun hS => ?_
  repeat' first | with_reducible refine fzD_ite (fun q => ?_) (fun q => ?_) | ((try conv => whnf); first | refine bs_d (fun q => ?_) (fun q => ?_) <;> (try simp (disch := ((try unfold I64); omega)) only [wi64_id, td] at q) | refine bs_n ?_ | refine bs_i (fun q => ?_) (fun q => ?_) | refine ckSw hid hp hne SwS_len.symm rfl c1 (SubL.refl _) ?_ | refine ckSw hid hp hne SwS_len.symm rfl c2 (SubL.refl _) ?_ | refine ckSw hid hp hne SwS_len.symm rfl c3 (SubL.refl _) ?_ | refine ffin _ (by simp [SwS_len]) rfl (osc_Sw hne hS) (Sub.refl _) rfl ⟨?_, ?_, rfl⟩ | refine eqk rfl ?_ | refine ffin _ rfl rfl hS (Sub.refl _) rfl ⟨?_, rfl, rfl⟩)
  · simp only [Sort.median, e1, e2]; rfl
  · simp only [Sort.median, e1, e2]

theorem medianAdjacent (id pid n : Nat) (d : Array Int) (a k : Nat) (hd : d.size = n) (ha : 0 < a) (hb : a + 1 < n) (hn : n < 4611686018427387904) (hk : k < 4611686018427387900) :
    Counts 76 id pid n [.int .i64 a, .po pid 0] d k (.int .i64 (medianAdjacent ltInt d a k).1) (medianAdjacent ltInt d a k).2 := by
  intro S0 tk hid hp hne
  have c1 := median id pid n d (a - 1) a (a + 1) k hd (by omega) (by omega) hb hn hk
  refine ACalls.fgo c76 rfl fun hS => ?_
  repeat' first | with_reducible refine fzD_ite (fun q => ?_) (fun q => ?_) | ((try conv => whnf); first | refine bs_d (fun q => ?_) (fun q => ?_) <;> (try simp (disch := ((try unfold I64); omega)) only [wi64_id, td] at q) | refine bs_n ?_ | refine bs_i (fun q => ?_) (fun q => ?_) | refine ckSw hid hp hne SwS_len.symm rfl c1 (.cons (Sub.refl _) (.cons (Sub.int (by first | rfl | omega | (refine Int.sub_eq_zero.mp ?_; simp (disch := ((try unfold I64); omega)) only [wi64_id, td]; omega))) (.cons (Sub.refl _) (.cons (Sub.int (by first | rfl | omega | (refine Int.sub_eq_zero.mp ?_; simp (disch := ((try unfold I64); omega)) only [wi64_id, td]; omega))) (.cons (Sub.refl _) .nil))))) ?_ | refine ffin _ (by simp [SwS_len]) rfl (osc_Sw hne hS) (Sub.refl _) rfl ⟨?_, ?_, rfl⟩ | refine eqk rfl ?_ | refine ffin _ rfl rfl hS (Sub.refl _) rfl ⟨?_, rfl, rfl⟩)
  all_goals rfl
theorem c68 : cFun E0.P 68 = some ⟨84, [(8, none)], .seq (.rg [⟨some 8, none, .mv (.k (.int .i64 0))⟩]) (.seq (.rd [(⟨some 11, none, .mv (.t 0)⟩, none), (⟨some 12, none, .mv (.t 1)⟩, none), (⟨some 13, none, .mv (.t 0)⟩, none), (⟨some 14, none, .mv (.t 3)⟩, none), (⟨some 15, none, .mv (.t 0)⟩, none), (⟨some 16, none, .mv (.t 3)⟩, none), (⟨some 17, none, .ia 1 (.t 15) (.t 16)⟩, none), (⟨some 18, none, .ld 1 false (.t 17)⟩, none), (⟨some 19, none, .mv (.t 0)⟩, none), (⟨some 20, none, .mv (.t 1)⟩, none), (⟨some 21, none, .ia 1 (.t 19) (.t 20)⟩, none), (⟨some 22, none, .ld 1 false (.t 21)⟩, none), (⟨some 23, none, .ia 1 (.t 11) (.t 12)⟩, none), (⟨none, none, .st 1 (.t 23) (.t 18)⟩, some []), (⟨some 24, none, .ia 1 (.t 13) (.t 14)⟩, none), (⟨none, none, .st 1 (.t 24) (.t 22)⟩, some [])]) (.seq (.rg [⟨some 25, none, .mv (.t 1)⟩, ⟨some 26, none, .bin .add .leaf (.t 25) (.k (.int .i64 1))⟩, ⟨some 27, none, .mv (.t 2)⟩, ⟨some 28, none, .bin .sub .leaf (.t 27) (.k (.int .i64 1))⟩, ⟨some 9, none, .mv (.t 26)⟩, ⟨some 10, none, .mv (.t 28)⟩]) (.seq (.block 0 (.loop (.block 1 (.seq (.block 2 (.loop (.seq (.seq (.rd [(⟨some 29, none, .mv (.t 9)⟩, none), (⟨some 30, none, .mv (.t 10)⟩, none), (⟨some 31, none, .bin .leq .leaf (.t 29) (.t 30)⟩, none), (⟨some 32, none, .mv (.t 31)⟩, none), (⟨some 33, some (32, true), .mv (.t 0)⟩, none), (⟨some 34, some (32, true), .mv (.t 1)⟩, none), (⟨some 35, some (32, true), .ia 1 (.t 33) (.t 34)⟩, none), (⟨some 36, some (32, true), .ld 1 false (.t 35)⟩, none), (⟨some 37, some (32, true), .mv (.t 0)⟩, none), (⟨some 38, some (32, true), .mv (.t 9)⟩, none), (⟨some 39, some (32, true), .ia 1 (.t 37) (.t 38)⟩, none), (⟨some 40, some (32, true), .ld 1 false (.t 39)⟩, none), (⟨some 41, some (32, true), .call 67 [.t 36, .t 40]⟩, some []), (⟨some 42, some (32, true), .un .not (.t 41)⟩, none), (⟨some 43, none, .pick (.t 32) (.t 42) (.k (.bool false))⟩, none)]) (.cond (.t 43) .skip (.exit 2))) (.block 3 (.rg [⟨some 44, none, .mv (.t 9)⟩, ⟨some 45, none, .bin .add .leaf (.t 44) (.k (.int .i64 1))⟩, ⟨some 9, none, .mv (.t 45)⟩]))))) (.seq (.block 4 (.loop (.seq (.seq (.rd [(⟨some 46, none, .mv (.t 9)⟩, none), (⟨some 47, none, .mv (.t 10)⟩, none), (⟨some 48, none, .bin .leq .leaf (.t 46) (.t 47)⟩, none), (⟨some 49, none, .mv (.t 48)⟩, none), (⟨some 50, some (49, true), .mv (.t 0)⟩, none), (⟨some 51, some (49, true), .mv (.t 1)⟩, none), (⟨some 52, some (49, true), .ia 1 (.t 50) (.t 51)⟩, none), (⟨some 53, some (49, true), .ld 1 false (.t 52)⟩, none), (⟨some 54, some (49, true), .mv (.t 0)⟩, none), (⟨some 55, some (49, true), .mv (.t 10)⟩, none), (⟨some 56, some (49, true), .ia 1 (.t 54) (.t 55)⟩, none), (⟨some 57, some (49, true), .ld 1 false (.t 56)⟩, none), (⟨some 58, some (49, true), .call 67 [.t 53, .t 57]⟩, some []), (⟨some 59, none, .pick (.t 49) (.t 58) (.k (.bool false))⟩, none)]) (.cond (.t 59) .skip (.exit 4))) (.block 5 (.rg [⟨some 60, none, .mv (.t 10)⟩, ⟨some 61, none, .bin .sub .leaf (.t 60) (.k (.int .i64 1))⟩, ⟨some 10, none, .mv (.t 61)⟩]))))) (.seq (.seq (.rg [⟨some 62, none, .mv (.t 9)⟩, ⟨some 63, none, .mv (.t 10)⟩, ⟨some 64, none, .bin .gtr .leaf (.t 62) (.t 63)⟩]) (.cond (.t 64) (.exit 0) .skip)) (.seq (.rd [(⟨some 65, none, .mv (.t 0)⟩, none), (⟨some 66, none, .mv (.t 9)⟩, none), (⟨some 67, none, .mv (.t 0)⟩, none), (⟨some 68, none, .mv (.t 10)⟩, none), (⟨some 69, none, .mv (.t 0)⟩, none), (⟨some 70, none, .mv (.t 10)⟩, none), (⟨some 71, none, .ia 1 (.t 69) (.t 70)⟩, none), (⟨some 72, none, .ld 1 false (.t 71)⟩, none), (⟨some 73, none, .mv (.t 0)⟩, none), (⟨some 74, none, .mv (.t 9)⟩, none), (⟨some 75, none, .ia 1 (.t 73) (.t 74)⟩, none), (⟨some 76, none, .ld 1 false (.t 75)⟩, none), (⟨some 77, none, .ia 1 (.t 65) (.t 66)⟩, none), (⟨none, none, .st 1 (.t 77) (.t 72)⟩, some []), (⟨some 78, none, .ia 1 (.t 67) (.t 68)⟩, none), (⟨none, none, .st 1 (.t 78) (.t 76)⟩, some [])]) (.seq (.rg [⟨some 79, none, .mv (.t 9)⟩, ⟨some 80, none, .bin .add .leaf (.t 79) (.k (.int .i64 1))⟩, ⟨some 9, none, .mv (.t 80)⟩]) (.rg [⟨some 81, none, .mv (.t 10)⟩, ⟨some 82, none, .bin .sub .leaf (.t 81) (.k (.int .i64 1))⟩, ⟨some 10, none, .mv (.t 82)⟩]))))))))) (.seq (.rg [⟨some 83, none, .mv (.t 9)⟩, ⟨some 8, none, .mv (.t 83)⟩]) .ret))))⟩ := by kernel_rfl
theorem c69 : cFun E0.P 69 = some ⟨168, [(8, none), (9, none)], .seq (.rg [⟨some 8, none, .mv (.k (.int .i64 0))⟩, ⟨some 9, none, .mv (.k (.bool false))⟩]) (.seq (.rd [(⟨some 12, none, .mv (.t 0)⟩, none), (⟨some 13, none, .mv (.t 1)⟩, none), (⟨some 14, none, .mv (.t 0)⟩, none), (⟨some 15, none, .mv (.t 3)⟩, none), (⟨some 16, none, .mv (.t 0)⟩, none), (⟨some 17, none, .mv (.t 3)⟩, none), (⟨some 18, none, .ia 1 (.t 16) (.t 17)⟩, none), (⟨some 19, none, .ld 1 false (.t 18)⟩, none), (⟨some 20, none, .mv (.t 0)⟩, none), (⟨some 21, none, .mv (.t 1)⟩, none), (⟨some 22, none, .ia 1 (.t 20) (.t 21)⟩, none), (⟨some 23, none, .ld 1 false (.t 22)⟩, none), (⟨some 24, none, .ia 1 (.t 12) (.t 13)⟩, none), (⟨none, none, .st 1 (.t 24) (.t 19)⟩, some []), (⟨some 25, none, .ia 1 (.t 14) (.t 15)⟩, none), (⟨none, none, .st 1 (.t 25) (.t 23)⟩, some [])]) (.seq (.rg [⟨some 26, none, .mv (.t 1)⟩, ⟨some 27, none, .bin .add .leaf (.t 26) (.k (.int .i64 1))⟩, ⟨some 28, none, .mv (.t 2)⟩, ⟨some 29, none, .bin .sub .leaf (.t 28) (.k (.int .i64 1))⟩, ⟨some 10, none, .mv (.t 27)⟩, ⟨some 11, none, .mv (.t 29)⟩]) (.seq (.block 0 (.loop (.seq (.seq (.rd [(⟨some 30, none, .mv (.t 10)⟩, none), (⟨some 31, none, .mv (.t 11)⟩, none), (⟨some 32, none, .bin .leq .leaf (.t 30) (.t 31)⟩, none), (⟨some 33, none, .mv (.t 32)⟩, none), (⟨some 34, some (33, true), .mv (.t 0)⟩, none), (⟨some 35, some (33, true), .mv (.t 10)⟩, none), (⟨some 36, some (33, true), .ia 1 (.t 34) (.t 35)⟩, none), (⟨some 37, some (33, true), .ld 1 false (.t 36)⟩, none), (⟨some 38, some (33, true), .mv (.t 0)⟩, none), (⟨some 39, some (33, true), .mv (.t 1)⟩, none), (⟨some 40, some (33, true), .ia 1 (.t 38) (.t 39)⟩, none), (⟨some 41, some (33, true), .ld 1 false (.t 40)⟩, none), (⟨some 42, some (33, true), .call 67 [.t 37, .t 41]⟩, some []), (⟨some 43, none, .pick (.t 33) (.t 42) (.k (.bool false))⟩, none)]) (.cond (.t 43) .skip (.exit 0))) (.block 1 (.rg [⟨some 44, none, .mv (.t 10)⟩, ⟨some 45, none, .bin .add .leaf (.t 44) (.k (.int .i64 1))⟩, ⟨some 10, none, .mv (.t 45)⟩]))))) (.seq (.block 2 (.loop (.seq (.seq (.rd [(⟨some 46, none, .mv (.t 10)⟩, none), (⟨some 47, none, .mv (.t 11)⟩, none), (⟨some 48, none, .bin .leq .leaf (.t 46) (.t 47)⟩, none), (⟨some 49, none, .mv (.t 48)⟩, none), (⟨some 50, some (49, true), .mv (.t 0)⟩, none), (⟨some 51, some (49, true), .mv (.t 11)⟩, none), (⟨some 52, some (49, true), .ia 1 (.t 50) (.t 51)⟩, none), (⟨some 53, some (49, true), .ld 1 false (.t 52)⟩, none), (⟨some 54, some (49, true), .mv (.t 0)⟩, none), (⟨some 55, some (49, true), .mv (.t 1)⟩, none), (⟨some 56, some (49, true), .ia 1 (.t 54) (.t 55)⟩, none), (⟨some 57, some (49, true), .ld 1 false (.t 56)⟩, none), (⟨some 58, some (49, true), .call 67 [.t 53, .t 57]⟩, some []), (⟨some 59, some (49, true), .un .not (.t 58)⟩, none), (⟨some 60, none, .pick (.t 49) (.t 59) (.k (.bool false))⟩, none)]) (.cond (.t 60) .skip (.exit 2))) (.block 3 (.rg [⟨some 61, none, .mv (.t 11)⟩, ⟨some 62, none, .bin .sub .leaf (.t 61) (.k (.int .i64 1))⟩, ⟨some 11, none, .mv (.t 62)⟩]))))) (.seq (.seq (.rg [⟨some 63, none, .mv (.t 10)⟩, ⟨some 64, none, .mv (.t 11)⟩, ⟨some 65, none, .bin .gtr .leaf (.t 63) (.t 64)⟩]) (.cond (.t 65) (.seq (.rd [(⟨some 66, none, .mv (.t 0)⟩, none), (⟨some 67, none, .mv (.t 11)⟩, none), (⟨some 68, none, .mv (.t 0)⟩, none), (⟨some 69, none, .mv (.t 1)⟩, none), (⟨some 70, none, .mv (.t 0)⟩, none), (⟨some 71, none, .mv (.t 1)⟩, none), (⟨some 72, none, .ia 1 (.t 70) (.t 71)⟩, none), (⟨some 73, none, .ld 1 false (.t 72)⟩, none), (⟨some 74, none, .mv (.t 0)⟩, none), (⟨some 75, none, .mv (.t 11)⟩, none), (⟨some 76, none, .ia 1 (.t 74) (.t 75)⟩, none), (⟨some 77, none, .ld 1 false (.t 76)⟩, none), (⟨some 78, none, .ia 1 (.t 66) (.t 67)⟩, none), (⟨none, none, .st 1 (.t 78) (.t 73)⟩, some []), (⟨some 79, none, .ia 1 (.t 68) (.t 69)⟩, none), (⟨none, none, .st 1 (.t 79) (.t 77)⟩, some [])]) (.seq (.rg [⟨some 80, none, .mv (.t 11)⟩, ⟨some 8, none, .mv (.t 80)⟩, ⟨some 9, none, .mv (.k (.bool true))⟩]) .ret)) .skip)) (.seq (.rd [(⟨some 81, none, .mv (.t 0)⟩, none), (⟨some 82, none, .mv (.t 10)⟩, none), (⟨some 83, none, .mv (.t 0)⟩, none), (⟨some 84, none, .mv (.t 11)⟩, none), (⟨some 85, none, .mv (.t 0)⟩, none), (⟨some 86, none, .mv (.t 11)⟩, none), (⟨some 87, none, .ia 1 (.t 85) (.t 86)⟩, none), (⟨some 88, none, .ld 1 false (.t 87)⟩, none), (⟨some 89, none, .mv (.t 0)⟩, none), (⟨some 90, none, .mv (.t 10)⟩, none), (⟨some 91, none, .ia 1 (.t 89) (.t 90)⟩, none), (⟨some 92, none, .ld 1 false (.t 91)⟩, none), (⟨some 93, none, .ia 1 (.t 81) (.t 82)⟩, none), (⟨none, none, .st 1 (.t 93) (.t 88)⟩, some []), (⟨some 94, none, .ia 1 (.t 83) (.t 84)⟩, none), (⟨none, none, .st 1 (.t 94) (.t 92)⟩, some [])]) (.seq (.rg [⟨some 95, none, .mv (.t 10)⟩, ⟨some 96, none, .bin .add .leaf (.t 95) (.k (.int .i64 1))⟩, ⟨some 10, none, .mv (.t 96)⟩]) (.seq (.rg [⟨some 97, none, .mv (.t 11)⟩, ⟨some 98, none, .bin .sub .leaf (.t 97) (.k (.int .i64 1))⟩, ⟨some 11, none, .mv (.t 98)⟩]) (.seq (.block 4 (.loop (.block 5 (.seq (.block 6 (.loop (.seq (.seq (.rd [(⟨some 99, none, .mv (.t 10)⟩, none), (⟨some 100, none, .mv (.t 11)⟩, none), (⟨some 101, none, .bin .leq .leaf (.t 99) (.t 100)⟩, none), (⟨some 102, none, .mv (.t 101)⟩, none), (⟨some 103, some (102, true), .mv (.t 0)⟩, none), (⟨some 104, some (102, true), .mv (.t 10)⟩, none), (⟨some 105, some (102, true), .ia 1 (.t 103) (.t 104)⟩, none), (⟨some 106, some (102, true), .ld 1 false (.t 105)⟩, none), (⟨some 107, some (102, true), .mv (.t 0)⟩, none), (⟨some 108, some (102, true), .mv (.t 1)⟩, none), (⟨some 109, some (102, true), .ia 1 (.t 107) (.t 108)⟩, none), (⟨some 110, some (102, true), .ld 1 false (.t 109)⟩, none), (⟨some 111, some (102, true), .call 67 [.t 106, .t 110]⟩, some []), (⟨some 112, none, .pick (.t 102) (.t 111) (.k (.bool false))⟩, none)]) (.cond (.t 112) .skip (.exit 6))) (.block 7 (.rg [⟨some 113, none, .mv (.t 10)⟩, ⟨some 114, none, .bin .add .leaf (.t 113) (.k (.int .i64 1))⟩, ⟨some 10, none, .mv (.t 114)⟩]))))) (.seq (.block 8 (.loop (.seq (.seq (.rd [(⟨some 115, none, .mv (.t 10)⟩, none), (⟨some 116, none, .mv (.t 11)⟩, none), (⟨some 117, none, .bin .leq .leaf (.t 115) (.t 116)⟩, none), (⟨some 118, none, .mv (.t 117)⟩, none), (⟨some 119, some (118, true), .mv (.t 0)⟩, none), (⟨some 120, some (118, true), .mv (.t 11)⟩, none), (⟨some 121, some (118, true), .ia 1 (.t 119) (.t 120)⟩, none), (⟨some 122, some (118, true), .ld 1 false (.t 121)⟩, none), (⟨some 123, some (118, true), .mv (.t 0)⟩, none), (⟨some 124, some (118, true), .mv (.t 1)⟩, none), (⟨some 125, some (118, true), .ia 1 (.t 123) (.t 124)⟩, none), (⟨some 126, some (118, true), .ld 1 false (.t 125)⟩, none), (⟨some 127, some (118, true), .call 67 [.t 122, .t 126]⟩, some []), (⟨some 128, some (118, true), .un .not (.t 127)⟩, none), (⟨some 129, none, .pick (.t 118) (.t 128) (.k (.bool false))⟩, none)]) (.cond (.t 129) .skip (.exit 8))) (.block 9 (.rg [⟨some 130, none, .mv (.t 11)⟩, ⟨some 131, none, .bin .sub .leaf (.t 130) (.k (.int .i64 1))⟩, ⟨some 11, none, .mv (.t 131)⟩]))))) (.seq (.seq (.rg [⟨some 132, none, .mv (.t 10)⟩, ⟨some 133, none, .mv (.t 11)⟩, ⟨some 134, none, .bin .gtr .leaf (.t 132) (.t 133)⟩]) (.cond (.t 134) (.exit 4) .skip)) (.seq (.rd [(⟨some 135, none, .mv (.t 0)⟩, none), (⟨some 136, none, .mv (.t 10)⟩, none), (⟨some 137, none, .mv (.t 0)⟩, none), (⟨some 138, none, .mv (.t 11)⟩, none), (⟨some 139, none, .mv (.t 0)⟩, none), (⟨some 140, none, .mv (.t 11)⟩, none), (⟨some 141, none, .ia 1 (.t 139) (.t 140)⟩, none), (⟨some 142, none, .ld 1 false (.t 141)⟩, none), (⟨some 143, none, .mv (.t 0)⟩, none), (⟨some 144, none, .mv (.t 10)⟩, none), (⟨some 145, none, .ia 1 (.t 143) (.t 144)⟩, none), (⟨some 146, none, .ld 1 false (.t 145)⟩, none), (⟨some 147, none, .ia 1 (.t 135) (.t 136)⟩, none), (⟨none, none, .st 1 (.t 147) (.t 142)⟩, some []), (⟨some 148, none, .ia 1 (.t 137) (.t 138)⟩, none), (⟨none, none, .st 1 (.t 148) (.t 146)⟩, some [])]) (.seq (.rg [⟨some 149, none, .mv (.t 10)⟩, ⟨some 150, none, .bin .add .leaf (.t 149) (.k (.int .i64 1))⟩, ⟨some 10, none, .mv (.t 150)⟩]) (.rg [⟨some 151, none, .mv (.t 11)⟩, ⟨some 152, none, .bin .sub .leaf (.t 151) (.k (.int .i64 1))⟩, ⟨some 11, none, .mv (.t 152)⟩]))))))))) (.seq (.rd [(⟨some 153, none, .mv (.t 0)⟩, none), (⟨some 154, none, .mv (.t 11)⟩, none), (⟨some 155, none, .mv (.t 0)⟩, none), (⟨some 156, none, .mv (.t 1)⟩, none), (⟨some 157, none, .mv (.t 0)⟩, none), (⟨some 158, none, .mv (.t 1)⟩, none), (⟨some 159, none, .ia 1 (.t 157) (.t 158)⟩, none), (⟨some 160, none, .ld 1 false (.t 159)⟩, none), (⟨some 161, none, .mv (.t 0)⟩, none), (⟨some 162, none, .mv (.t 11)⟩, none), (⟨some 163, none, .ia 1 (.t 161) (.t 162)⟩, none), (⟨some 164, none, .ld 1 false (.t 163)⟩, none), (⟨some 165, none, .ia 1 (.t 153) (.t 154)⟩, none), (⟨none, none, .st 1 (.t 165) (.t 160)⟩, some []), (⟨some 166, none, .ia 1 (.t 155) (.t 156)⟩, none), (⟨none, none, .st 1 (.t 166) (.t 164)⟩, some [])]) (.seq (.rg [⟨some 167, none, .mv (.t 11)⟩, ⟨some 8, none, .mv (.t 167)⟩, ⟨some 9, none, .mv (.k (.bool false))⟩]) .ret)))))))))))⟩ := by kernel_rfl

def Reads (f : FuncId) (id n : Nat) (ds : List D) (d : Array Int) (r : D) : Prop := Turns f id n ds d r d

set_option maxHeartbeats 1000000 in
theorem choosePivot (id n : Nat) (d : Array Int) (a b : Nat) (hd : d.size = n) (hab : a < b) (hb : b ≤ n) (hn : n < 4611686018427387904) :
    Turns 64 id n [.int .i64 a, .int .i64 b] d (.tup [.int .i64 (choosePivot ltInt d a b).1, .int .i64 (hintCode (choosePivot ltInt d a b).2)]) d := by
  intro S0 tk hid
  have m1 := medianAdjacent_mem ltInt d (a + (b - a) / 4 * 1) 0
  have k1 := medianAdjacent_count (lt := ltInt) d (a + (b - a) / 4 * 1) 0
  generalize e1 : Sort.medianAdjacent ltInt d (a + (b - a) / 4 * 1) 0 = r1 at m1 k1
  have m2 := medianAdjacent_mem ltInt d (a + (b - a) / 4 * 2) r1.2
  have k2 := medianAdjacent_count (lt := ltInt) d (a + (b - a) / 4 * 2) r1.2
  generalize e2 : Sort.medianAdjacent ltInt d (a + (b - a) / 4 * 2) r1.2 = r2 at m2 k2
  have m3 := medianAdjacent_mem ltInt d (a + (b - a) / 4 * 3) r2.2
  have k3 := medianAdjacent_count (lt := ltInt) d (a + (b - a) / 4 * 3) r2.2
  generalize e3 : Sort.medianAdjacent ltInt d (a + (b - a) / 4 * 3) r2.2 = r3 at m3 k3
  have c1 : ∀ p, 8 ≤ b - a → Counts 76 id p n [.int .i64 (a + (b - a) / 4 * 1 : Nat), .po p 0] d 0 (.int .i64 r1.1) r1.2 := fun p h => by
    have := medianAdjacent id p n d (a + (b - a) / 4 * 1) 0 hd (by omega) (by omega) hn (by omega)
    rwa [e1] at this
  have c2 : ∀ p, 8 ≤ b - a → Counts 76 id p n [.int .i64 (a + (b - a) / 4 * 2 : Nat), .po p 0] d r1.2 (.int .i64 r2.1) r2.2 := fun p h => by
    have := medianAdjacent id p n d (a + (b - a) / 4 * 2) r1.2 hd (by omega) (by omega) hn (by omega)
    rwa [e2] at this
  have c3 : ∀ p, 8 ≤ b - a → Counts 76 id p n [.int .i64 (a + (b - a) / 4 * 3 : Nat), .po p 0] d r2.2 (.int .i64 r3.1) r3.2 := fun p h => by
    have := medianAdjacent id p n d (a + (b - a) / 4 * 3) r2.2 hd (by omega) (by omega) hn (by omega)
    rwa [e3] at this
  have c4 : ∀ p, 8 ≤ b - a → Counts 77 id p n [.int .i64 r1.1, .int .i64 r2.1, .int .i64 r3.1, .po p 0] d r3.2 (.int .i64 (Sort.median ltInt d r1.1 r2.1 r3.1 r3.2).1) (Sort.median ltInt d r1.1 r2.1 r3.1 r3.2).2 := fun p h =>
    median id p n d r1.1 r2.1 r3.1 r3.2 hd (by omega) (by omega) (by omega) hn (by omega)
  have c5 : ∀ p, 8 ≤ b - a → Counts 77 id p n [.int .i64 (a + (b - a) / 4 * 1 : Nat), .int .i64 (a + (b - a) / 4 * 2 : Nat), .int .i64 (a + (b - a) / 4 * 3 : Nat), .po p 0] d 0 _ _ := fun p h =>
    median id p n d (a + (b - a) / 4 * 1) (a + (b - a) / 4 * 2) (a + (b - a) / 4 * 3) 0 hd (by omega) (by omega) (by omega) hn (by omega)
  have hraw : rawPivot ltInt d a b = if b - a ≥ 8 then (if b - a ≥ 50 then Sort.median ltInt d r1.1 r2.1 r3.1 r3.2 else Sort.median ltInt d (a + (b - a) / 4 * 1) (a + (b - a) / 4 * 2) (a + (b - a) / 4 * 3) 0) else (a + (b - a) / 4 * 2, 0) := by
    unfold rawPivot
    rw [e1, e2, e3]
  rw [choosePivot_eq]
  refine ACalls.fgo c64 rfl fun hS => ?_
  repeat' first | with_reducible refine fzD_ite (fun q => ?_) (fun q => ?_) | ((try conv => whnf); first | refine bs_d (fun q => ?_) (fun q => ?_) <;> (try simp (disch := ((try unfold I64); omega)) only [wi64_id, td] at q) | refine bs_n ?_ | refine bs_i (fun q => ?_) (fun q => ?_) | refine ckSwN (k := 0) hid (List.length_set ..).symm rfl (c1 _ (by omega)) (.cons (Sub.refl _) (.cons (Sub.int (by first | rfl | omega | (refine Int.sub_eq_zero.mp ?_; simp (disch := ((try unfold I64); omega)) only [wi64_id, td]; omega))) (.cons (Sub.refl _) .nil))) ?_ | refine ckSwN hid (List.length_set ..).symm rfl (c2 _ (by omega)) (.cons (Sub.refl _) (.cons (Sub.int (by first | rfl | omega | (refine Int.sub_eq_zero.mp ?_; simp (disch := ((try unfold I64); omega)) only [wi64_id, td]; omega))) (.cons (Sub.refl _) .nil))) ?_ | refine ckSwN hid (List.length_set ..).symm rfl (c3 _ (by omega)) (.cons (Sub.refl _) (.cons (Sub.int (by first | rfl | omega | (refine Int.sub_eq_zero.mp ?_; simp (disch := ((try unfold I64); omega)) only [wi64_id, td]; omega))) (.cons (Sub.refl _) .nil))) ?_ | refine ckSwN hid (List.length_set ..).symm rfl (c4 _ (by omega)) (SubL.refl _) ?_ | refine ckSwN (k := 0) hid (List.length_set ..).symm rfl (c5 _ (by omega)) (.cons (Sub.refl _) (.cons (Sub.int (by first | rfl | omega | (refine Int.sub_eq_zero.mp ?_; simp (disch := ((try unfold I64); omega)) only [wi64_id, td]; omega))) (.cons (Sub.int (by first | rfl | omega | (refine Int.sub_eq_zero.mp ?_; simp (disch := ((try unfold I64); omega)) only [wi64_id, td]; omega))) (.cons (Sub.int (by first | rfl | omega | (refine Int.sub_eq_zero.mp ?_; simp (disch := ((try unfold I64); omega)) only [wi64_id, td]; omega))) (.cons (Sub.refl _) .nil))))) ?_ | refine ffin _ (by simp) rfl hS (Sub.refl _) rfl ⟨?_, rfl, rfl⟩ | refine eqk rfl ?_ | refine ffin _ rfl rfl hS (Sub.refl _) rfl ⟨?_, rfl, rfl⟩)
  all_goals rw [hraw]
  all_goals first
    | rw [if_pos (by omega), if_pos (by omega)]
    | rw [if_pos (by omega), if_neg (by omega)]
    | rw [if_neg (by omega)]
  all_goals simp only [tupD, hintOf]
  all_goals first
    | (rw [if_pos (by omega)]; first | rfl | (simp only [D.tup.injEq, List.cons.injEq, D.int.injEq, true_and, and_true]; exact ⟨(by first | rfl | omega | (refine Int.sub_eq_zero.mp ?_; simp (disch := ((try unfold I64); omega)) only [wi64_id, td]; omega)), rfl⟩))
    | (rw [if_neg (by omega), if_pos (by omega)]; rfl)
    | (rw [if_neg (by omega), if_neg (by omega)]; rfl)
    | (simp only [D.tup.injEq, List.cons.injEq, D.int.injEq, true_and, and_true, ↓reduceIte]; exact ⟨(by first | rfl | omega | (refine Int.sub_eq_zero.mp ?_; simp (disch := ((try unfold I64); omega)) only [wi64_id, td]; omega)), rfl⟩)

theorem partitionEqual (id n : Nat) (d : Array Int) (a b p : Nat) (hd : d.size = n) (hap : a ≤ p) (hpb : p < b) (hb : b ≤ n) (hn : n < 4611686018427387904) :
    Turns 68 id n [.int .i64 a, .int .i64 b, .int .i64 p] d (.int .i64 (partitionEqual ltInt d a b p).1) (partitionEqual ltInt d a b p).2 := by
  intro S0 tk hid
  refine ACalls.fgo c68 rfl fun hS => ?_
  repeat' first | with_reducible refine fzD_ite (fun q => ?_) (fun q => ?_) | ((try conv => whnf); first | refine bs_d (fun q => ?_) (fun q => ?_) <;> (try simp (disch := ((try unfold I64); omega)) only [wi64_id, td] at q) | refine bs_n ?_ | refine bs_i (fun q => ?_) (fun q => ?_) | refine pK_i (iaD_vecN (k := p) (by first | rfl | omega | (refine Int.sub_eq_zero.mp ?_; simp (disch := ((try unfold I64); omega)) only [wi64_id, td]; omega)) (by omega)) ?_ | refine pK_i (iaD_vecN (k := a) (by first | rfl | omega | (refine Int.sub_eq_zero.mp ?_; simp (disch := ((try unfold I64); omega)) only [wi64_id, td]; omega)) (by omega)) ?_ | refine pK_i (ldV_VO kE hid hd (by omega)) ?_ | refine gk_stVO kE hid (List.length_set ..).symm rfl rfl (by simpa using hd) (by omega) rfl ?_ | refine eqk rfl ?_ | refine ffin _ rfl rfl hS (Sub.refl _) rfl ⟨?_, rfl, rfl⟩)
  refine floopS (α := SJ) rfl (fun s => s.d.size = n ∧ a < s.i ∧ s.i ≤ s.j + 1 ∧ s.j < b ∧ partEqLoop ltInt a s.i s.j s.d = Sort.partitionEqual ltInt d a b p) (fun s => s.j + 1 - s.i) (fun s => [(9, .d (.int .i64 s.i)), (10, .d (.int .i64 s.j)), (0, .d (vec id n)), (1, .d (.int .i64 a))])
    (fun s => S0.set id (VI s.d)) (fun _ => []) (fun _ => []) (fun s _ => ⟨by simp, osc_VO' kE _ hS⟩) ⟨swp d a p, a + 1, b - 1⟩ ⟨by rw [size_swp']; exact hd, by simp, by simp only; omega, by simp only; omega, rfl⟩ rfl (fstep_sub ⟨Sub.int (by first | rfl | omega | (refine Int.sub_eq_zero.mp ?_; simp (disch := ((try unfold I64); omega)) only [wi64_id, td]; omega)), Sub.int (by first | rfl | omega | (refine Int.sub_eq_zero.mp ?_; simp (disch := ((try unfold I64); omega)) only [wi64_id, td]; omega)), Sub.refl _, Sub.refl _, trivial⟩) ?_
  rintro s ⟨h1, h2, h3, h4, h5⟩
  refine floopS (α := SI) rfl (fun t => t.d = s.d ∧ s.i ≤ t.i ∧ t.i ≤ s.j + 1 ∧ scanUp (fun x => !ltInt s.d[a]! x) s.d s.j t.i = scanUp (fun x => !ltInt s.d[a]! x) s.d s.j s.i) (fun t => s.j + 1 - t.i) (fun t => [(9, .d (.int .i64 t.i)), (10, .d (.int .i64 s.j)), (0, .d (vec id n)), (1, .d (.int .i64 a))])
    (fun _ => S0.set id (VI s.d)) (fun _ => []) (fun _ => []) (fun _ _ => ⟨by simp, osc_VO' kE _ hS⟩) ⟨s.d, s.i⟩ ⟨rfl, Nat.le_refl _, h3, rfl⟩ rfl (fstep_sub ⟨Sub.refl _, Sub.refl _, Sub.refl _, Sub.refl _, trivial⟩) ?_
  rintro t ⟨-, k2, k3, k4⟩
  repeat' first | with_reducible refine fzD_ite (fun q => ?_) (fun q => ?_) | ((try conv => whnf); first | refine bs_d (fun q => ?_) (fun q => ?_) <;> (try simp (disch := ((try unfold I64); omega)) only [wi64_id, td] at q) | refine bs_n ?_ | refine bs_i (fun q => ?_) (fun q => ?_) | refine ckz (less _ _) ?_ | refine cq (less _ _) ?_ | refine pK_i (iaD_vecN (k := a) (by first | rfl | omega | (refine Int.sub_eq_zero.mp ?_; simp (disch := ((try unfold I64); omega)) only [wi64_id, td]; omega)) (by omega)) ?_ | refine pK_i (iaD_vecN (k := t.i) (by first | rfl | omega | (refine Int.sub_eq_zero.mp ?_; simp (disch := ((try unfold I64); omega)) only [wi64_id, td]; omega)) (by omega)) ?_ | refine pK_i (ldV_VO kE hid h1 (by omega)) ?_ | refine eqk rfl ?_ | refine ffin _ rfl rfl hS (Sub.refl _) rfl ⟨?_, rfl, rfl⟩)
  case' refine_1.refine_2 =>
    refine fnextS (α := SI) ⟨s.d, t.i + 1⟩ ⟨rfl, by simp only; omega, by simp only; omega, ?_⟩ (by simp only; omega) rfl (fstep_sub ⟨Sub.int (by first | rfl | omega | (refine Int.sub_eq_zero.mp ?_; simp (disch := ((try unfold I64); omega)) only [wi64_id, td]; omega)), Sub.refl _, Sub.refl _, Sub.refl _, trivial⟩)
    rw [← k4, scanUp_step (i := t.i) (by omega) (by simp [ltf q])]
  case' refine_1.refine_1 =>
    have fs : t.i ≤ s.j → ltInt s.d[a]! s.d[t.i]! = true := fun _ => ltt (by assumption)
  case' refine_2 =>
    have fs : t.i ≤ s.j → ltInt s.d[a]! s.d[t.i]! = true := fun _ => by omega
  all_goals
    have hs : scanUp (fun x => !ltInt s.d[a]! x) s.d s.j t.i = t.i := scanUp_stop fun h => by simp [fs h]
    rw [hs] at k4
    refine floopS (α := SI) rfl (fun u => u.d = s.d ∧ u.i ≤ s.j ∧ t.i ≤ u.i + 1 ∧ scanDown (fun x => ltInt s.d[a]! x) s.d t.i u.i = scanDown (fun x => ltInt s.d[a]! x) s.d t.i s.j) (fun u => u.i) (fun u => [(9, .d (.int .i64 t.i)), (10, .d (.int .i64 u.i)), (0, .d (vec id n)), (1, .d (.int .i64 a))])
      (fun _ => S0.set id (VI s.d)) (fun _ => []) (fun _ => []) (fun _ _ => ⟨by simp, osc_VO' kE _ hS⟩) ⟨s.d, s.j⟩ ⟨rfl, Nat.le_refl _, k3, rfl⟩ rfl (fstep_sub ⟨Sub.refl _, Sub.refl _, Sub.refl _, Sub.refl _, trivial⟩) ?_
    rintro u ⟨-, l2, l3, l4⟩
    repeat' first | with_reducible refine fzD_ite (fun q => ?_) (fun q => ?_) | ((try conv => whnf); first | refine bs_d (fun q => ?_) (fun q => ?_) <;> (try simp (disch := ((try unfold I64); omega)) only [wi64_id, td] at q) | refine bs_n ?_ | refine bs_i (fun q => ?_) (fun q => ?_) | refine ckz (less _ _) ?_ | refine cq (less _ _) ?_ | refine pK_i (iaD_vecN (k := a) (by first | rfl | omega | (refine Int.sub_eq_zero.mp ?_; simp (disch := ((try unfold I64); omega)) only [wi64_id, td]; omega)) (by omega)) ?_ | refine pK_i (iaD_vecN (k := u.i) (by first | rfl | omega | (refine Int.sub_eq_zero.mp ?_; simp (disch := ((try unfold I64); omega)) only [wi64_id, td]; omega)) (by omega)) ?_ | refine pK_i (ldV_VO kE hid h1 (by omega)) ?_ | refine eqk rfl ?_ | refine ffin _ rfl rfl hS (Sub.refl _) rfl ⟨?_, rfl, rfl⟩)
    · first
        | (exfalso; omega)
        | (refine fnextS (α := SI) ⟨s.d, u.i - 1⟩ ⟨rfl, by simp only; omega, by simp only; omega, ?_⟩ (by simp only; omega) rfl (fstep_sub ⟨Sub.refl _, Sub.int (by first | rfl | omega | (refine Int.sub_eq_zero.mp ?_; simp (disch := ((try unfold I64); omega)) only [wi64_id, td]; omega)), Sub.refl _, Sub.refl _, trivial⟩)
           rw [← l4, scanDown_step (j := u.i) (by omega) (by omega) (ltt q)])
    all_goals
      have fu : t.i ≤ u.i → ltInt s.d[a]! s.d[u.i]! = false := fun h => by first | (exfalso; omega) | exact ltf (by assumption)
      have hu : scanDown (fun x => ltInt s.d[a]! x) s.d t.i u.i = u.i := scanDown_stop fun h => by simp [fu h]
      have hne : t.i ≠ u.i := fun e => by
        have x1 := fs (by omega)
        rw [e, fu (by omega)] at x1
        cases x1
      rw [hu] at l4
      have heq := partEqLoop_eq ltInt a s.i s.j s.d
      rw [← k4, ← l4] at heq
      repeat' first | with_reducible refine fzD_ite (fun q => ?_) (fun q => ?_) | ((try conv => whnf); first | refine bs_d (fun q => ?_) (fun q => ?_) <;> (try simp (disch := ((try unfold I64); omega)) only [wi64_id, td] at q) | refine bs_n ?_ | refine bs_i (fun q => ?_) (fun q => ?_) | refine pK_i (iaD_vecN (k := t.i) (by first | rfl | omega | (refine Int.sub_eq_zero.mp ?_; simp (disch := ((try unfold I64); omega)) only [wi64_id, td]; omega)) (by omega)) ?_ | refine pK_i (iaD_vecN (k := u.i) (by first | rfl | omega | (refine Int.sub_eq_zero.mp ?_; simp (disch := ((try unfold I64); omega)) only [wi64_id, td]; omega)) (by omega)) ?_ | refine pK_i (ldV_VO kE hid h1 (by omega)) ?_ | refine gk_stVO kE hid (List.length_set ..).symm rfl rfl (by simpa using h1) (by omega) rfl ?_ | refine ffin _ (by simp) rfl (osc_VO' kE _ hS) (Sub.refl _) rfl ⟨?_, ?_, rfl⟩ | refine eqk rfl ?_ | refine ffin _ rfl rfl hS (Sub.refl _) rfl ⟨?_, rfl, rfl⟩)
      all_goals first
        | (exfalso; omega)
        | (rw [← h5, heq, if_pos (by omega)]; rfl)
        | rw [← h5, heq, if_pos (by omega)]
        | (refine fnextS (α := SJ) ⟨swp s.d t.i u.i, t.i + 1, u.i - 1⟩ ⟨by rw [size_swp']; exact h1, by simp only; omega, by simp only; omega, by simp only; omega, ?_⟩ (by simp only; omega) rfl (fstep_sub ⟨Sub.int (by first | rfl | omega | (refine Int.sub_eq_zero.mp ?_; simp (disch := ((try unfold I64); omega)) only [wi64_id, td]; omega)), Sub.int (by first | rfl | omega | (refine Int.sub_eq_zero.mp ?_; simp (disch := ((try unfold I64); omega)) only [wi64_id, td]; omega)), Sub.refl _, Sub.refl _, trivial⟩)
           rw [← h5, heq, if_neg (by omega)])
set_option maxHeartbeats 4000000 in
theorem partition (id n : Nat) (d : Array Int) (a b p : Nat) (hd : d.size = n) (hap : a ≤ p) (hpb : p < b) (hb : b ≤ n) (hn : n < 4611686018427387904) :
    Turns 69 id n [.int .i64 a, .int .i64 b, .int .i64 p] d (.tup [.int .i64 (partition ltInt d a b p).1, .bool (partition ltInt d a b p).2.1]) (partition ltInt d a b p).2.2 := by
  intro S0 tk hid
  have hs0 : (swp d a p).size = n := by rw [size_swp']; exact hd
  generalize hd0 : swp d a p = d0 at hs0
  refine ACalls.fgo c69 rfl fun hS => ?_
  repeat' first | with_reducible refine fzD_ite (fun q => ?_) (fun q => ?_) | ((try conv => whnf); first | refine bs_d (fun q => ?_) (fun q => ?_) <;> (try simp (disch := ((try unfold I64); omega)) only [wi64_id, td] at q) | refine bs_n ?_ | refine bs_i (fun q => ?_) (fun q => ?_) | refine pK_i (iaD_vecN (k := p) (by first | rfl | omega | (refine Int.sub_eq_zero.mp ?_; simp (disch := ((try unfold I64); omega)) only [wi64_id, td]; omega)) (by omega)) ?_ | refine pK_i (iaD_vecN (k := a) (by first | rfl | omega | (refine Int.sub_eq_zero.mp ?_; simp (disch := ((try unfold I64); omega)) only [wi64_id, td]; omega)) (by omega)) ?_ | refine pK_i (ldV_VO kE hid hd (by omega)) ?_ | refine gk_stVO kE hid (List.length_set ..).symm rfl rfl (by simpa using hd) (by omega) rfl ?_ | refine eqk rfl ?_ | refine ffin _ rfl rfl hS (Sub.refl _) rfl ⟨?_, rfl, rfl⟩)
  refine floopS (α := SI) rfl (fun t => t.d = d0 ∧ a < t.i ∧ t.i ≤ b ∧ scanUp (fun x => ltInt x d0[a]!) d0 (b - 1) t.i = scanUp (fun x => ltInt x d0[a]!) d0 (b - 1) (a + 1)) (fun t => b - t.i) (fun t => [(10, .d (.int .i64 t.i)), (11, .d (.int .i64 ((b - 1 : Nat) : Int))), (0, .d (vec id n)), (1, .d (.int .i64 a))])
    (fun _ => S0.set id (VI d0)) (fun _ => []) (fun _ => []) (fun _ _ => ⟨by simp, osc_VO' kE _ hS⟩) ⟨d0, a + 1⟩ ⟨rfl, by simp, by simp only; omega, rfl⟩ (by rw [← hd0]; rfl) (fstep_sub ⟨Sub.int (by first | rfl | omega | (refine Int.sub_eq_zero.mp ?_; simp (disch := ((try unfold I64); omega)) only [wi64_id, td]; omega)), Sub.int (by first | rfl | omega | (refine Int.sub_eq_zero.mp ?_; simp (disch := ((try unfold I64); omega)) only [wi64_id, td]; omega)), Sub.refl _, Sub.refl _, trivial⟩) ?_
  rintro t ⟨-, k2, k3, k4⟩
  repeat' first | with_reducible refine fzD_ite (fun q => ?_) (fun q => ?_) | ((try conv => whnf); first | refine bs_d (fun q => ?_) (fun q => ?_) <;> (try simp (disch := ((try unfold I64); omega)) only [wi64_id, td] at q) | refine bs_n ?_ | refine bs_i (fun q => ?_) (fun q => ?_) | refine ckz (less _ _) ?_ | refine cq (less _ _) ?_ | refine pK_i (iaD_vecN (k := a) (by first | rfl | omega | (refine Int.sub_eq_zero.mp ?_; simp (disch := ((try unfold I64); omega)) only [wi64_id, td]; omega)) (by omega)) ?_ | refine pK_i (iaD_vecN (k := t.i) (by first | rfl | omega | (refine Int.sub_eq_zero.mp ?_; simp (disch := ((try unfold I64); omega)) only [wi64_id, td]; omega)) (by omega)) ?_ | refine pK_i (ldV_VO kE hid hs0 (by omega)) ?_ | refine eqk rfl ?_ | refine ffin _ rfl rfl hS (Sub.refl _) rfl ⟨?_, rfl, rfl⟩)
  · refine fnextS (α := SI) ⟨d0, t.i + 1⟩ ⟨rfl, by simp only; omega, by simp only; omega, ?_⟩ (by simp only; omega) rfl (fstep_sub ⟨Sub.int (by first | rfl | omega | (refine Int.sub_eq_zero.mp ?_; simp (disch := ((try unfold I64); omega)) only [wi64_id, td]; omega)), Sub.refl _, Sub.refl _, Sub.refl _, trivial⟩)
    rw [← k4, scanUp_step (p := fun x => ltInt x d0[a]!) (i := t.i) (by omega) (ltt (by assumption))]
  all_goals
    have fs : t.i ≤ b - 1 → ltInt d0[t.i]! d0[a]! = false := fun h => by first | (exfalso; omega) | exact ltf (by assumption)
    have hs : scanUp (fun x => ltInt x d0[a]!) d0 (b - 1) t.i = t.i := scanUp_stop fs
    rw [hs] at k4
    refine floopS (α := SI) rfl (fun u => u.d = d0 ∧ u.i ≤ b - 1 ∧ t.i ≤ u.i + 1 ∧ scanDown (fun x => !ltInt x d0[a]!) d0 t.i u.i = scanDown (fun x => !ltInt x d0[a]!) d0 t.i (b - 1)) (fun u => u.i) (fun u => [(10, .d (.int .i64 t.i)), (11, .d (.int .i64 u.i)), (0, .d (vec id n)), (1, .d (.int .i64 a))])
      (fun _ => S0.set id (VI d0)) (fun _ => []) (fun _ => []) (fun _ _ => ⟨by simp, osc_VO' kE _ hS⟩) ⟨d0, b - 1⟩ ⟨rfl, Nat.le_refl _, by simp only; omega, rfl⟩ rfl (fstep_sub ⟨Sub.refl _, Sub.refl _, Sub.refl _, Sub.refl _, trivial⟩) ?_
    rintro u ⟨-, l2, l3, l4⟩
    repeat' first | with_reducible refine fzD_ite (fun q => ?_) (fun q => ?_) | ((try conv => whnf); first | refine bs_d (fun q => ?_) (fun q => ?_) <;> (try simp (disch := ((try unfold I64); omega)) only [wi64_id, td] at q) | refine bs_n ?_ | refine bs_i (fun q => ?_) (fun q => ?_) | refine ckz (less _ _) ?_ | refine cq (less _ _) ?_ | refine pK_i (iaD_vecN (k := a) (by first | rfl | omega | (refine Int.sub_eq_zero.mp ?_; simp (disch := ((try unfold I64); omega)) only [wi64_id, td]; omega)) (by omega)) ?_ | refine pK_i (iaD_vecN (k := u.i) (by first | rfl | omega | (refine Int.sub_eq_zero.mp ?_; simp (disch := ((try unfold I64); omega)) only [wi64_id, td]; omega)) (by omega)) ?_ | refine pK_i (ldV_VO kE hid hs0 (by omega)) ?_ | refine pK_i (iaD_vecN (k := t.i) (by first | rfl | omega | (refine Int.sub_eq_zero.mp ?_; simp (disch := ((try unfold I64); omega)) only [wi64_id, td]; omega)) (by omega)) ?_ | refine gk_stVO kE hid (List.length_set ..).symm rfl rfl (by simpa using hs0) (by omega) rfl ?_ | refine ffin _ (by simp) rfl (osc_VO' kE _ hS) (Sub.refl _) rfl ⟨?_, ?_, rfl⟩ | refine eqk rfl ?_ | refine ffin _ rfl rfl hS (Sub.refl _) rfl ⟨?_, rfl, rfl⟩)
    all_goals try (exfalso; omega)
    all_goals try
      (refine fnextS (α := SI) ⟨d0, u.i - 1⟩ ⟨rfl, by simp only; omega, by simp only; omega, ?_⟩ (by simp only; omega) rfl (fstep_sub ⟨Sub.refl _, Sub.int (by first | rfl | omega | (refine Int.sub_eq_zero.mp ?_; simp (disch := ((try unfold I64); omega)) only [wi64_id, td]; omega)), Sub.refl _, Sub.refl _, trivial⟩)
       rw [← l4, scanDown_step (p := fun x => !ltInt x d0[a]!) (j := u.i) (by omega) (by omega) (by simp only [ltf (show ¬ d0[u.i]! < d0[a]! by assumption)]; rfl)])
    all_goals
      have fu : t.i ≤ u.i → ltInt d0[u.i]! d0[a]! = true := fun h => by first | (exfalso; omega) | exact ltt (by assumption)
      have hu : scanDown (fun x => !ltInt x d0[a]!) d0 t.i u.i = u.i := scanDown_stop fun h => by simp only [fu h]; rfl
      rw [hu] at l4
      have hpt := partition_of (lt := ltInt) (d := d) (p := p) (b := b) hd0 k4 l4
    all_goals try (rw [hpt, if_pos (by omega)]; rfl)
    all_goals try rw [hpt, if_pos (by omega)]
    all_goals
      rw [if_neg (by omega)] at hpt
      have hne : t.i ≠ u.i := fun e => by
        have x1 := fs (by omega)
        rw [e, fu (by omega)] at x1
        cases x1
      rw [hpt]
      refine floopS (α := SJ) rfl (fun s => s.d.size = n ∧ a < s.i ∧ s.i ≤ s.j + 1 ∧ s.j < b ∧ partLoop ltInt a s.i s.j s.d = partLoop ltInt a (t.i + 1) (u.i - 1) (swp d0 t.i u.i)) (fun s => s.j + 1 - s.i) (fun s => [(10, .d (.int .i64 s.i)), (11, .d (.int .i64 s.j)), (0, .d (vec id n)), (1, .d (.int .i64 a))])
        (fun s => S0.set id (VI s.d)) (fun _ => []) (fun _ => []) (fun s _ => ⟨by simp, osc_VO' kE _ hS⟩) ⟨swp d0 t.i u.i, t.i + 1, u.i - 1⟩ ⟨by rw [size_swp']; exact hs0, by simp only; omega, by simp only; omega, by simp only; omega, rfl⟩ rfl (fstep_sub ⟨Sub.int (by first | rfl | omega | (refine Int.sub_eq_zero.mp ?_; simp (disch := ((try unfold I64); omega)) only [wi64_id, td]; omega)), Sub.int (by first | rfl | omega | (refine Int.sub_eq_zero.mp ?_; simp (disch := ((try unfold I64); omega)) only [wi64_id, td]; omega)), Sub.refl _, Sub.refl _, trivial⟩) ?_
      clear hpt hu l4 l3 l2 fu hs k4 hne fs k3 k2
      generalize partLoop ltInt a (t.i + 1) (u.i - 1) (swp d0 t.i u.i) = R
      rintro s ⟨h1, h2, h3, h4, h5⟩
      refine floopS (α := SI) rfl (fun t => t.d = s.d ∧ s.i ≤ t.i ∧ t.i ≤ s.j + 1 ∧ scanUp (fun x => ltInt x s.d[a]!) s.d s.j t.i = scanUp (fun x => ltInt x s.d[a]!) s.d s.j s.i) (fun t => s.j + 1 - t.i) (fun t => [(10, .d (.int .i64 t.i)), (11, .d (.int .i64 s.j)), (0, .d (vec id n)), (1, .d (.int .i64 a))])
        (fun _ => S0.set id (VI s.d)) (fun _ => []) (fun _ => []) (fun _ _ => ⟨by simp, osc_VO' kE _ hS⟩) ⟨s.d, s.i⟩ ⟨rfl, Nat.le_refl _, h3, rfl⟩ rfl (fstep_sub ⟨Sub.refl _, Sub.refl _, Sub.refl _, Sub.refl _, trivial⟩) ?_
      rintro t ⟨-, k2, k3, k4⟩
      repeat' first | with_reducible refine fzD_ite (fun q => ?_) (fun q => ?_) | ((try conv => whnf); first | refine bs_d (fun q => ?_) (fun q => ?_) <;> (try simp (disch := ((try unfold I64); omega)) only [wi64_id, td] at q) | refine bs_n ?_ | refine bs_i (fun q => ?_) (fun q => ?_) | refine ckz (less _ _) ?_ | refine cq (less _ _) ?_ | refine pK_i (iaD_vecN (k := a) (by first | rfl | omega | (refine Int.sub_eq_zero.mp ?_; simp (disch := ((try unfold I64); omega)) only [wi64_id, td]; omega)) (by omega)) ?_ | refine pK_i (iaD_vecN (k := t.i) (by first | rfl | omega | (refine Int.sub_eq_zero.mp ?_; simp (disch := ((try unfold I64); omega)) only [wi64_id, td]; omega)) (by omega)) ?_ | refine pK_i (ldV_VO kE hid h1 (by omega)) ?_ | refine eqk rfl ?_ | refine ffin _ rfl rfl hS (Sub.refl _) rfl ⟨?_, rfl, rfl⟩)
      · refine fnextS (α := SI) ⟨s.d, t.i + 1⟩ ⟨rfl, by simp only; omega, by simp only; omega, ?_⟩ (by simp only; omega) rfl (fstep_sub ⟨Sub.int (by first | rfl | omega | (refine Int.sub_eq_zero.mp ?_; simp (disch := ((try unfold I64); omega)) only [wi64_id, td]; omega)), Sub.refl _, Sub.refl _, Sub.refl _, trivial⟩)
        rw [← k4, scanUp_step (p := fun x => ltInt x s.d[a]!) (i := t.i) (by omega) (ltt (by assumption))]
      all_goals
        have fs : t.i ≤ s.j → ltInt s.d[t.i]! s.d[a]! = false := fun h => by first | (exfalso; omega) | exact ltf (by assumption)
        have hs : scanUp (fun x => ltInt x s.d[a]!) s.d s.j t.i = t.i := scanUp_stop fs
        rw [hs] at k4
        refine floopS (α := SI) rfl (fun u => u.d = s.d ∧ u.i ≤ s.j ∧ t.i ≤ u.i + 1 ∧ scanDown (fun x => !ltInt x s.d[a]!) s.d t.i u.i = scanDown (fun x => !ltInt x s.d[a]!) s.d t.i s.j) (fun u => u.i) (fun u => [(10, .d (.int .i64 t.i)), (11, .d (.int .i64 u.i)), (0, .d (vec id n)), (1, .d (.int .i64 a))])
          (fun _ => S0.set id (VI s.d)) (fun _ => []) (fun _ => []) (fun _ _ => ⟨by simp, osc_VO' kE _ hS⟩) ⟨s.d, s.j⟩ ⟨rfl, Nat.le_refl _, by simp only; omega, rfl⟩ rfl (fstep_sub ⟨Sub.refl _, Sub.refl _, Sub.refl _, Sub.refl _, trivial⟩) ?_
        rintro u ⟨-, l2, l3, l4⟩
        repeat' first | with_reducible refine fzD_ite (fun q => ?_) (fun q => ?_) | ((try conv => whnf); first | refine bs_d (fun q => ?_) (fun q => ?_) <;> (try simp (disch := ((try unfold I64); omega)) only [wi64_id, td] at q) | refine bs_n ?_ | refine bs_i (fun q => ?_) (fun q => ?_) | refine ckz (less _ _) ?_ | refine cq (less _ _) ?_ | refine pK_i (iaD_vecN (k := a) (by first | rfl | omega | (refine Int.sub_eq_zero.mp ?_; simp (disch := ((try unfold I64); omega)) only [wi64_id, td]; omega)) (by omega)) ?_ | refine pK_i (iaD_vecN (k := u.i) (by first | rfl | omega | (refine Int.sub_eq_zero.mp ?_; simp (disch := ((try unfold I64); omega)) only [wi64_id, td]; omega)) (by omega)) ?_ | refine pK_i (ldV_VO kE hid h1 (by omega)) ?_ | refine pK_i (iaD_vecN (k := t.i) (by first | rfl | omega | (refine Int.sub_eq_zero.mp ?_; simp (disch := ((try unfold I64); omega)) only [wi64_id, td]; omega)) (by omega)) ?_ | refine gk_stVO kE hid (List.length_set ..).symm rfl rfl (by simpa using h1) (by omega) rfl ?_ | refine ffin _ (by simp) rfl (osc_VO' kE _ hS) (Sub.refl _) rfl ⟨?_, ?_, rfl⟩ | refine eqk rfl ?_ | refine ffin _ rfl rfl hS (Sub.refl _) rfl ⟨?_, rfl, rfl⟩)
        all_goals try (exfalso; omega)
        all_goals try
          (refine fnextS (α := SI) ⟨s.d, u.i - 1⟩ ⟨rfl, by simp only; omega, by simp only; omega, ?_⟩ (by simp only; omega) rfl (fstep_sub ⟨Sub.refl _, Sub.int (by first | rfl | omega | (refine Int.sub_eq_zero.mp ?_; simp (disch := ((try unfold I64); omega)) only [wi64_id, td]; omega)), Sub.refl _, Sub.refl _, trivial⟩)
           rw [← l4, scanDown_step (p := fun x => !ltInt x s.d[a]!) (j := u.i) (by omega) (by omega) (by simp only [ltf (show ¬ s.d[u.i]! < s.d[a]! by assumption)]; rfl)])
        all_goals
          have fu : t.i ≤ u.i → ltInt s.d[u.i]! s.d[a]! = true := fun h => by first | (exfalso; omega) | exact ltt (by assumption)
          have hu : scanDown (fun x => !ltInt x s.d[a]!) s.d t.i u.i = u.i := scanDown_stop fun h => by simp only [fu h]; rfl
          rw [hu] at l4
          have heq := partLoop_eq ltInt a s.i s.j s.d
          rw [← k4, ← l4] at heq
        all_goals try (rw [← h5, heq, if_pos (by omega)]; rfl)
        all_goals try rw [← h5, heq, if_pos (by omega)]
        all_goals
          rw [if_neg (by omega)] at heq
          have hne : t.i ≠ u.i := fun e => by
            have x1 := fs (by omega)
            rw [e, fu (by omega)] at x1
            cases x1
          refine fnextS (α := SJ) ⟨swp s.d t.i u.i, t.i + 1, u.i - 1⟩ ⟨by rw [size_swp']; exact h1, by simp only; omega, by simp only; omega, by simp only; omega, ?_⟩ (by simp only; omega) rfl (fstep_sub ⟨Sub.int (by first | rfl | omega | (refine Int.sub_eq_zero.mp ?_; simp (disch := ((try unfold I64); omega)) only [wi64_id, td]; omega)), Sub.int (by first | rfl | omega | (refine Int.sub_eq_zero.mp ?_; simp (disch := ((try unfold I64); omega)) only [wi64_id, td]; omega)), Sub.refl _, Sub.refl _, trivial⟩)
          rw [← h5, heq]
theorem c66 : cFun E0.P 66 = some ⟨133, [(6, none)], .seq (.rg [⟨some 6, none, .mv (.k (.bool false))⟩]) (.seq (.rg [⟨some 11, none, .mv (.t 1)⟩, ⟨some 12, none, .bin .add .leaf (.t 11) (.k (.int .i64 1))⟩, ⟨some 7, none, .mv (.t 12)⟩]) (.seq (.seq (.rg [⟨some 8, none, .mv (.k (.int .i64 0))⟩]) (.block 0 (.loop (.seq (.seq (.rg [⟨some 13, none, .mv (.t 8)⟩, ⟨some 14, none, .bin .lss .leaf (.t 13) (.k (.int .i64 5))⟩]) (.cond (.t 14) .skip (.exit 0))) (.seq (.block 1 (.seq (.block 2 (.loop (.seq (.seq (.rd [(⟨some 17, none, .mv (.t 7)⟩, none), (⟨some 18, none, .mv (.t 2)⟩, none), (⟨some 19, none, .bin .lss .leaf (.t 17) (.t 18)⟩, none), (⟨some 20, none, .mv (.t 19)⟩, none), (⟨some 21, some (20, true), .mv (.t 0)⟩, none), (⟨some 22, some (20, true), .mv (.t 7)⟩, none), (⟨some 23, some (20, true), .ia 1 (.t 21) (.t 22)⟩, none), (⟨some 24, some (20, true), .ld 1 false (.t 23)⟩, none), (⟨some 25, some (20, true), .mv (.t 0)⟩, none), (⟨some 26, some (20, true), .mv (.t 7)⟩, none), (⟨some 27, some (20, true), .bin .sub .leaf (.t 26) (.k (.int .i64 1))⟩, none), (⟨some 28, some (20, true), .ia 1 (.t 25) (.t 27)⟩, none), (⟨some 29, some (20, true), .ld 1 false (.t 28)⟩, none), (⟨some 30, some (20, true), .call 67 [.t 24, .t 29]⟩, some []), (⟨some 31, some (20, true), .un .not (.t 30)⟩, none), (⟨some 32, none, .pick (.t 20) (.t 31) (.k (.bool false))⟩, none)]) (.cond (.t 32) .skip (.exit 2))) (.block 3 (.rg [⟨some 33, none, .mv (.t 7)⟩, ⟨some 34, none, .bin .add .leaf (.t 33) (.k (.int .i64 1))⟩, ⟨some 7, none, .mv (.t 34)⟩]))))) (.seq (.seq (.rg [⟨some 35, none, .mv (.t 7)⟩, ⟨some 36, none, .mv (.t 2)⟩, ⟨some 37, none, .bin .eql .leaf (.t 35) (.t 36)⟩]) (.cond (.t 37) (.seq (.rg [⟨some 6, none, .mv (.k (.bool true))⟩]) .ret) .skip)) (.seq (.seq (.rg [⟨some 38, none, .mv (.t 2)⟩, ⟨some 39, none, .mv (.t 1)⟩, ⟨some 40, none, .bin .sub .leaf (.t 38) (.t 39)⟩, ⟨some 41, none, .bin .lss .leaf (.t 40) (.k (.int .i64 50))⟩]) (.cond (.t 41) (.seq (.rg [⟨some 6, none, .mv (.k (.bool false))⟩]) .ret) .skip)) (.seq (.rd [(⟨some 42, none, .mv (.t 0)⟩, none), (⟨some 43, none, .mv (.t 7)⟩, none), (⟨some 44, none, .mv (.t 0)⟩, none), (⟨some 45, none, .mv (.t 7)⟩, none), (⟨some 46, none, .bin .sub .leaf (.t 45) (.k (.int .i64 1))⟩, none), (⟨some 47, none, .mv (.t 0)⟩, none), (⟨some 48, none, .mv (.t 7)⟩, none), (⟨some 49, none, .bin .sub .leaf (.t 48) (.k (.int .i64 1))⟩, none), (⟨some 50, none, .ia 1 (.t 47) (.t 49)⟩, none), (⟨some 51, none, .ld 1 false (.t 50)⟩, none), (⟨some 52, none, .mv (.t 0)⟩, none), (⟨some 53, none, .mv (.t 7)⟩, none), (⟨some 54, none, .ia 1 (.t 52) (.t 53)⟩, none), (⟨some 55, none, .ld 1 false (.t 54)⟩, none), (⟨some 56, none, .ia 1 (.t 42) (.t 43)⟩, none), (⟨none, none, .st 1 (.t 56) (.t 51)⟩, some []), (⟨some 57, none, .ia 1 (.t 44) (.t 46)⟩, none), (⟨none, none, .st 1 (.t 57) (.t 55)⟩, some [])]) (.seq (.seq (.rg [⟨some 58, none, .mv (.t 7)⟩, ⟨some 59, none, .mv (.t 1)⟩, ⟨some 60, none, .bin .sub .leaf (.t 58) (.t 59)⟩, ⟨some 61, none, .bin .geq .leaf (.t 60) (.k (.int .i64 2))⟩]) (.cond (.t 61) (.seq (.rg [⟨some 62, none, .mv (.t 7)⟩, ⟨some 63, none, .bin .sub .leaf (.t 62) (.k (.int .i64 1))⟩, ⟨some 9, none, .mv (.t 63)⟩]) (.block 4 (.loop (.seq (.seq (.rg [⟨some 64, none, .mv (.t 9)⟩, ⟨some 65, none, .bin .geq .leaf (.t 64) (.k (.int .i64 1))⟩]) (.cond (.t 65) .skip (.exit 4))) (.seq (.block 5 (.seq (.seq (.rd [(⟨some 68, none, .mv (.t 0)⟩, none), (⟨some 69, none, .mv (.t 9)⟩, none), (⟨some 70, none, .ia 1 (.t 68) (.t 69)⟩, none), (⟨some 71, none, .ld 1 false (.t 70)⟩, none), (⟨some 72, none, .mv (.t 0)⟩, none), (⟨some 73, none, .mv (.t 9)⟩, none), (⟨some 74, none, .bin .sub .leaf (.t 73) (.k (.int .i64 1))⟩, none), (⟨some 75, none, .ia 1 (.t 72) (.t 74)⟩, none), (⟨some 76, none, .ld 1 false (.t 75)⟩, none), (⟨some 77, none, .call 67 [.t 71, .t 76]⟩, some []), (⟨some 78, none, .un .not (.t 77)⟩, none)]) (.cond (.t 78) (.exit 4) .skip)) (.rd [(⟨some 79, none, .mv (.t 0)⟩, none), (⟨some 80, none, .mv (.t 9)⟩, none), (⟨some 81, none, .mv (.t 0)⟩, none), (⟨some 82, none, .mv (.t 9)⟩, none), (⟨some 83, none, .bin .sub .leaf (.t 82) (.k (.int .i64 1))⟩, none), (⟨some 84, none, .mv (.t 0)⟩, none), (⟨some 85, none, .mv (.t 9)⟩, none), (⟨some 86, none, .bin .sub .leaf (.t 85) (.k (.int .i64 1))⟩, none), (⟨some 87, none, .ia 1 (.t 84) (.t 86)⟩, none), (⟨some 88, none, .ld 1 false (.t 87)⟩, none), (⟨some 89, none, .mv (.t 0)⟩, none), (⟨some 90, none, .mv (.t 9)⟩, none), (⟨some 91, none, .ia 1 (.t 89) (.t 90)⟩, none), (⟨some 92, none, .ld 1 false (.t 91)⟩, none), (⟨some 93, none, .ia 1 (.t 79) (.t 80)⟩, none), (⟨none, none, .st 1 (.t 93) (.t 88)⟩, some []), (⟨some 94, none, .ia 1 (.t 81) (.t 83)⟩, none), (⟨none, none, .st 1 (.t 94) (.t 92)⟩, some [])]))) (.rg [⟨some 66, none, .mv (.t 9)⟩, ⟨some 67, none, .bin .sub .leaf (.t 66) (.k (.int .i64 1))⟩, ⟨some 9, none, .mv (.t 67)⟩])))))) .skip)) (.seq (.rg [⟨some 95, none, .mv (.t 2)⟩, ⟨some 96, none, .mv (.t 7)⟩, ⟨some 97, none, .bin .sub .leaf (.t 95) (.t 96)⟩, ⟨some 98, none, .bin .geq .leaf (.t 97) (.k (.int .i64 2))⟩]) (.cond (.t 98) (.seq (.rg [⟨some 99, none, .mv (.t 7)⟩, ⟨some 100, none, .bin .add .leaf (.t 99) (.k (.int .i64 1))⟩, ⟨some 10, none, .mv (.t 100)⟩]) (.block 6 (.loop (.seq (.seq (.rg [⟨some 101, none, .mv (.t 10)⟩, ⟨some 102, none, .mv (.t 2)⟩, ⟨some 103, none, .bin .lss .leaf (.t 101) (.t 102)⟩]) (.cond (.t 103) .skip (.exit 6))) (.seq (.block 7 (.seq (.seq (.rd [(⟨some 106, none, .mv (.t 0)⟩, none), (⟨some 107, none, .mv (.t 10)⟩, none), (⟨some 108, none, .ia 1 (.t 106) (.t 107)⟩, none), (⟨some 109, none, .ld 1 false (.t 108)⟩, none), (⟨some 110, none, .mv (.t 0)⟩, none), (⟨some 111, none, .mv (.t 10)⟩, none), (⟨some 112, none, .bin .sub .leaf (.t 111) (.k (.int .i64 1))⟩, none), (⟨some 113, none, .ia 1 (.t 110) (.t 112)⟩, none), (⟨some 114, none, .ld 1 false (.t 113)⟩, none), (⟨some 115, none, .call 67 [.t 109, .t 114]⟩, some []), (⟨some 116, none, .un .not (.t 115)⟩, none)]) (.cond (.t 116) (.exit 6) .skip)) (.rd [(⟨some 117, none, .mv (.t 0)⟩, none), (⟨some 118, none, .mv (.t 10)⟩, none), (⟨some 119, none, .mv (.t 0)⟩, none), (⟨some 120, none, .mv (.t 10)⟩, none), (⟨some 121, none, .bin .sub .leaf (.t 120) (.k (.int .i64 1))⟩, none), (⟨some 122, none, .mv (.t 0)⟩, none), (⟨some 123, none, .mv (.t 10)⟩, none), (⟨some 124, none, .bin .sub .leaf (.t 123) (.k (.int .i64 1))⟩, none), (⟨some 125, none, .ia 1 (.t 122) (.t 124)⟩, none), (⟨some 126, none, .ld 1 false (.t 125)⟩, none), (⟨some 127, none, .mv (.t 0)⟩, none), (⟨some 128, none, .mv (.t 10)⟩, none), (⟨some 129, none, .ia 1 (.t 127) (.t 128)⟩, none), (⟨some 130, none, .ld 1 false (.t 129)⟩, none), (⟨some 131, none, .ia 1 (.t 117) (.t 118)⟩, none), (⟨none, none, .st 1 (.t 131) (.t 126)⟩, some []), (⟨some 132, none, .ia 1 (.t 119) (.t 121)⟩, none), (⟨none, none, .st 1 (.t 132) (.t 130)⟩, some [])]))) (.rg [⟨some 104, none, .mv (.t 10)⟩, ⟨some 105, none, .bin .add .leaf (.t 104) (.k (.int .i64 1))⟩, ⟨some 10, none, .mv (.t 105)⟩])))))) .skip)))))))) (.rg [⟨some 15, none, .mv (.t 8)⟩, ⟨some 16, none, .bin .add .leaf (.t 15) (.k (.int .i64 1))⟩, ⟨some 8, none, .mv (.t 16)⟩])))))) (.seq (.rg [⟨some 6, none, .mv (.k (.bool false))⟩]) .ret)))⟩ := by kernel_rfl

set_option maxHeartbeats 4000000 in
theorem partialInsertionSort (id n : Nat) (d : Array Int) (a b : Nat) (hd : d.size = n) (hab : a < b) (hb : b ≤ n) (hn : n < 4611686018427387904) :
    Turns 66 id n [.int .i64 a, .int .i64 b] d (.bool (partialInsertionSort ltInt d a b).2) (partialInsertionSort ltInt d a b).1 := by
  intro S0 tk hid
  refine ACalls.fgo c66 rfl fun hS => ?_
  repeat' first | with_reducible refine fzD_ite (fun q => ?_) (fun q => ?_) | ((try conv => whnf); first | refine bs_d (fun q => ?_) (fun q => ?_) | refine bs_n ?_ | refine bs_i (fun q => ?_) (fun q => ?_) | refine eqk rfl ?_ | refine ffin _ rfl rfl hS (Sub.refl _) rfl ⟨?_, rfl, rfl⟩)
  refine floopS (α := SJ) rfl (fun s => s.d.size = n ∧ a < s.i ∧ s.i ≤ b ∧ s.j ≤ 5 ∧ partialIns ltInt a b (5 - s.j) s.i s.d = Sort.partialInsertionSort ltInt d a b) (fun s => 5 - s.j) (fun s => [(7, .d (.int .i64 s.i)), (8, .d (.int .i64 s.j)), (0, .d (vec id n)), (1, .d (.int .i64 a)), (2, .d (.int .i64 b))])
    (fun s => S0.set id (VI s.d)) (fun _ => []) (fun _ => []) (fun s _ => ⟨by simp, osc_VO' kE _ hS⟩) ⟨d, a + 1, 0⟩ ⟨hd, by simp, by simp only; omega, by simp, rfl⟩ rfl (fstep_sub ⟨Sub.int (by first | rfl | omega | (refine Int.sub_eq_zero.mp ?_; simp (disch := ((try unfold I64); omega)) only [wi64_id, td]; omega)), Sub.refl _, Sub.refl _, Sub.refl _, Sub.refl _, trivial⟩) ?_
  rintro s ⟨h1, h2, h3, h4, h5⟩
  repeat' first | with_reducible refine fzD_ite (fun q => ?_) (fun q => ?_) | ((try conv => whnf); first | refine bs_d (fun q => ?_) (fun q => ?_) <;> (try simp (disch := ((try unfold I64); omega)) only [wi64_id, td] at q) | refine bs_n ?_ | refine bs_i (fun q => ?_) (fun q => ?_) | refine ffin _ (by simp) rfl (osc_VO' kE _ hS) (Sub.refl _) rfl ⟨?_, ?_, rfl⟩ | refine eqk rfl ?_ | refine ffin _ rfl rfl hS (Sub.refl _) rfl ⟨?_, rfl, rfl⟩)
  case' refine_2.refine_1 =>
    rw [← h5, show 5 - s.j = 0 from by omega]; rfl
  case' refine_2.refine_2 =>
    rw [← h5, show 5 - s.j = 0 from by omega]; rfl
  refine floopS (α := SI) rfl (fun t => t.d = s.d ∧ s.i ≤ t.i ∧ t.i ≤ b ∧ scanSorted ltInt s.d b t.i = scanSorted ltInt s.d b s.i) (fun t => b - t.i) (fun t => [(7, .d (.int .i64 t.i)), (8, .d (.int .i64 s.j)), (0, .d (vec id n)), (1, .d (.int .i64 a)), (2, .d (.int .i64 b))])
    (fun _ => S0.set id (VI s.d)) (fun _ => []) (fun _ => []) (fun _ _ => ⟨by simp, osc_VO' kE _ hS⟩) ⟨s.d, s.i⟩ ⟨rfl, Nat.le_refl _, h3, rfl⟩ rfl (fstep_sub ⟨Sub.refl _, Sub.refl _, Sub.refl _, Sub.refl _, Sub.refl _, trivial⟩) ?_
  rintro t ⟨-, k2, k3, k4⟩
  repeat' first | with_reducible refine fzD_ite (fun q => ?_) (fun q => ?_) | ((try conv => whnf); first | refine bs_d (fun q => ?_) (fun q => ?_) <;> (try simp (disch := ((try unfold I64); omega)) only [wi64_id, td] at q) | refine bs_n ?_ | refine bs_i (fun q => ?_) (fun q => ?_) | refine ckz (less _ _) ?_ | refine cq (less _ _) ?_ | refine pK_i (iaD_vecN (k := t.i) (by first | rfl | omega | (refine Int.sub_eq_zero.mp ?_; simp (disch := ((try unfold I64); omega)) only [wi64_id, td]; omega)) (by omega)) ?_ | refine pK_i (iaD_vecN (k := t.i - 1) (by first | rfl | omega | (refine Int.sub_eq_zero.mp ?_; simp (disch := ((try unfold I64); omega)) only [wi64_id, td]; omega)) (by omega)) ?_ | refine pK_i (ldV_VO kE hid h1 (by omega)) ?_ | refine gk_stVO kE hid (List.length_set ..).symm rfl rfl (by simpa using h1) (by omega) rfl ?_ | refine ffin _ (by simp) rfl (osc_VO' kE _ hS) (Sub.refl _) rfl ⟨?_, ?_, rfl⟩ | refine eqk rfl ?_ | refine ffin _ rfl rfl hS (Sub.refl _) rfl ⟨?_, rfl, rfl⟩)
  all_goals try
    (refine fnextS (α := SI) ⟨s.d, t.i + 1⟩ ⟨rfl, by simp only; omega, by simp only; omega, ?_⟩ (by simp only; omega) rfl (fstep_sub ⟨Sub.int (by first | rfl | omega | (refine Int.sub_eq_zero.mp ?_; simp (disch := ((try unfold I64); omega)) only [wi64_id, td]; omega)), Sub.refl _, Sub.refl _, Sub.refl _, Sub.refl _, trivial⟩)
     rw [← k4, scanSorted_step (i := t.i) (by omega) (ltf (show ¬ s.d[t.i]! < s.d[t.i - 1]! by assumption))])
  all_goals try (exfalso; omega)
  all_goals
    have fs : t.i < b → ltInt s.d[t.i]! s.d[t.i - 1]! = true := fun h => by first | (exfalso; omega) | exact ltt (by assumption)
    rw [scanSorted_stop fs] at k4
    have hpi := partialIns_of (lt := ltInt) (a := a) (s := 5 - (s.j + 1)) k4 rfl rfl
    rw [show 5 - (s.j + 1) + 1 = 5 - s.j from by omega, h5] at hpi
  all_goals try (rw [hpi, if_pos (by omega)]; rfl)
  all_goals try rw [hpi, if_pos (by omega)]
  all_goals try (rw [hpi, if_neg (by omega), if_pos (by omega)]; rfl)
  all_goals try rw [hpi, if_neg (by omega), if_pos (by omega)]
  all_goals clear hpi
  all_goals try
    (refine floopS (α := SI) rfl (fun u => u.d.size = n ∧ u.i ≤ t.i - 1 ∧ Sort.shiftDown ltInt u.i u.d = Sort.shiftDown ltInt (t.i - 1) (swp s.d t.i (t.i - 1))) (fun u => u.i) (fun u => [(9, .d (.int .i64 u.i)), (7, .d (.int .i64 t.i)), (8, .d (.int .i64 s.j)), (0, .d (vec id n)), (1, .d (.int .i64 a)), (2, .d (.int .i64 b))])
      (fun u => S0.set id (VI u.d)) (fun _ => []) (fun _ => []) (fun u _ => ⟨by simp, osc_VO' kE _ hS⟩) ⟨swp s.d t.i (t.i - 1), t.i - 1⟩ ⟨by rw [size_swp']; exact h1, by simp, rfl⟩ rfl (fstep_sub ⟨Sub.int (by first | rfl | omega | (refine Int.sub_eq_zero.mp ?_; simp (disch := ((try unfold I64); omega)) only [wi64_id, td]; omega)), Sub.refl _, Sub.refl _, Sub.refl _, Sub.refl _, Sub.refl _, trivial⟩) ?_
     rintro u ⟨u1, u2, u3⟩
     repeat' first | with_reducible refine fzD_ite (fun q => ?_) (fun q => ?_) | ((try conv => whnf); first | refine bs_d (fun q => ?_) (fun q => ?_) <;> (try simp (disch := ((try unfold I64); omega)) only [wi64_id, td] at q) | refine bs_n ?_ | refine bs_i (fun q => ?_) (fun q => ?_) | refine ckz (less _ _) ?_ | refine cq (less _ _) ?_ | refine pK_i (iaD_vecN (k := u.i) (by first | rfl | omega | (refine Int.sub_eq_zero.mp ?_; simp (disch := ((try unfold I64); omega)) only [wi64_id, td]; omega)) (by omega)) ?_ | refine pK_i (iaD_vecN (k := u.i - 1) (by first | rfl | omega | (refine Int.sub_eq_zero.mp ?_; simp (disch := ((try unfold I64); omega)) only [wi64_id, td]; omega)) (by omega)) ?_ | refine pK_i (ldV_VO kE hid u1 (by omega)) ?_ | refine gk_stVO kE hid (List.length_set ..).symm rfl rfl (by simpa using u1) (by omega) rfl ?_ | refine eqk rfl ?_ | refine ffin _ rfl rfl hS (Sub.refl _) rfl ⟨?_, rfl, rfl⟩)
     all_goals try
       (refine fnextS (α := SI) ⟨swp u.d u.i (u.i - 1), u.i - 1⟩ ⟨by rw [size_swp']; exact u1, by simp only; omega, ?_⟩ (by simp only; omega) rfl (fstep_sub ⟨Sub.int (by first | rfl | omega | (refine Int.sub_eq_zero.mp ?_; simp (disch := ((try unfold I64); omega)) only [wi64_id, td]; omega)), Sub.refl _, Sub.refl _, Sub.refl _, Sub.refl _, Sub.refl _, trivial⟩)
        rw [← u3, shiftDown_step (j := u.i) (by omega) (ltt (by assumption))])
     all_goals
       have fu : 0 < u.i → ltInt u.d[u.i]! u.d[u.i - 1]! = false := fun h => by first | (exfalso; omega) | exact ltf (by assumption)
       rw [shiftDown_stop fu] at u3
       have hd2 : (if t.i - a ≥ 2 then Sort.shiftDown ltInt (t.i - 1) (swp s.d t.i (t.i - 1)) else swp s.d t.i (t.i - 1)) = u.d := by rw [if_pos (by omega), ← u3]
       have hD := u1
     all_goals
       have hst : ∀ D', (if b - t.i ≥ 2 then shiftUp ltInt b (t.i + 1) (u.d) else (u.d)) = D' → partialIns ltInt a b (5 - (s.j + 1)) t.i D' = Sort.partialInsertionSort ltInt d a b := fun D' h => by
         have := partialIns_of (lt := ltInt) (a := a) (s := 5 - (s.j + 1)) k4 hd2 h
         rw [if_neg (by omega), if_neg (by omega), show 5 - (s.j + 1) + 1 = 5 - s.j from by omega] at this
         rw [← this, h5]
     all_goals try
       (refine fnextS (α := SJ) ⟨u.d, t.i, s.j + 1⟩ ⟨hD, by simp only; omega, by simp only; omega, by simp only; omega, ?_⟩ (by simp only; omega) rfl (fstep_sub ⟨Sub.refl _, Sub.int (by first | rfl | omega | (refine Int.sub_eq_zero.mp ?_; simp (disch := ((try unfold I64); omega)) only [wi64_id, td]; omega)), Sub.refl _, Sub.refl _, Sub.refl _, trivial⟩)
        exact hst _ (by rw [if_neg (by omega)]))
     all_goals
       refine floopS (α := SI) rfl (fun v => v.d.size = n ∧ t.i < v.i ∧ v.i ≤ b ∧ shiftUp ltInt b v.i v.d = shiftUp ltInt b (t.i + 1) (u.d)) (fun v => b - v.i) (fun v => [(10, .d (.int .i64 v.i)), (7, .d (.int .i64 t.i)), (8, .d (.int .i64 s.j)), (0, .d (vec id n)), (1, .d (.int .i64 a)), (2, .d (.int .i64 b))])
         (fun v => S0.set id (VI v.d)) (fun _ => []) (fun _ => []) (fun v _ => ⟨by simp, osc_VO' kE _ hS⟩) ⟨u.d, t.i + 1⟩ ⟨hD, by simp, by simp only; omega, rfl⟩ rfl (fstep_sub ⟨Sub.int (by first | rfl | omega | (refine Int.sub_eq_zero.mp ?_; simp (disch := ((try unfold I64); omega)) only [wi64_id, td]; omega)), Sub.refl _, Sub.refl _, Sub.refl _, Sub.refl _, Sub.refl _, trivial⟩) ?_
       rintro v ⟨v1, v2, v3, v4⟩
       repeat' first | with_reducible refine fzD_ite (fun q => ?_) (fun q => ?_) | ((try conv => whnf); first | refine bs_d (fun q => ?_) (fun q => ?_) <;> (try simp (disch := ((try unfold I64); omega)) only [wi64_id, td] at q) | refine bs_n ?_ | refine bs_i (fun q => ?_) (fun q => ?_) | refine ckz (less _ _) ?_ | refine cq (less _ _) ?_ | refine pK_i (iaD_vecN (k := v.i) (by first | rfl | omega | (refine Int.sub_eq_zero.mp ?_; simp (disch := ((try unfold I64); omega)) only [wi64_id, td]; omega)) (by omega)) ?_ | refine pK_i (iaD_vecN (k := v.i - 1) (by first | rfl | omega | (refine Int.sub_eq_zero.mp ?_; simp (disch := ((try unfold I64); omega)) only [wi64_id, td]; omega)) (by omega)) ?_ | refine pK_i (ldV_VO kE hid v1 (by omega)) ?_ | refine gk_stVO kE hid (List.length_set ..).symm rfl rfl (by simpa using v1) (by omega) rfl ?_ | refine eqk rfl ?_ | refine ffin _ rfl rfl hS (Sub.refl _) rfl ⟨?_, rfl, rfl⟩)
       all_goals try
         (refine fnextS (α := SI) ⟨swp v.d v.i (v.i - 1), v.i + 1⟩ ⟨by rw [size_swp']; exact v1, by simp only; omega, by simp only; omega, ?_⟩ (by simp only; omega) rfl (fstep_sub ⟨Sub.int (by first | rfl | omega | (refine Int.sub_eq_zero.mp ?_; simp (disch := ((try unfold I64); omega)) only [wi64_id, td]; omega)), Sub.refl _, Sub.refl _, Sub.refl _, Sub.refl _, Sub.refl _, trivial⟩)
          rw [← v4, shiftUp_step (j := v.i) (by omega) (ltt (by assumption))])
       all_goals
         have fv : v.i < b → ltInt v.d[v.i]! v.d[v.i - 1]! = false := fun h => by first | (exfalso; omega) | exact ltf (by assumption)
         rw [shiftUp_stop fv] at v4
         refine fnextS (α := SJ) ⟨v.d, t.i, s.j + 1⟩ ⟨v1, by simp only; omega, by simp only; omega, by simp only; omega, ?_⟩ (by simp only; omega) rfl (fstep_sub ⟨Sub.refl _, Sub.int (by first | rfl | omega | (refine Int.sub_eq_zero.mp ?_; simp (disch := ((try unfold I64); omega)) only [wi64_id, td]; omega)), Sub.refl _, Sub.refl _, Sub.refl _, trivial⟩)
         exact hst _ (by rw [if_pos (by omega), ← v4]))
  all_goals
    have hd2 : (if t.i - a ≥ 2 then Sort.shiftDown ltInt (t.i - 1) (swp s.d t.i (t.i - 1)) else swp s.d t.i (t.i - 1)) = swp s.d t.i (t.i - 1) := by rw [if_neg (by omega)]
    have hD : (swp s.d t.i (t.i - 1)).size = n := by rw [size_swp']; exact h1
  all_goals
    have hst : ∀ D', (if b - t.i ≥ 2 then shiftUp ltInt b (t.i + 1) (swp s.d t.i (t.i - 1)) else (swp s.d t.i (t.i - 1))) = D' → partialIns ltInt a b (5 - (s.j + 1)) t.i D' = Sort.partialInsertionSort ltInt d a b := fun D' h => by
      have := partialIns_of (lt := ltInt) (a := a) (s := 5 - (s.j + 1)) k4 hd2 h
      rw [if_neg (by omega), if_neg (by omega), show 5 - (s.j + 1) + 1 = 5 - s.j from by omega] at this
      rw [← this, h5]
  all_goals try
    (refine fnextS (α := SJ) ⟨swp s.d t.i (t.i - 1), t.i, s.j + 1⟩ ⟨hD, by simp only; omega, by simp only; omega, by simp only; omega, ?_⟩ (by simp only; omega) rfl (fstep_sub ⟨Sub.refl _, Sub.int (by first | rfl | omega | (refine Int.sub_eq_zero.mp ?_; simp (disch := ((try unfold I64); omega)) only [wi64_id, td]; omega)), Sub.refl _, Sub.refl _, Sub.refl _, trivial⟩)
     exact hst _ (by rw [if_neg (by omega)]))
  all_goals
    refine floopS (α := SI) rfl (fun v => v.d.size = n ∧ t.i < v.i ∧ v.i ≤ b ∧ shiftUp ltInt b v.i v.d = shiftUp ltInt b (t.i + 1) (swp s.d t.i (t.i - 1))) (fun v => b - v.i) (fun v => [(10, .d (.int .i64 v.i)), (7, .d (.int .i64 t.i)), (8, .d (.int .i64 s.j)), (0, .d (vec id n)), (1, .d (.int .i64 a)), (2, .d (.int .i64 b))])
      (fun v => S0.set id (VI v.d)) (fun _ => []) (fun _ => []) (fun v _ => ⟨by simp, osc_VO' kE _ hS⟩) ⟨swp s.d t.i (t.i - 1), t.i + 1⟩ ⟨hD, by simp, by simp only; omega, rfl⟩ rfl (fstep_sub ⟨Sub.int (by first | rfl | omega | (refine Int.sub_eq_zero.mp ?_; simp (disch := ((try unfold I64); omega)) only [wi64_id, td]; omega)), Sub.refl _, Sub.refl _, Sub.refl _, Sub.refl _, Sub.refl _, trivial⟩) ?_
    rintro v ⟨v1, v2, v3, v4⟩
    repeat' first | with_reducible refine fzD_ite (fun q => ?_) (fun q => ?_) | ((try conv => whnf); first | refine bs_d (fun q => ?_) (fun q => ?_) <;> (try simp (disch := ((try unfold I64); omega)) only [wi64_id, td] at q) | refine bs_n ?_ | refine bs_i (fun q => ?_) (fun q => ?_) | refine ckz (less _ _) ?_ | refine cq (less _ _) ?_ | refine pK_i (iaD_vecN (k := v.i) (by first | rfl | omega | (refine Int.sub_eq_zero.mp ?_; simp (disch := ((try unfold I64); omega)) only [wi64_id, td]; omega)) (by omega)) ?_ | refine pK_i (iaD_vecN (k := v.i - 1) (by first | rfl | omega | (refine Int.sub_eq_zero.mp ?_; simp (disch := ((try unfold I64); omega)) only [wi64_id, td]; omega)) (by omega)) ?_ | refine pK_i (ldV_VO kE hid v1 (by omega)) ?_ | refine gk_stVO kE hid (List.length_set ..).symm rfl rfl (by simpa using v1) (by omega) rfl ?_ | refine eqk rfl ?_ | refine ffin _ rfl rfl hS (Sub.refl _) rfl ⟨?_, rfl, rfl⟩)
    all_goals try
      (refine fnextS (α := SI) ⟨swp v.d v.i (v.i - 1), v.i + 1⟩ ⟨by rw [size_swp']; exact v1, by simp only; omega, by simp only; omega, ?_⟩ (by simp only; omega) rfl (fstep_sub ⟨Sub.int (by first | rfl | omega | (refine Int.sub_eq_zero.mp ?_; simp (disch := ((try unfold I64); omega)) only [wi64_id, td]; omega)), Sub.refl _, Sub.refl _, Sub.refl _, Sub.refl _, Sub.refl _, trivial⟩)
       rw [← v4, shiftUp_step (j := v.i) (by omega) (ltt (by assumption))])
    all_goals
      have fv : v.i < b → ltInt v.d[v.i]! v.d[v.i - 1]! = false := fun h => by first | (exfalso; omega) | exact ltf (by assumption)
      rw [shiftUp_stop fv] at v4
      refine fnextS (α := SJ) ⟨v.d, t.i, s.j + 1⟩ ⟨v1, by simp only; omega, by simp only; omega, by simp only; omega, ?_⟩ (by simp only; omega) rfl (fstep_sub ⟨Sub.refl _, Sub.int (by first | rfl | omega | (refine Int.sub_eq_zero.mp ?_; simp (disch := ((try unfold I64); omega)) only [wi64_id, td]; omega)), Sub.refl _, Sub.refl _, Sub.refl _, trivial⟩)
      exact hst _ (by rw [if_pos (by omega), ← v4])
theorem c49 : cFun E0.P 49 = some ⟨134, [], .seq (.rg [⟨some 8, none, .mv (.k (.bool true))⟩]) (.seq (.rg [⟨some 9, none, .mv (.k (.bool true))⟩]) (.block 0 (.loop (.block 1 (.seq (.rg [⟨some 19, none, .mv (.t 2)⟩, ⟨some 20, none, .mv (.t 1)⟩, ⟨some 21, none, .bin .sub .leaf (.t 19) (.t 20)⟩, ⟨some 10, none, .mv (.t 21)⟩]) (.seq (.seq (.rg [⟨some 22, none, .mv (.t 10)⟩, ⟨some 23, none, .bin .leq .leaf (.t 22) (.k (.int .i64 12))⟩]) (.cond (.t 23) (.seq (.rg [⟨some 24, none, .mv (.t 0)⟩, ⟨some 25, none, .mv (.t 1)⟩, ⟨some 26, none, .mv (.t 2)⟩, ⟨some 27, none, .call 61 [.t 24, .t 25, .t 26]⟩]) .ret) .skip)) (.seq (.seq (.rg [⟨some 28, none, .mv (.t 3)⟩, ⟨some 29, none, .bin .eql .leaf (.t 28) (.k (.int .i64 0))⟩]) (.cond (.t 29) (.seq (.rg [⟨some 30, none, .mv (.t 0)⟩, ⟨some 31, none, .mv (.t 1)⟩, ⟨some 32, none, .mv (.t 2)⟩, ⟨some 33, none, .call 62 [.t 30, .t 31, .t 32]⟩]) .ret) .skip)) (.seq (.seq (.rg [⟨some 34, none, .mv (.t 8)⟩, ⟨some 35, none, .un .not (.t 34)⟩]) (.cond (.t 35) (.seq (.rg [⟨some 36, none, .mv (.t 0)⟩, ⟨some 37, none, .mv (.t 1)⟩, ⟨some 38, none, .mv (.t 2)⟩, ⟨some 39, none, .call 63 [.t 36, .t 37, .t 38]⟩]) (.rg [⟨some 40, none, .mv (.t 3)⟩, ⟨some 41, none, .bin .sub .leaf (.t 40) (.k (.int .i64 1))⟩, ⟨some 3, none, .mv (.t 41)⟩])) .skip)) (.seq (.rg [⟨some 43, none, .mv (.t 0)⟩, ⟨some 44, none, .mv (.t 1)⟩, ⟨some 45, none, .mv (.t 2)⟩, ⟨some 46, none, .call 64 [.t 43, .t 44, .t 45]⟩, ⟨some 42, none, .mv (.t 46)⟩, ⟨some 47, none, .ext 0 (.t 42)⟩, ⟨some 48, none, .ext 1 (.t 42)⟩, ⟨some 11, none, .mv (.t 47)⟩, ⟨some 12, none, .mv (.t 48)⟩]) (.seq (.seq (.rg [⟨some 49, none, .mv (.t 12)⟩, ⟨some 50, none, .bin .eql .leaf (.t 49) (.k (.int .i64 2))⟩]) (.cond (.t 50) (.seq (.rg [⟨some 51, none, .mv (.t 0)⟩, ⟨some 52, none, .mv (.t 1)⟩, ⟨some 53, none, .mv (.t 2)⟩, ⟨some 54, none, .call 65 [.t 51, .t 52, .t 53]⟩]) (.seq (.rg [⟨some 55, none, .mv (.t 2)⟩, ⟨some 56, none, .bin .sub .leaf (.t 55) (.k (.int .i64 1))⟩, ⟨some 57, none, .mv (.t 11)⟩, ⟨some 58, none, .mv (.t 1)⟩, ⟨some 59, none, .bin .sub .leaf (.t 57) (.t 58)⟩, ⟨some 60, none, .bin .sub .leaf (.t 56) (.t 59)⟩, ⟨some 11, none, .mv (.t 60)⟩]) (.rg [⟨some 12, none, .mv (.k (.int .i64 1))⟩]))) .skip)) (.seq (.seq (.rg [⟨some 61, none, .mv (.t 8)⟩, ⟨some 62, none, .mv (.t 61)⟩, ⟨some 63, some (62, true), .mv (.t 9)⟩, ⟨some 64, none, .pick (.t 62) (.t 63) (.k (.bool false))⟩, ⟨some 65, none, .mv (.t 64)⟩, ⟨some 66, some (65, true), .mv (.t 12)⟩, ⟨some 67, some (65, true), .bin .eql .leaf (.t 66) (.k (.int .i64 1))⟩, ⟨some 68, none, .pick (.t 65) (.t 67) (.k (.bool false))⟩]) (.cond (.t 68) (.seq (.rg [⟨some 69, none, .mv (.t 0)⟩, ⟨some 70, none, .mv (.t 1)⟩, ⟨some 71, none, .mv (.t 2)⟩, ⟨some 72, none, .call 66 [.t 69, .t 70, .t 71]⟩]) (.cond (.t 72) .ret .skip)) .skip)) (.seq (.seq (.rd [(⟨some 73, none, .mv (.t 1)⟩, none), (⟨some 74, none, .bin .gtr .leaf (.t 73) (.k (.int .i64 0))⟩, none), (⟨some 75, none, .mv (.t 74)⟩, none), (⟨some 76, some (75, true), .mv (.t 0)⟩, none), (⟨some 77, some (75, true), .mv (.t 1)⟩, none), (⟨some 78, some (75, true), .bin .sub .leaf (.t 77) (.k (.int .i64 1))⟩, none), (⟨some 79, some (75, true), .ia 1 (.t 76) (.t 78)⟩, none), (⟨some 80, some (75, true), .ld 1 false (.t 79)⟩, none), (⟨some 81, some (75, true), .mv (.t 0)⟩, none), (⟨some 82, some (75, true), .mv (.t 11)⟩, none), (⟨some 83, some (75, true), .ia 1 (.t 81) (.t 82)⟩, none), (⟨some 84, some (75, true), .ld 1 false (.t 83)⟩, none), (⟨some 85, some (75, true), .call 67 [.t 80, .t 84]⟩, some []), (⟨some 86, some (75, true), .un .not (.t 85)⟩, none), (⟨some 87, none, .pick (.t 75) (.t 86) (.k (.bool false))⟩, none)]) (.cond (.t 87) (.seq (.rg [⟨some 88, none, .mv (.t 0)⟩, ⟨some 89, none, .mv (.t 1)⟩, ⟨some 90, none, .mv (.t 2)⟩, ⟨some 91, none, .mv (.t 11)⟩, ⟨some 92, none, .call 68 [.t 88, .t 89, .t 90, .t 91]⟩, ⟨some 13, none, .mv (.t 92)⟩]) (.seq (.rg [⟨some 93, none, .mv (.t 13)⟩, ⟨some 1, none, .mv (.t 93)⟩]) (.exit 1))) .skip)) (.seq (.rg [⟨some 95, none, .mv (.t 0)⟩, ⟨some 96, none, .mv (.t 1)⟩, ⟨some 97, none, .mv (.t 2)⟩, ⟨some 98, none, .mv (.t 11)⟩, ⟨some 99, none, .call 69 [.t 95, .t 96, .t 97, .t 98]⟩, ⟨some 94, none, .mv (.t 99)⟩, ⟨some 100, none, .ext 0 (.t 94)⟩, ⟨some 101, none, .ext 1 (.t 94)⟩, ⟨some 14, none, .mv (.t 100)⟩, ⟨some 15, none, .mv (.t 101)⟩]) (.seq (.rg [⟨some 102, none, .mv (.t 15)⟩, ⟨some 9, none, .mv (.t 102)⟩]) (.seq (.rg [⟨some 103, none, .mv (.t 14)⟩, ⟨some 104, none, .mv (.t 1)⟩, ⟨some 105, none, .bin .sub .leaf (.t 103) (.t 104)⟩, ⟨some 106, none, .mv (.t 2)⟩, ⟨some 107, none, .mv (.t 14)⟩, ⟨some 108, none, .bin .sub .leaf (.t 106) (.t 107)⟩, ⟨some 16, none, .mv (.t 105)⟩, ⟨some 17, none, .mv (.t 108)⟩]) (.seq (.rg [⟨some 109, none, .mv (.t 10)⟩, ⟨some 110, none, .bin .quo .leaf (.t 109) (.k (.int .i64 8))⟩, ⟨some 18, none, .mv (.t 110)⟩]) (.seq (.rg [⟨some 111, none, .mv (.t 16)⟩, ⟨some 112, none, .mv (.t 17)⟩, ⟨some 113, none, .bin .lss .leaf (.t 111) (.t 112)⟩]) (.cond (.t 113) (.seq (.rg [⟨some 114, none, .mv (.t 16)⟩, ⟨some 115, none, .mv (.t 18)⟩, ⟨some 116, none, .bin .geq .leaf (.t 114) (.t 115)⟩, ⟨some 8, none, .mv (.t 116)⟩]) (.seq (.rg [⟨some 117, none, .mv (.t 0)⟩, ⟨some 118, none, .mv (.t 1)⟩, ⟨some 119, none, .mv (.t 14)⟩, ⟨some 120, none, .mv (.t 3)⟩, ⟨some 121, none, .call 49 [.t 117, .t 118, .t 119, .t 120]⟩]) (.rg [⟨some 122, none, .mv (.t 14)⟩, ⟨some 123, none, .bin .add .leaf (.t 122) (.k (.int .i64 1))⟩, ⟨some 1, none, .mv (.t 123)⟩]))) (.seq (.rg [⟨some 124, none, .mv (.t 17)⟩, ⟨some 125, none, .mv (.t 18)⟩, ⟨some 126, none, .bin .geq .leaf (.t 124) (.t 125)⟩, ⟨some 8, none, .mv (.t 126)⟩]) (.seq (.rg [⟨some 127, none, .mv (.t 0)⟩, ⟨some 128, none, .mv (.t 14)⟩, ⟨some 129, none, .bin .add .leaf (.t 128) (.k (.int .i64 1))⟩, ⟨some 130, none, .mv (.t 2)⟩, ⟨some 131, none, .mv (.t 3)⟩, ⟨some 132, none, .call 49 [.t 127, .t 129, .t 130, .t 131]⟩]) (.rg [⟨some 133, none, .mv (.t 14)⟩, ⟨some 2, none, .mv (.t 133)⟩])))))))))))))))))))))⟩ := by kernel_rfl

def Makes (f : FuncId) (id n : Nat) (ds : List D) (d : Array Int) (G : D → Array Int → Prop) : Prop :=
  ∀ (S0 : List O) (tk : Tks), id < S0.length → ACalls E0 f (vec id n :: ds) (S0.set id (VI d)) tk (fun r' S' tk' => ∃ d', G r' d' ∧ S' = S0.set id (VI d') ∧ tk' = tk)
theorem Turns.makes {f : FuncId} {id n : Nat} {ds : List D} {d d' : Array Int} {r : D} {G : D → Array Int → Prop} (h : Turns f id n ds d r d') (hG : G r d') : Makes f id n ds d G :=
  fun S0 tk hid => (h S0 tk hid).mono fun r' S' tk' ⟨h1, h2, h3⟩ => ⟨d', h1 ▸ hG, h2, h3⟩

def Sorts (a b : Nat) (d d' : Array Int) : Prop := PermIn a b d d' ∧ SortedIn ltInt a b d'

theorem mIns (id n : Nat) (d : Array Int) (a b : Nat) (hd : d.size = n) (hab : a ≤ b) (hb : b ≤ n) (hn : n < 4611686018427387904) :
    Makes 61 id n [.int .i64 a, .int .i64 b] d (fun r d' => r = .tup [] ∧ Sorts a b d d') :=
  (insertionSort id n d a b hd hab hb hn).makes ⟨rfl, insertionSort_holds swo_ltInt d a b hab (by omega)⟩
theorem mHeap (id n : Nat) (d : Array Int) (a b : Nat) (hd : d.size = n) (hab : a ≤ b) (hb : b ≤ n) (hn : n < 4611686018427387904) :
    Makes 62 id n [.int .i64 a, .int .i64 b] d (fun r d' => r = .tup [] ∧ Sorts a b d d') :=
  (heapSort id n d a b hd hab hb hn).makes ⟨rfl, heapSort_holds swo_ltInt d a b hab (by omega)⟩
theorem mRev (id n : Nat) (d : Array Int) (a b : Nat) (hd : d.size = n) (hab : a < b) (hb : b ≤ n) (hn : n < 4611686018427387904) :
    Makes 65 id n [.int .i64 a, .int .i64 b] d (fun r d' => r = .tup [] ∧ PermIn a b d d') :=
  (reverseRange id n d a b hd hab hb hn).makes ⟨rfl, reverseRange_holds d a b (by omega) (by omega)⟩
theorem mPiv (id n : Nat) (d : Array Int) (a b : Nat) (hd : d.size = n) (hab : a < b) (hb : b ≤ n) (hn : n < 4611686018427387904) :
    Makes 64 id n [.int .i64 a, .int .i64 b] d (fun r d' => ∃ (p : Nat) (h : Int), r = .tup [.int .i64 p, .int .i64 h] ∧ d' = d ∧ a ≤ p ∧ p < b) :=
  (choosePivot id n d a b hd hab hb hn).makes ⟨_, _, rfl, rfl, choosePivot_holds ltInt d a b hab⟩
theorem mPar (id n : Nat) (d : Array Int) (a b : Nat) (hd : d.size = n) (hab : a < b) (hb : b ≤ n) (hn : n < 4611686018427387904) (hB : Below ltInt a b d) :
    Makes 66 id n [.int .i64 a, .int .i64 b] d (fun r d' => ∃ ok : Bool, r = .bool ok ∧ PermIn a b d d' ∧ (ok = true → SortedIn ltInt a b d')) :=
  (partialInsertionSort id n d a b hd hab hb hn).makes ⟨_, rfl, partialInsertionSort_holds swo_ltInt d a b hab (by omega) hB⟩
theorem mEq (id n : Nat) (d : Array Int) (a b p : Nat) (hd : d.size = n) (ha0 : 0 < a) (hap : a ≤ p) (hpb : p < b) (hb : b ≤ n) (hn : n < 4611686018427387904) (hB : Below ltInt a b d) (hnl : ltInt d[a - 1]! d[p]! = false) :
    Makes 68 id n [.int .i64 a, .int .i64 b, .int .i64 p] d (fun r d' => ∃ mid : Nat, r = .int .i64 mid ∧ a < mid ∧ mid ≤ b ∧ d'.size = n ∧ Below ltInt mid b d' ∧ ∀ R, PermIn mid b d' R → SortedIn ltInt mid b R → PermIn a b d R ∧ SortedIn ltInt a b R) := by
  obtain ⟨h1, h2, h3, h4, h5⟩ := round_eq swo_ltInt (partitionEqual_holds ltInt) ha0 hap hpb (by omega) hB hnl (mid := (Sort.partitionEqual ltInt d a b p).1) (d4 := (Sort.partitionEqual ltInt d a b p).2) rfl
  exact (partitionEqual id n d a b p hd hap hpb hb hn).makes ⟨_, rfl, h1, h2, by rw [h3, hd], h4, h5⟩
theorem mPart (id n : Nat) (d : Array Int) (a b p : Nat) (hd : d.size = n) (hap : a ≤ p) (hpb : p < b) (hb : b ≤ n) (hn : n < 4611686018427387904) (hB : Below ltInt a b d) :
    Makes 69 id n [.int .i64 a, .int .i64 b, .int .i64 p] d (fun r d' => ∃ (mid : Nat) (ap : Bool), r = .tup [.int .i64 mid, .bool ap] ∧ a ≤ mid ∧ mid < b ∧ d'.size = n ∧ Below ltInt a mid d' ∧ Below ltInt (mid + 1) b d' ∧
      (∀ L, PermIn a mid d' L → SortedIn ltInt a mid L → Below ltInt (mid + 1) b L ∧ ∀ R, PermIn (mid + 1) b L R → SortedIn ltInt (mid + 1) b R → PermIn a b d R ∧ SortedIn ltInt a b R) ∧
      (∀ L, PermIn (mid + 1) b d' L → SortedIn ltInt (mid + 1) b L → Below ltInt a mid L ∧ ∀ R, PermIn a mid L R → SortedIn ltInt a mid R → PermIn a b d R ∧ SortedIn ltInt a b R)) := by
  obtain ⟨h1, h2, h3, h4, h5, h6, h7⟩ := round_part swo_ltInt (partition_holds ltInt) hap hpb (by omega) hB (mid := (Sort.partition ltInt d a b p).1) (ap := (Sort.partition ltInt d a b p).2.1) (d4 := (Sort.partition ltInt d a b p).2.2) rfl
  exact (partition id n d a b p hd hap hpb hb hn).makes ⟨_, _, rfl, h1, h2, by rw [h3, hd], h4, h5, h6, h7⟩

structure SP where
  d : Array Int
  a : Nat
  b : Nat
  l : Nat
  w : Bool
  v : Bool
structure SR where
  d : Array Int
  w : Bool
  v : Bool
structure SQ where
  d : Array Int
  l : Nat
  p : Nat
  h : Int

set_option maxHeartbeats 8000000 in
theorem pdqsort_of (id n : Nat) (hn : n < 4611686018427387904) (hbrk : ∀ (d : Array Int) (a b : Nat), d.size = n → a < b → b ≤ n → Makes 63 id n [.int .i64 a, .int .i64 b] d (fun r d' => r = .tup [] ∧ PermIn a b d d')) :
    ∀ (k : Nat) (d : Array Int) (a b l : Nat), d.size = n → a ≤ b → b ≤ n → b - a ≤ k → l < 4611686018427387904 → Below ltInt a b d →
      Makes 49 id n [.int .i64 a, .int .i64 b, .int .i64 l] d (fun r d' => r = .tup [] ∧ Sorts a b d d') := by
  intro k
  induction k using Nat.strongRecOn with
  | _ k ih =>
  intro d a b l hd hab hb hk hl hBe S0 tk hid
  refine ACalls.fgoC c49 rfl [9, 13, 17] rfl fun hS => ?_
  repeat' first | with_reducible refine fzD_ite (fun q => ?_) (fun q => ?_) | ((try conv => whnf); first | refine bs_d (fun q => ?_) (fun q => ?_) | refine bs_n ?_ | refine bs_i (fun q => ?_) (fun q => ?_) | refine eqk rfl ?_ | refine ffin _ rfl rfl hS (Sub.refl _) rfl ⟨?_, rfl, rfl⟩)
  refine floopS (α := SP) rfl (fun s => s.d.size = n ∧ s.a ≤ s.b ∧ s.b ≤ n ∧ s.b - s.a ≤ k ∧ s.l < 4611686018427387904 ∧ Below ltInt s.a s.b s.d ∧ ∀ R, PermIn s.a s.b s.d R → SortedIn ltInt s.a s.b R → Sorts a b d R) (fun s => s.b - s.a) (fun s => [(0, .d (vec id n)), (1, .d (.int .i64 s.a)), (2, .d (.int .i64 s.b)), (3, .d (.int .i64 s.l)), (8, .d (.bool s.w)), (9, .d (.bool s.v))])
    (fun s => S0.set id (VI s.d)) (fun _ => []) (fun _ => []) (fun s _ => ⟨by simp, osc_VO' kE _ hS⟩) ⟨d, a, b, l, true, true⟩ ⟨hd, hab, hb, hk, hl, hBe, fun R h1 h2 => ⟨h1, h2⟩⟩ rfl (fstep_sub ⟨Sub.refl _, Sub.refl _, Sub.refl _, Sub.refl _, Sub.refl _, Sub.refl _, trivial⟩) ?_
  rintro s ⟨h1, h2, h3, h4, h5, h6, hcl⟩
  repeat' first | with_reducible refine fzD_ite (fun q => ?_) (fun q => ?_) | ((try conv => whnf); first | refine bs_d (fun q => ?_) (fun q => ?_) <;> (try simp (disch := ((try unfold I64); omega)) only [wi64_id, td] at q) | refine bs_n ?_ | refine bs_i (fun q => ?_) (fun q => ?_) | (refine ckVE hid (List.length_set ..).symm rfl (mIns id n s.d s.a s.b h1 h2 h3 hn) (SubL.refl _) (fun r dq hG => ?_); obtain ⟨rfl, hq⟩ := hG; have HF := hq) | (refine ckVE hid (List.length_set ..).symm rfl (mHeap id n s.d s.a s.b h1 h2 h3 hn) (SubL.refl _) (fun r dq hG => ?_); obtain ⟨rfl, hq⟩ := hG; have HF := hq) | refine ffin _ (by simp) rfl (osc_VO' kE _ hS) (Sub.refl _) rfl ⟨_, ⟨rfl, ?_⟩, rfl, rfl⟩ | refine eqk rfl ?_ | refine ffin _ rfl rfl hS (Sub.refl _) rfl ⟨?_, rfl, rfl⟩)
  · exact hcl _ HF.1 HF.2
  · exact hcl _ HF.1 HF.2
  refine fcut (α := SQ) rfl (fun u => u.d.size = n ∧ u.l < 4611686018427387904 ∧ Below ltInt s.a s.b u.d ∧ PermIn s.a s.b s.d u.d) (fun u => [(3, .d (.int .i64 u.l)), (0, .d (vec id n)), (1, .d (.int .i64 s.a)), (2, .d (.int .i64 s.b)), (8, .d (.bool s.w)), (9, .d (.bool s.v)), (10, .d (.int .i64 ((s.b : Int) - s.a)))]) (fun u => S0.set id (VI u.d)) (fun _ => []) (fun _ => []) (fun u _ => ⟨by simp, osc_VO' kE _ hS⟩) ?_ ?_
  · have HZ := h1
    have HB := h6
    have HP := permIn_refl s.d s.a s.b
    repeat' first | with_reducible refine fzD_ite (fun q => ?_) (fun q => ?_) | ((try conv => whnf); first | refine bs_t (by assumption) ?_ | refine bs_f (by assumption) ?_ | refine bs_d (fun q => ?_) (fun q => ?_) <;> (try simp (disch := ((try unfold I64); omega)) only [wi64_id, td] at q) | refine bs_n ?_ | refine bs_i (fun q => ?_) (fun q => ?_) | (refine ckVE hid (List.length_set ..).symm rfl (hbrk s.d s.a s.b h1 (by omega) h3) (SubL.refl _) (fun r dq hG => ?_); obtain ⟨rfl, hq⟩ := hG; have HZ := hq.1.trans HZ; have HB := HB.perm (by omega) hq; have HP := permIn_trans _ _ _ _ _ HP hq) | refine eqk rfl ?_ | refine ffin _ rfl rfl hS (Sub.refl _) rfl ⟨?_, rfl, rfl⟩)
    · exact fcnext (α := SQ) ⟨_, s.l, 0, 0⟩ ⟨h1, h5, h6, HP⟩ rfl (fstep_sub ⟨Sub.refl _, Sub.refl _, Sub.refl _, Sub.refl _, Sub.of (by rw [q]; rfl), Sub.refl _, Sub.int (by first | rfl | omega | (refine Int.sub_eq_zero.mp ?_; simp (disch := ((try unfold I64); omega)) only [wi64_id, td]; omega)), trivial⟩)
    · exact fcnext (α := SQ) ⟨dq, s.l - 1, 0, 0⟩ ⟨HZ, by simp only; omega, HB, HP⟩ rfl (fstep_sub ⟨Sub.int (by first | rfl | omega | (refine Int.sub_eq_zero.mp ?_; simp (disch := ((try unfold I64); omega)) only [wi64_id, td]; omega)), Sub.refl _, Sub.refl _, Sub.refl _, Sub.of (by rw [q]; rfl), Sub.refl _, Sub.int (by first | rfl | omega | (refine Int.sub_eq_zero.mp ?_; simp (disch := ((try unfold I64); omega)) only [wi64_id, td]; omega)), trivial⟩)
  rintro t ⟨HZ, HL, HB, HP⟩
  have hlen : 12 < s.b - s.a := by omega
  repeat' first | with_reducible refine fzD_ite (fun q => ?_) (fun q => ?_) | ((try conv => whnf); first | refine bs_d (fun q => ?_) (fun q => ?_) <;> (try simp (disch := ((try unfold I64); omega)) only [wi64_id, td] at q) | refine bs_n ?_ | refine bs_i (fun q => ?_) (fun q => ?_) | (refine ckVE hid (List.length_set ..).symm rfl (mPiv id n _ s.a s.b HZ (by omega) h3 hn) (SubL.refl _) (fun r dq hG => ?_); obtain ⟨p, h, rfl, rfl, p1, p2⟩ := hG; skip) | refine eqk rfl ?_ | refine ffin _ rfl rfl hS (Sub.refl _) rfl ⟨?_, rfl, rfl⟩)
  refine fcut (α := SQ) rfl (fun u => u.d.size = n ∧ u.l < 4611686018427387904 ∧ Below ltInt s.a s.b u.d ∧ PermIn s.a s.b s.d u.d ∧ s.a ≤ u.p ∧ u.p < s.b) (fun u => [(3, .d (.int .i64 u.l)), (11, .d (.int .i64 u.p)), (12, .d (.int .i64 u.h)), (0, .d (vec id n)), (1, .d (.int .i64 s.a)), (2, .d (.int .i64 s.b)), (8, .d (.bool s.w)), (9, .d (.bool s.v)), (10, .d (.int .i64 ((s.b : Int) - s.a)))]) (fun u => S0.set id (VI u.d)) (fun _ => []) (fun _ => []) (fun u _ => ⟨by simp, osc_VO' kE _ hS⟩) ?_ ?_
  · skip
    repeat' first | with_reducible refine fzD_ite (fun q => ?_) (fun q => ?_) | ((try conv => whnf); first | refine bs_d (fun q => ?_) (fun q => ?_) <;> (try simp (disch := ((try unfold I64); omega)) only [wi64_id, td] at q) | refine bs_n ?_ | refine bs_i (fun q => ?_) (fun q => ?_) | (refine ckVE hid (List.length_set ..).symm rfl (mRev id n _ s.a s.b HZ (by omega) h3 hn) (SubL.refl _) (fun r dq hG => ?_); obtain ⟨rfl, hq⟩ := hG; have HZ := hq.1.trans HZ; have HB := HB.perm (by omega) hq; have HP := permIn_trans _ _ _ _ _ HP hq) | refine eqk rfl ?_ | refine ffin _ rfl rfl hS (Sub.refl _) rfl ⟨?_, rfl, rfl⟩)
    · exact fcnext (α := SQ) ⟨dq, t.l, s.b - 1 - (p - s.a), 1⟩ ⟨HZ, HL, HB, HP, by simp only; omega, by simp only; omega⟩ rfl (fstep_sub ⟨Sub.refl _, Sub.int (by first | rfl | omega | (refine Int.sub_eq_zero.mp ?_; simp (disch := ((try unfold I64); omega)) only [wi64_id, td]; omega)), Sub.refl _, Sub.refl _, Sub.refl _, Sub.refl _, Sub.refl _, Sub.refl _, Sub.refl _, trivial⟩)
    · exact fcnext (α := SQ) ⟨_, t.l, p, h⟩ ⟨HZ, HL, HB, HP, p1, p2⟩ rfl (fstep_sub ⟨Sub.refl _, Sub.refl _, Sub.refl _, Sub.refl _, Sub.refl _, Sub.refl _, Sub.refl _, Sub.refl _, Sub.refl _, trivial⟩)
  rintro u ⟨HZ, HL, HB, HP, p1, p2⟩
  refine fcut (α := SR) rfl (fun e => e.d.size = n ∧ Below ltInt s.a s.b e.d ∧ PermIn s.a s.b s.d e.d) (fun e => [(3, .d (.int .i64 u.l)), (11, .d (.int .i64 u.p)), (0, .d (vec id n)), (1, .d (.int .i64 s.a)), (2, .d (.int .i64 s.b)), (8, .d (.bool e.w)), (9, .d (.bool e.v)), (10, .d (.int .i64 ((s.b : Int) - s.a)))]) (fun e => S0.set id (VI e.d)) (fun _ => []) (fun _ => []) (fun e _ => ⟨by simp, osc_VO' kE _ hS⟩) ?_ ?_
  · skip
    repeat' first | with_reducible refine fzD_ite (fun q => ?_) (fun q => ?_) | ((try conv => whnf); first | refine bs_d (fun q => ?_) (fun q => ?_) <;> (try simp (disch := ((try unfold I64); omega)) only [wi64_id, td] at q) | refine bs_n ?_ | refine bs_i (fun q => ?_) (fun q => ?_) | (refine ckVE hid (List.length_set ..).symm rfl (mPar id n _ s.a s.b HZ (by omega) h3 hn HB) (SubL.refl _) (fun r dq hG => ?_); obtain ⟨ok, rfl, hq, hs⟩ := hG; have HZ := hq.1.trans HZ; have HB := HB.perm (by omega) hq; have HP := permIn_trans _ _ _ _ _ HP hq) | refine ffin _ (by simp) rfl (osc_VO' kE _ hS) (Sub.refl _) rfl ⟨_, ⟨rfl, hcl _ HP (hs (by assumption))⟩, rfl, rfl⟩ | refine eqk rfl ?_ | refine ffin _ rfl rfl hS (Sub.refl _) rfl ⟨?_, rfl, rfl⟩)
    all_goals exact fcnext (α := SR) ⟨_, _, _⟩ ⟨HZ, HB, HP⟩ rfl (fstep_sub ⟨Sub.refl _, Sub.refl _, Sub.refl _, Sub.refl _, Sub.refl _, Sub.refl _, Sub.refl _, Sub.refl _, trivial⟩)
  rintro e ⟨HZ, HB, HP⟩
  repeat' first | with_reducible refine fzD_ite (fun q => ?_) (fun q => ?_) | ((try conv => whnf); first | refine bs_d (fun q => ?_) (fun q => ?_) <;> (try simp (disch := ((try unfold I64); omega)) only [wi64_id, td] at q) | refine bs_n ?_ | refine bs_i (fun q => ?_) (fun q => ?_) | refine ckz (less _ _) ?_ | refine cq (less _ _) ?_ | refine pK_i (iaD_vecN (k := s.a - 1) (by first | rfl | omega | (refine Int.sub_eq_zero.mp ?_; simp (disch := ((try unfold I64); omega)) only [wi64_id, td]; omega)) (by omega)) ?_ | refine pK_i (iaD_vecN (k := u.p) (by first | rfl | omega | (refine Int.sub_eq_zero.mp ?_; simp (disch := ((try unfold I64); omega)) only [wi64_id, td]; omega)) (by omega)) ?_ | refine pK_i (ldV_VO kE hid HZ (by omega)) ?_ | (refine ckVE hid (List.length_set ..).symm rfl (mEq id n _ s.a s.b u.p HZ (by omega) p1 p2 h3 hn HB (ltf (by omega))) (SubL.refl _) (fun r dq hG => ?_); obtain ⟨mid, rfl, m1, m2, HZ, HB, cc⟩ := hG; skip) | (refine ckVE hid (List.length_set ..).symm rfl (mPart id n _ s.a s.b u.p HZ p1 p2 h3 hn HB) (SubL.refl _) (fun r dq hG => ?_); obtain ⟨mid, ap, rfl, m1, m2, HZ, B1, B2, c1, c2⟩ := hG; skip) | (refine ckVE hid (List.length_set ..).symm rfl (ih (mid - s.a) (by omega) _ s.a mid u.l HZ m1 (by omega) (Nat.le_refl _) (by omega) B1) (SubL.refl _) (fun r dr hG => ?_); obtain ⟨rfl, hq⟩ := hG; have HZ := hq.1.1.trans HZ; have cc := (c1 _ hq.1 hq.2).2; have HB := (c1 _ hq.1 hq.2).1) | (refine ckVE hid (List.length_set ..).symm rfl (ih (s.b - (mid + 1)) (by omega) _ (mid + 1) s.b u.l HZ (by omega) (by omega) (Nat.le_refl _) (by omega) B2) (.cons (Sub.refl _) (.cons (Sub.int (by first | rfl | omega | (refine Int.sub_eq_zero.mp ?_; simp (disch := ((try unfold I64); omega)) only [wi64_id, td]; omega))) (SubL.refl _))) (fun r dr hG => ?_); obtain ⟨rfl, hq⟩ := hG; have HZ := hq.1.1.trans HZ; have cc := (c2 _ hq.1 hq.2).2; have HB := (c2 _ hq.1 hq.2).1) | refine eqk rfl ?_ | refine ffin _ rfl rfl hS (Sub.refl _) rfl ⟨?_, rfl, rfl⟩)
  all_goals first
    | exact fnextS (α := SP) ⟨dr, mid + 1, s.b, u.l, _, _⟩ ⟨HZ, by simp only; omega, h3, by simp only; omega, HL, HB, fun R r1 r2 => hcl R (permIn_trans _ _ _ _ _ HP (cc R r1 r2).1) (cc R r1 r2).2⟩ (by simp only; omega) rfl (fstep_sub ⟨Sub.refl _, Sub.int (by first | rfl | omega | (refine Int.sub_eq_zero.mp ?_; simp (disch := ((try unfold I64); omega)) only [wi64_id, td]; omega)), Sub.refl _, Sub.refl _, Sub.refl _, Sub.refl _, trivial⟩)
    | exact fnextS (α := SP) ⟨dr, s.a, mid, u.l, _, _⟩ ⟨HZ, m1, by simp only; omega, by simp only; omega, HL, HB, fun R r1 r2 => hcl R (permIn_trans _ _ _ _ _ HP (cc R r1 r2).1) (cc R r1 r2).2⟩ (by simp only; omega) rfl (fstep_sub ⟨Sub.refl _, Sub.refl _, Sub.refl _, Sub.refl _, Sub.refl _, Sub.refl _, trivial⟩)
    | exact fnextS (α := SP) ⟨dq, mid, s.b, u.l, _, _⟩ ⟨HZ, m2, h3, by simp only; omega, HL, HB, fun R r1 r2 => hcl R (permIn_trans _ _ _ _ _ HP (cc R r1 r2).1) (cc R r1 r2).2⟩ (by simp only; omega) rfl (fstep_sub ⟨Sub.refl _, Sub.refl _, Sub.refl _, Sub.refl _, Sub.refl _, Sub.refl _, trivial⟩)
theorem c63 : cFun E0.P 63 = some ⟨65, [], .seq (.rg [⟨some 11, none, .mv (.t 2)⟩, ⟨some 12, none, .mv (.t 1)⟩, ⟨some 13, none, .bin .sub .leaf (.t 11) (.t 12)⟩, ⟨some 6, none, .mv (.t 13)⟩]) (.seq (.rg [⟨some 14, none, .mv (.t 6)⟩, ⟨some 15, none, .bin .geq .leaf (.t 14) (.k (.int .i64 8))⟩]) (.cond (.t 15) (.seq (.rg [⟨some 16, none, .mv (.t 6)⟩, ⟨some 17, none, .conv .u64 (.t 16)⟩, ⟨some 7, none, .alloc [.int .u64 0] 132⟩, ⟨none, none, .st 1 (.t 7) (.t 17)⟩]) (.seq (.rg [⟨some 18, none, .mv (.t 6)⟩, ⟨some 19, none, .call 71 [.t 18]⟩, ⟨some 8, none, .mv (.t 19)⟩]) (.seq (.rg [⟨some 20, none, .mv (.t 1)⟩, ⟨some 21, none, .mv (.t 6)⟩, ⟨some 22, none, .bin .quo .leaf (.t 21) (.k (.int .i64 4))⟩, ⟨some 23, none, .bin .mul .leaf (.t 22) (.k (.int .i64 2))⟩, ⟨some 24, none, .bin .add .leaf (.t 20) (.t 23)⟩, ⟨some 25, none, .bin .sub .leaf (.t 24) (.k (.int .i64 1))⟩, ⟨some 9, none, .mv (.t 25)⟩]) (.block 0 (.loop (.seq (.seq (.rg [⟨some 26, none, .mv (.t 9)⟩, ⟨some 27, none, .mv (.t 1)⟩, ⟨some 28, none, .mv (.t 6)⟩, ⟨some 29, none, .bin .quo .leaf (.t 28) (.k (.int .i64 4))⟩, ⟨some 30, none, .bin .mul .leaf (.t 29) (.k (.int .i64 2))⟩, ⟨some 31, none, .bin .add .leaf (.t 27) (.t 30)⟩, ⟨some 32, none, .bin .add .leaf (.t 31) (.k (.int .i64 1))⟩, ⟨some 33, none, .bin .leq .leaf (.t 26) (.t 32)⟩]) (.cond (.t 33) .skip (.exit 0))) (.seq (.block 1 (.seq (.rg [⟨some 36, none, .call 72 [.t 7]⟩, ⟨some 37, none, .mv (.t 8)⟩, ⟨some 38, none, .bin .sub .leaf (.t 37) (.k (.int .u64 1))⟩, ⟨some 39, none, .bin .and .leaf (.t 36) (.t 38)⟩, ⟨some 40, none, .conv .i64 (.t 39)⟩, ⟨some 10, none, .mv (.t 40)⟩]) (.seq (.seq (.rg [⟨some 41, none, .mv (.t 10)⟩, ⟨some 42, none, .mv (.t 6)⟩, ⟨some 43, none, .bin .geq .leaf (.t 41) (.t 42)⟩]) (.cond (.t 43) (.rg [⟨some 44, none, .mv (.t 10)⟩, ⟨some 45, none, .mv (.t 6)⟩, ⟨some 46, none, .bin .sub .leaf (.t 44) (.t 45)⟩, ⟨some 10, none, .mv (.t 46)⟩]) .skip)) (.rd [(⟨some 47, none, .mv (.t 0)⟩, none), (⟨some 48, none, .mv (.t 9)⟩, none), (⟨some 49, none, .mv (.t 0)⟩, none), (⟨some 50, none, .mv (.t 1)⟩, none), (⟨some 51, none, .mv (.t 10)⟩, none), (⟨some 52, none, .bin .add .leaf (.t 50) (.t 51)⟩, none), (⟨some 53, none, .mv (.t 0)⟩, none), (⟨some 54, none, .mv (.t 1)⟩, none), (⟨some 55, none, .mv (.t 10)⟩, none), (⟨some 56, none, .bin .add .leaf (.t 54) (.t 55)⟩, none), (⟨some 57, none, .ia 1 (.t 53) (.t 56)⟩, none), (⟨some 58, none, .ld 1 false (.t 57)⟩, none), (⟨some 59, none, .mv (.t 0)⟩, none), (⟨some 60, none, .mv (.t 9)⟩, none), (⟨some 61, none, .ia 1 (.t 59) (.t 60)⟩, none), (⟨some 62, none, .ld 1 false (.t 61)⟩, none), (⟨some 63, none, .ia 1 (.t 47) (.t 48)⟩, none), (⟨none, none, .st 1 (.t 63) (.t 58)⟩, some []), (⟨some 64, none, .ia 1 (.t 49) (.t 52)⟩, none), (⟨none, none, .st 1 (.t 64) (.t 62)⟩, some [])])))) (.rg [⟨some 34, none, .mv (.t 9)⟩, ⟨some 35, none, .bin .add .leaf (.t 34) (.k (.int .i64 1))⟩, ⟨some 9, none, .mv (.t 35)⟩])))))))) .skip))⟩ := by kernel_rfl
theorem c40 : cFun E0.P 40 = some ⟨11, [], .seq (.rg [⟨some 3, none, .mv (.t 0)⟩, ⟨some 4, none, .len 1 (.t 3)⟩, ⟨some 2, none, .mv (.t 4)⟩]) (.rg [⟨some 5, none, .mv (.t 0)⟩, ⟨some 6, none, .mv (.t 2)⟩, ⟨some 7, none, .mv (.t 2)⟩, ⟨some 8, none, .conv .u64 (.t 7)⟩, ⟨some 9, none, .call 44 [.t 8]⟩, ⟨some 10, none, .call 49 [.t 5, .k (.int .i64 0), .t 6, .t 9]⟩])⟩ := by kernel_rfl

structure SX where
  d : Array Int
  i : Nat
  x : Int
set_option maxHeartbeats 4000000 in
theorem breakP (id n : Nat) (d : Array Int) (a b : Nat) (hd : d.size = n) (hab : a < b) (hb : b ≤ n) (hn : n < 4611686018427387904) :
    Makes 63 id n [.int .i64 a, .int .i64 b] d (fun r d' => r = .tup [] ∧ PermIn a b d d') := by
  intro S0 tk hid
  refine ACalls.fgo c63 rfl fun hS => ?_
  have hp2 := two_pow_bitsLen_le (n := b - a) (by omega)
  have hp0 : 0 < 2 ^ bitsLen (b - a) := Nat.two_pow_pos _
  have hpow := nextPow (b - a) (by omega)
  obtain ⟨M, hM⟩ : ∃ M : Nat, M = 2 ^ bitsLen (b - a) := ⟨_, rfl⟩
  rw [← hM] at hp2 hp0 hpow
  have hl : (S0.set id (VI d)).length = S0.length := List.length_set ..
  repeat' first | with_reducible refine fzD_ite (fun q => ?_) (fun q => ?_) | ((try conv => whnf); first | refine bs_d (fun q => ?_) (fun q => ?_) <;> (try simp (disch := ((try unfold I64); omega)) only [wi64_id, td] at q) | refine bs_n ?_ | refine bs_i (fun q => ?_) (fun q => ?_) | refine ckS (by first | rfl | simp) rfl hpow (.cons (Sub.int (by first | rfl | omega | (refine Int.sub_eq_zero.mp ?_; simp (disch := ((try unfold I64); omega)) only [wi64_id, td]; omega))) .nil) ?_ | refine ffin _ (by simp) rfl (osc_VO' kE _ hS) (Sub.refl _) rfl ⟨_, ⟨rfl, permIn_refl _ _ _⟩, rfl, rfl⟩ | refine eqk rfl ?_ | refine ffin _ rfl rfl hS (Sub.refl _) rfl ⟨?_, rfl, rfl⟩)
  refine floopS (α := SX) rfl (fun s => s.d.size = n ∧ PermIn a b d s.d ∧ a + (b - a) / 4 * 2 ≤ s.i + 1 ∧ s.i ≤ a + (b - a) / 4 * 2 + 2) (fun s => b + 2 - s.i) (fun s => [(9, .d (.int .i64 s.i)), (1, .d (.int .i64 a)), (6, .d (.int .i64 ((b - a : Nat) : Int))), (0, .d (vec id n)), (7, .lp 0 0), (8, .d (.int .u64 M))])
    (fun s => S0.set id (VI s.d)) (fun s => [.arr [.int .u64 s.x]]) (fun _ => []) (fun s _ => ⟨by simp, osc_VO' kE _ hS⟩) ⟨d, a + (b - a) / 4 * 2 - 1, _⟩ ⟨hd, permIn_refl _ _ _, by simp only; omega, by simp only; omega⟩ rfl (fstep_sub ⟨Sub.int (by first | rfl | omega | (refine Int.sub_eq_zero.mp ?_; simp (disch := ((try unfold I64); omega)) only [wi64_id, td]; omega)), Sub.refl _, Sub.int (by first | rfl | omega | (refine Int.sub_eq_zero.mp ?_; simp (disch := ((try unfold I64); omega)) only [wi64_id, td]; omega)), Sub.refl _, Sub.refl _, Sub.refl _, trivial⟩) ?_
  rintro s ⟨h1, h2, h3, h4⟩
  repeat' first | with_reducible refine fzD_ite (fun q => ?_) (fun q => ?_) | ((try conv => whnf); first | (refine bs_d (fun q => ?_) (fun q => ?_) <;> (rw [hz] at q; try simp (disch := ((try unfold I64); omega)) only [wi64_id, td] at q)) | refine bs_d (fun q => ?_) (fun q => ?_) <;> (try simp (disch := ((try unfold I64); omega)) only [wi64_id, td] at q) | refine bs_n ?_ | refine bs_i (fun q => ?_) (fun q => ?_) | (refine ckJE (k := 0) (by simp) rfl (next s.x _ _ _ (at_own (by simp) rfl)) (SubL.refl _) (fun r o' hG => ?_); obtain ⟨y, y0, y1, rfl, rfl⟩ := hG; obtain ⟨z, hz, hzM⟩ := andz y0 y1 hp0 (by omega)) | refine pK_i (iaD_vecN (k := s.i) (by first | rfl | omega | (refine Int.sub_eq_zero.mp ?_; simp (disch := ((try unfold I64); omega)) only [wi64_id, td]; omega)) (by omega)) ?_ | refine pK_i (iaD_vecN (k := a + z) (by rw [hz]; simp (disch := ((try unfold I64); omega)) only [wi64_id, td]; omega) (by omega)) ?_ | refine pK_i (iaD_vecN (k := a + (z - (b - a))) (by rw [hz]; simp (disch := ((try unfold I64); omega)) only [wi64_id, td]; omega) (by omega)) ?_ | refine pK_i (ldV_VO kE hid h1 (by omega)) ?_ | refine gk_stVO kE hid (List.length_set ..).symm rfl rfl (by simpa using h1) (by omega) rfl ?_ | refine ffin _ (by simp) rfl (osc_VO' kE _ hS) (Sub.refl _) rfl ⟨_, ⟨rfl, h2⟩, rfl, rfl⟩ | refine eqk rfl ?_ | refine ffin _ rfl rfl hS (Sub.refl _) rfl ⟨?_, rfl, rfl⟩)
  · exact fnextS (α := SX) ⟨swp s.d s.i (a + (z - (b - a))), s.i + 1, y⟩ ⟨by rw [size_swp']; exact h1, permIn_trans _ _ _ _ _ h2 (swp_permIn s.d a b s.i _ (by omega) (by omega) (by omega) (by omega) (by omega)), by simp only; omega, by simp only; omega⟩ (by simp only; omega) rfl (fstep_sub ⟨Sub.int (by first | rfl | omega | (refine Int.sub_eq_zero.mp ?_; simp (disch := ((try unfold I64); omega)) only [wi64_id, td]; omega)), Sub.refl _, Sub.refl _, Sub.refl _, Sub.refl _, Sub.refl _, trivial⟩)
  · exact fnextS (α := SX) ⟨swp s.d s.i (a + z), s.i + 1, y⟩ ⟨by rw [size_swp']; exact h1, permIn_trans _ _ _ _ _ h2 (swp_permIn s.d a b s.i _ (by omega) (by omega) (by omega) (by omega) (by omega)), by simp only; omega, by simp only; omega⟩ (by simp only; omega) rfl (fstep_sub ⟨Sub.int (by first | rfl | omega | (refine Int.sub_eq_zero.mp ?_; simp (disch := ((try unfold I64); omega)) only [wi64_id, td]; omega)), Sub.refl _, Sub.refl _, Sub.refl _, Sub.refl _, Sub.refl _, trivial⟩)

theorem sortV (id n : Nat) (d : Array Int) (hd : d.size = n) (hn : n < 4611686018427387904) : Makes 40 id n [] d (fun r d' => r = .tup [] ∧ Sorts 0 n d d') := by
  intro S0 tk hid
  have hk : bitsLen n ≤ 62 := (bitsLen_le_iff n 62).2 (by omega)
  refine ACalls.fgo c40 rfl fun hS => ?_
  repeat' first | with_reducible refine fzD_ite (fun q => ?_) (fun q => ?_) | ((try conv => whnf); first | refine bs_d (fun q => ?_) (fun q => ?_) <;> (try simp (disch := ((try unfold I64); omega)) only [wi64_id, td] at q) | refine bs_n ?_ | refine bs_i (fun q => ?_) (fun q => ?_) | refine ckS (by first | rfl | simp) rfl (len n hn) (.cons (Sub.int (by rw [wu64_id]; unfold U64; omega)) .nil) ?_ | (refine ckVE hid (List.length_set ..).symm rfl (pdqsort_of id n hn (fun d a b h1 h2 h3 => breakP id n d a b h1 h2 h3 hn) n d 0 n (bitsLen n) hd (Nat.zero_le _) (Nat.le_refl _) (Nat.le_refl _) (by omega) (Or.inl rfl)) (.cons (Sub.refl _) (.cons (Sub.int (by first | rfl | omega | (refine Int.sub_eq_zero.mp ?_; simp (disch := ((try unfold I64); omega)) only [wi64_id, td]; omega))) (.cons (Sub.int (by first | rfl | omega | (refine Int.sub_eq_zero.mp ?_; simp (disch := ((try unfold I64); omega)) only [wi64_id, td]; omega))) (SubL.refl _)))) (fun r dq hG => ?_); obtain ⟨rfl, hq⟩ := hG; skip) | refine ffin _ (by simp) rfl (osc_VO' kE _ hS) (Sub.refl _) rfl ⟨_, ⟨rfl, hq⟩, rfl, rfl⟩ | refine eqk rfl ?_ | refine ffin _ rfl rfl hS (Sub.refl _) rfl ⟨?_, rfl, rfl⟩)
theorem c29 : cFun E0.P 29 = some ⟨9, [(2, none)], .seq (.rg [⟨some 2, none, .mv (.k .nilsl)⟩]) (.seq (.rg [⟨some 4, none, .mv (.t 0)⟩, ⟨some 5, none, .call 39 [.t 4]⟩, ⟨some 3, none, .mv (.t 5)⟩]) (.seq (.rg [⟨some 6, none, .mv (.t 3)⟩, ⟨some 7, none, .call 40 [.t 6]⟩]) (.seq (.rg [⟨some 8, none, .mv (.t 3)⟩, ⟨some 2, none, .mv (.t 8)⟩]) .ret)))⟩ := by kernel_rfl
theorem c39 : cFun E0.P 39 = some ⟨5, [(2, none)], .seq (.rg [⟨some 2, none, .mv (.k .nilsl)⟩]) (.seq (.rg [⟨some 3, none, .mv (.t 0)⟩, ⟨some 4, none, .call 48 [.k .nilsl, .t 3]⟩, ⟨some 2, none, .mv (.t 4)⟩]) .ret)⟩ := by kernel_rfl
theorem c48 : cFun E0.P 48 = some ⟨13, [(4, none)], .seq (.rg [⟨some 2, none, .box (.t 0) 48⟩, ⟨some 4, none, .mv (.k .nilsl)⟩]) (.seq (.seq (.rg [⟨some 6, none, .mv (.t 1)⟩]) (.block 0 (.rfn (.t 6) [7] (.rg [⟨some 5, none, .mv (.t 7)⟩]) (.block 1 (.rg [⟨some 8, none, .ld 1 false (.t 2)⟩, ⟨some 9, none, .mv (.t 5)⟩, ⟨some 10, none, .buildS 1 1 [.int .u64 0] [(0, .t 9)] 25⟩, ⟨some 11, none, .app 48 25 1 8 [.int .u64 0] (.t 8) (.t 10)⟩, ⟨none, none, .st 1 (.t 2) (.t 11)⟩])) (Array.mk [7], Code.region 2 (Array.mk [Oper.mk (some 5) (Op.assign (Operand.tmp 7)) 25 "iter.go:51" (Array.mk []) none]) false, Code.block 1 (Code.region 3 (Array.mk [Oper.mk (some 8) (Op.load 48 (Operand.tmp 2)) 48 "iter.go:52" (Array.mk []) none, Oper.mk (some 9) (Op.move (Operand.tmp 5)) 25 "iter.go:52" (Array.mk []) none, Oper.mk (some 10) (Op.buildSlice 48 1 (Array.mk [(0, Operand.tmp 9)])) 48 "iter.go:52" (Array.mk [Edge.mk 1 Ground.data]) none, Oper.mk (some 11) (Op.call (Call.mk (Callee.builtin Builtin.append) (Array.mk [Operand.tmp 8, Operand.tmp 10]) (Array.mk [48, 48]))) 48 "iter.go:52" (Array.mk [Edge.mk 0 Ground.data, Edge.mk 2 Ground.data]) none, Oper.mk none (Op.store 48 (Operand.tmp 2) (Operand.tmp 11)) 0 "iter.go:52" (Array.mk [Edge.mk 3 Ground.data, Edge.mk 3 Ground.chain, Edge.mk 0 Ground.phase, Edge.mk 1 Ground.phase, Edge.mk 2 Ground.phase, Edge.mk 3 Ground.phase]) none]) false))))) (.seq (.rg [⟨some 12, none, .ld 1 false (.t 2)⟩, ⟨some 4, none, .mv (.t 12)⟩]) .ret))⟩ := by kernel_rfl

structure Enum (g : FuncId) (cell : Nat) (S : List O) (tk : Tks) (N : Nat) (good : Array Int → Prop) : Prop where
  ok : callOK E0.P g = true
  h : ∀ (yid : Nat) (gS : Array Int → List O) (n : Nat), (∀ d, (gS d).length = n) → (∀ d, OSc n tk.length (gS d)) → (∀ (d : Array Int) (i : Nat) (o : O), S[i]? = some o → (gS d)[i]? = some o) →
    (∀ (d : Array Int) (k : Int) (it : O), d.size < N → AYields E0 yid [kD k] (gS d ++ [it]) tk (fun r S' tk' => r = .bool true ∧ S' = gS (d.push k) ++ [it] ∧ tk' = tk)) →
    ACalls E0 g [.yld yid, .po cell 0] (gS #[]) tk (fun r S' tk' => r = .tup [] ∧ tk' = tk ∧ ∃ d, good d ∧ S' = gS d)

theorem rows_push (d : Array Int) (k : Int) : rowsV kD d.toList ++ [[kD k]] = rowsV kD (d.push k).toList := by
  simp [rowsV, kD, D.cs]

theorem appendSeq {g : FuncId} {cell : Nat} {S : List O} {tk : Tks} {N : Nat} {good : Array Int → Prop} (hN : N < 1099511627776) (hE : Enum g cell S tk N good) :
    ACalls E0 48 [.nilsl, .fn g [.po cell 0]] S tk (fun r S' tk' => ∃ d J k, good d ∧ S' = S ++ J ∧ J[k]? = some (VI d) ∧ r = .vec (S.length + k) d.size 1 ∧ tk' = tk) := by
  refine ACalls.withSc fun hsc => ?_
  simp only [scL, D.sc, Bool.and_true, Bool.true_and, decide_eq_true_eq] at hsc
  refine ACalls.fgoC c48 rfl [0] rfl fun hS => ?_
  repeat' first | with_reducible refine fzD_ite (fun q => ?_) (fun q => ?_) | ((try conv => whnf); first | refine bs_d (fun q => ?_) (fun q => ?_) | refine bs_n ?_ | refine bs_i (fun q => ?_) (fun q => ?_) | refine eqk rfl ?_ | refine ffin _ rfl rfl hS (Sub.refl _) rfl ⟨?_, rfl, rfl⟩)
  refine fcut (α := Unit) rfl (fun _ => True) (fun _ => [(1, .d (.fn g [.po cell 0])), (2, .lp 0 0)]) (fun _ => S) (fun _ => [.arr [.vec (S.length + 1) 0 1], .vec [] 25 1]) (fun _ => []) (fun _ _ => ⟨rfl, hS⟩) ?_ fun _ _ => ?_
  · skip
    repeat' first | with_reducible refine fzD_ite (fun q => ?_) (fun q => ?_) | ((try conv => whnf); first | refine bs_d (fun q => ?_) (fun q => ?_) | refine bs_n ?_ | refine bs_i (fun q => ?_) (fun q => ?_) | refine eqk rfl ?_ | refine ffin _ rfl rfl hS (Sub.refl _) rfl ⟨?_, rfl, rfl⟩)
    exact fcnext (α := Unit) () trivial rfl (fstep_cellvec (k := 0) (cs := [.nilsl]) 25 1 rfl 0 rfl ⟨Sub.refl _, Sub.refl _, trivial⟩)
  repeat' first | with_reducible refine fzD_ite (fun q => ?_) (fun q => ?_) | ((try conv => whnf); first | refine bs_d (fun q => ?_) (fun q => ?_) | refine bs_n ?_ | refine bs_i (fun q => ?_) (fun q => ?_) | refine eqk rfl ?_ | refine ffin _ rfl rfl hS (Sub.refl _) rfl ⟨?_, rfl, rfl⟩)
  conv => whnf
  refine frf rfl rfl rfl hE.ok fun Lp hR => ?_
  rw [List.append_nil]
  have hlp : ∀ (d : Array Int) (st : LoopState), OSc (S.length + 3) (List.length tk) (S ++ [.arr [.vec (S.length + 1) d.size 1], VI d, .lp Lp (frD S.length [(6, .d (.fn g [.po cell 0])), (1, .d (.fn g [.po cell 0])), (2, .lp 0 0)]) st none]) := fun d st => by
    refine hS.more (by omega) (Nat.le_refl _) ?_
    have hsc' : cell < S.length + 3 := by omega
    simp [oScL, oSc, scL, D.sc, frSc, frD, FD.to, hsc', VO, scLL_rows kE]
  refine (hE.h (S.length + 2) (fun d => S ++ [.arr [.vec (S.length + 1) d.size 1], VI d, .lp Lp (frD S.length [(6, .d (.fn g [.po cell 0])), (1, .d (.fn g [.po cell 0])), (2, .lp 0 0)]) .ready none]) (S.length + 3) (fun d => by simp) (fun d => hlp d _) (fun d i o h => at_old h) ?_).mono ?_
  · intro d k it hd
    obtain ⟨X, hX⟩ : ∃ X, X = S ++ [.arr [.vec (S.length + 1) d.size 1], VI d, .lp Lp (frD S.length [(6, .d (.fn g [.po cell 0])), (1, .d (.fn g [.po cell 0])), (2, .lp 0 0)]) .busy none] ++ [it] := ⟨_, rfl⟩
    have hX2 : (S ++ [.arr [.vec (S.length + 1) d.size 1], VI d, .lp Lp (frD S.length [(6, .d (.fn g [.po cell 0])), (1, .d (.fn g [.po cell 0])), (2, .lp 0 0)]) .ready none] ++ [it]).set (S.length + 2) (.lp Lp (frD S.length [(6, .d (.fn g [.po cell 0])), (1, .d (.fn g [.po cell 0])), (2, .lp 0 0)]) .busy none) = X := by
      rw [hX]; simp [List.set_append_right]
    have a0 : X[S.length]? = some (.arr [.vec (S.length + 1) d.size 1]) := by rw [hX]; simp
    have a1 : X[S.length + 1]? = some (VI d) := by rw [hX]; simp
    refine fyield (fr := frD S.length [(6, .d (.fn g [.po cell 0])), (1, .d (.fn g [.po cell 0])), (2, .lp 0 0)]) hR rfl rfl rfl rfl (by simp) rfl fun hO => ?_
    repeat' first | with_reducible refine fzD_ite (fun q => ?_) (fun q => ?_) | ((try conv => whnf); first | refine bs_d (fun q => ?_) (fun q => ?_) | refine bs_n ?_ | refine bs_i (fun q => ?_) (fun q => ?_) | refine eqk rfl ?_ | refine ffin _ rfl rfl hS (Sub.refl _) rfl ⟨?_, rfl, rfl⟩)
    refine ⟨rfl, rfl, rfl, rfl, ?_⟩
    rw [hX2]
    repeat' first | with_reducible refine fzD_ite (fun q => ?_) (fun q => ?_) | ((try conv => whnf); first | refine bs_d (fun q => ?_) (fun q => ?_) | refine bs_n ?_ | refine bs_i (fun q => ?_) (fun q => ?_) | refine pK_i (ldO_old a0 rfl) ?_ | refine gk_appv_old (by rw [hX]; simp) rfl rfl a1 (by rw [rowsV_len, Array.length_toList]) rfl (by simp) (by rw [rowsV_len, Array.length_toList]; simp [maxLen]; omega) ?_ | refine gk_stpo_old (by rw [hX]; simp) rfl rfl (by rw [List.getElem?_set_ne (by omega)]; exact a0) rfl ⟨rfl, rfl, rfl, Nat.le_refl _⟩ ?_ | refine eqk rfl ?_ | refine ffin _ rfl rfl hS (Sub.refl _) rfl ⟨?_, rfl, rfl⟩)
    refine FRndN.mk ⟨?_, _, _, Shift.refl _ _ _ _, rfl, ?_, List.append_nil _⟩
    · rw [hX]; simp
    · rw [hX, List.append_nil]
      show ((List.set (List.set _ (S.length + 1) _) (S.length + 0) (O.arr [D.vec (S.length + 1) _ 1])).set (S.length + 2) _) = _
      rw [show (rowsV kD d.toList ++ [[D.int IntKind.u64 k]]) = rowsV kD (d.push k).toList from rows_push d k, rowsV_len, Array.length_toList]
      simp [VO]
  · rintro r S' tk' ⟨rfl, rfl, d, hd, rfl⟩
    refine ⟨S, [.arr [.vec (S.length + 1) d.size 1], VI d], [], tk', [], .ready, by simp, by simp, rfl, rfl, by simp, rfl, ?_⟩
    repeat' first | with_reducible refine fzD_ite (fun q => ?_) (fun q => ?_) | ((try conv => whnf); first | refine bs_d (fun q => ?_) (fun q => ?_) | refine bs_n ?_ | refine bs_i (fun q => ?_) (fun q => ?_) | refine ffinJ ?_ | refine eqk rfl ?_ | refine ffin _ rfl rfl hS (Sub.refl _) rfl ⟨?_, rfl, rfl⟩)
    exact ⟨d, _, 1, hd, rfl, rfl, rfl, List.append_nil _⟩

theorem collect {g : FuncId} {cell : Nat} {S : List O} {tk : Tks} {N : Nat} {good : Array Int → Prop} (hN : N < 1099511627776) (hE : Enum g cell S tk N good) :
    ACalls E0 39 [.fn g [.po cell 0]] S tk (fun r S' tk' => ∃ d J k, good d ∧ S' = S ++ J ∧ J[k]? = some (VI d) ∧ r = .vec (S.length + k) d.size 1 ∧ tk' = tk) := by
  refine ACalls.fgo c39 rfl fun hS => ?_
  repeat' first | with_reducible refine fzD_ite (fun q => ?_) (fun q => ?_) | ((try conv => whnf); first | refine bs_d (fun q => ?_) (fun q => ?_) | refine bs_n ?_ | refine bs_i (fun q => ?_) (fun q => ?_) | (refine ckG (by rw [List.append_nil, List.append_nil]; exact appendSeq hN hE) ?_; rintro r S' tk' ⟨d, J, k, hd, rfl, hJ, rfl, rfl⟩; refine ⟨S, J, tk', [], rfl, (List.append_nil _).symm, rfl, rfl, ?_⟩) | refine ffinJ ?_ | refine eqk rfl ?_ | refine ffin _ rfl rfl hS (Sub.refl _) rfl ⟨?_, rfl, rfl⟩)
  exact ⟨d, J, k, hd, rfl, hJ, rfl, List.append_nil _⟩

theorem sorted {g : FuncId} {cell : Nat} {S : List O} {tk : Tks} {N : Nat} {good : Array Int → Prop} (hN : N < 1099511627776) (hg : ∀ d, good d → d.size ≤ N) (hE : Enum g cell S tk N good) :
    ACalls E0 29 [.fn g [.po cell 0]] S tk (fun r S' tk' => ∃ d d', good d ∧ Sorts 0 d.size d d' ∧ r = .sl (rowsV kD d'.toList) ∧ S' = S ∧ tk' = tk) := by
  refine ACalls.fgo c29 rfl fun hS => ?_
  repeat' first | with_reducible refine fzD_ite (fun q => ?_) (fun q => ?_) | ((try conv => whnf); first | refine bs_d (fun q => ?_) (fun q => ?_) | refine bs_n ?_ | refine bs_i (fun q => ?_) (fun q => ?_) | (refine ckG (by rw [List.append_nil, List.append_nil]; exact collect hN hE) ?_; rintro r S' tk' ⟨d, J, k, hd, rfl, hJ, rfl, rfl⟩; refine ⟨S, J, tk', [], rfl, (List.append_nil _).symm, rfl, rfl, ?_⟩) | (refine ckVEJ rfl rfl hJ (fun S0 tk h => sortV (S.length + k) d.size d rfl (by have := hg d hd; omega) S0 tk h) (SubL.refl _) ?_; rintro r d' ⟨rfl, hq⟩; skip) | refine eqk rfl ?_ | refine ffin _ rfl rfl hS (Sub.refl _) rfl ⟨?_, rfl, rfl⟩)
  have e : d.size = (rowsV kD d'.toList).length := by rw [rowsV_len, Array.length_toList, hq.1.1]
  show FFin _ _ _ _ _ _ _ (.vec (S.length + k) d.size 1) _
  rw [e]
  exact ffinV (d' := .top) rfl rfl hS (List.getElem?_set_self (List.getElem?_eq_some_iff.1 hJ).1) (scLL_rows kE _ _ _) ⟨d, d', hd, hq, rfl, rfl, rfl⟩


abbrev Ent := Int × D × Nat
def entKv (l : List Ent) : Kv := l.map fun e => (kD e.1, e.2.1, e.2.2)
structure Stamps (l : List Ent) (clk : Nat) : Prop where
  nodup : (l.map (·.2.2)).Nodup
  lt : ∀ e ∈ l, e.2.2 < clk
theorem Stamps.eq {l : List Ent} {clk : Nat} (h : Stamps l clk) {a b : Ent} (ha : a ∈ l) (hb : b ∈ l) (he : a.2.2 = b.2.2) : a = b := by
  obtain ⟨i, hi, rfl⟩ := List.mem_iff_getElem.1 ha
  obtain ⟨j, hj, rfl⟩ := List.mem_iff_getElem.1 hb
  have h1 := (List.getElem?_inj (i := i) (j := j) (l := l.map (·.2.2)) (by simpa using hi) h.nodup).1 (by simp [List.getElem?_eq_getElem hi, List.getElem?_eq_getElem hj, he])
  subst h1; rfl
theorem nd_of_map {α β : Type} {f : α → β} {l : List α} (h : (l.map f).Nodup) : l.Nodup := by
  rw [List.Nodup, List.pairwise_map] at h
  exact h.imp fun hne he => hne (by rw [he])
theorem Stamps.nd {l : List Ent} {clk : Nat} (h : Stamps l clk) : l.Nodup := nd_of_map h.nodup
theorem Stamps.kveq {l : List Ent} {clk : Nat} (h : Stamps l clk) {e : Ent} (he : e ∈ l) : ∀ q ∈ entKv l, q.2.2 = e.2.2 → q = (kD e.1, e.2.1, e.2.2) := by
  intro q hq hs
  obtain ⟨a, ha, rfl⟩ := List.mem_map.1 hq
  rw [h.eq ha he hs]
theorem Stamps.full {l vs : List Ent} {clk : Nat} (h : Stamps l clk) (hnd : vs.Nodup) (hs : ∀ e ∈ vs, e ∈ l) (hall : ∀ p ∈ entKv l, p.2.2 < clk → p.2.2 ∈ vs.map (·.2.2)) : vs.Perm l := by
  refine (List.perm_ext_iff_of_nodup hnd h.nd).2 fun e => ⟨hs e, fun he => ?_⟩
  obtain ⟨a, ha, hae⟩ := List.mem_map.1 (hall _ (List.mem_map_of_mem he) (h.lt e he))
  rw [h.eq he (hs a ha) hae.symm]; exact ha
theorem Stamps.more {l vs : List Ent} {clk : Nat} (h : Stamps l clk) (hnd : vs.Nodup) (hs : ∀ e ∈ vs, e ∈ l) {e : Ent} (he : e ∈ l) (hn : e.2.2 ∉ vs.map (·.2.2)) :
    (vs ++ [e]).Nodup ∧ (∀ x ∈ vs ++ [e], x ∈ l) ∧ vs.length < l.length := by
  have h1 : (vs ++ [e]).Nodup := by
    refine List.nodup_append.2 ⟨hnd, by simp, fun a ha b hb hab => hn ?_⟩
    rw [List.mem_singleton.1 hb] at hab
    exact hab ▸ List.mem_map_of_mem ha
  have h2 : ∀ x ∈ vs ++ [e], x ∈ l := fun x hx => by
    rcases List.mem_append.1 hx with hx | hx
    · exact hs x hx
    · rw [List.mem_singleton.1 hx]; exact he
  classical
  have := List.Nodup.length_le_of_subset h1 h2
  rw [List.length_append, List.length_singleton] at this
  exact ⟨h1, h2, by omega⟩
theorem entKv_first {l : List Ent} {clk : Nat} (h : Stamps l clk) : entKv l = [] ∨ ∃ p ∈ entKv l, p.2.2 < clk := by
  cases l with
  | nil => exact .inl rfl
  | cons e l => exact .inr ⟨_, List.mem_map_of_mem (List.mem_cons_self ..), h.lt e (List.mem_cons_self ..)⟩
def getE (l : List Ent) (k : Int) : Option D := match l with
  | [] => none
  | e :: r => if k = e.1 then some e.2.1 else getE r k
def replE (l : List Ent) (k : Int) (v : D) : List Ent := match l with
  | [] => []
  | e :: r => if k = e.1 then (e.1, v, e.2.2) :: r else e :: replE r k v
def delE (l : List Ent) (k : Int) : List Ent := match l with
  | [] => []
  | e :: r => if k = e.1 then r else e :: delE r k
theorem keyB_kD (a b : Int) : keyB (kD a) (kD b) = decide (a = b) := rfl
theorem mfind_entKv : ∀ (l : List Ent) (k : Int), (mfind (entKv l) (kD k)).map (·.2.1) = getE l k
  | [], k => rfl
  | e :: r, k => by
    have ih := mfind_entKv r k
    simp only [mfind, entKv, List.map_cons, List.find?_cons, keyB_kD, getE] at ih ⊢
    by_cases h : k = e.1
    · simp [h]
    · rw [decide_eq_false h, if_neg h]; exact ih
theorem mget_entKv (z : D) (l : List Ent) (k : Int) : mget z (entKv l) (kD k) = (getE l k).getD z := by
  rw [← mfind_entKv, mget]
  cases mfind (entKv l) (kD k) <;> rfl
theorem mfind_some (l : List Ent) (k : Int) : (mfind (entKv l) (kD k)).isSome = (getE l k).isSome := by
  rw [← mfind_entKv]
  cases mfind (entKv l) (kD k) <;> rfl
theorem mrepl_entKv : ∀ (l : List Ent) (k : Int) (v : D), mrepl (entKv l) (kD k) v = entKv (replE l k v)
  | [], k, v => rfl
  | e :: r, k, v => by
    have ih := mrepl_entKv r k v
    simp only [entKv, List.map_cons, mrepl, keyB_kD, replE] at ih ⊢
    by_cases h : k = e.1
    · simp [h]
    · simp [h, ih]
theorem mdel_entKv : ∀ (l : List Ent) (k : Int), mdel (entKv l) (kD k) = entKv (delE l k)
  | [], k => rfl
  | e :: r, k => by
    have ih := mdel_entKv r k
    simp only [mdel, entKv, List.map_cons, List.eraseP_cons, keyB_kD, delE] at ih ⊢
    by_cases h : k = e.1
    · simp [h]
    · simp [h, ih]
theorem getE_mem : ∀ (l : List Ent) (k : Int), (getE l k).isSome = true ↔ k ∈ l.map (·.1)
  | [], k => by simp [getE]
  | e :: r, k => by
    simp only [getE, List.map_cons, List.mem_cons]
    by_cases h : k = e.1
    · simp [h]
    · simp [h, getE_mem r k]
theorem getE_repl : ∀ (l : List Ent) (k : Int) (v : D), (getE l k).isSome = true → ∀ j, getE (replE l k v) j = if j = k then some v else getE l j
  | [], k, v, h, j => by simp [getE] at h
  | e :: r, k, v, h, j => by
    simp only [getE, replE] at h ⊢
    by_cases hk : k = e.1
    · simp only [hk, if_true, getE]
      by_cases hj : j = e.1 <;> simp [hj]
    · rw [if_neg hk] at h
      simp only [if_neg hk, getE]
      rw [getE_repl r k v h j]
      by_cases hj : j = e.1
      · rw [if_pos hj, if_neg (by omega), if_pos hj]
      · rw [if_neg hj, if_neg hj]
theorem repl_fst : ∀ (l : List Ent) (k : Int) (v : D), (replE l k v).map (·.1) = l.map (·.1)
  | [], k, v => rfl
  | e :: r, k, v => by simp only [replE]; split <;> simp [repl_fst r k v]
theorem repl_st : ∀ (l : List Ent) (k : Int) (v : D), (replE l k v).map (·.2.2) = l.map (·.2.2)
  | [], k, v => rfl
  | e :: r, k, v => by simp only [replE]; split <;> simp [repl_st r k v]
theorem getE_app (l : List Ent) (k : Int) (v : D) (n : Nat) (h : getE l k = none) : ∀ j, getE (l ++ [(k, v, n)]) j = if j = k then some v else getE l j := by
  induction l with
  | nil => intro j; simp [getE]
  | cons e r ih =>
    intro j
    simp only [getE] at h
    split at h
    · cases h
    rename_i hk
    simp only [List.cons_append, getE]
    rw [ih h j]
    by_cases hj : j = e.1
    · rw [if_pos hj, if_neg (by omega), if_pos hj]
    · rw [if_neg hj, if_neg hj]
theorem del_sub : ∀ (l : List Ent) (k : Int), (delE l k).Sublist l
  | [], k => List.Sublist.refl _
  | e :: r, k => by
    simp only [delE]; split
    · exact List.sublist_cons_self ..
    · exact (del_sub r k).cons_cons _
theorem getE_del : ∀ (l : List Ent) (k : Int), (l.map (·.1)).Nodup → ∀ j, getE (delE l k) j = if j = k then none else getE l j
  | [], k, _, j => by simp [getE, delE]
  | e :: r, k, hn, j => by
    simp only [List.map_cons, List.nodup_cons] at hn
    simp only [delE, getE]
    by_cases hk : k = e.1
    · rw [if_pos hk]
      by_cases hj : j = k
      · rw [if_pos hj]
        cases h : getE r j with
        | none => rfl
        | some v => exact absurd ((getE_mem r j).1 (by rw [h]; rfl)) (by rw [hj, hk]; exact hn.1)
      · rw [if_neg hj, if_neg (by omega)]
    · rw [if_neg hk, getE, getE_del r k hn.2 j]
      by_cases hj : j = e.1
      · rw [if_pos hj, if_neg (by omega), if_pos hj]
      · rw [if_neg hj, if_neg hj]

structure MapR {β : Type} (vl : β → D) (l : List Ent) (clk : Nat) (f : Int → Option β) : Prop where
  st : Stamps l clk
  nd : (l.map (·.1)).Nodup
  get : ∀ k, getE l k = (f k).map vl
def setE (l : List Ent) (clk : Nat) (k : Int) (v : D) : List Ent := if (getE l k).isSome = true then replE l k v else l ++ [(k, v, clk)]
def clkE (l : List Ent) (clk : Nat) (k : Int) : Nat := if (getE l k).isSome = true then clk else clk + 1
theorem mset_entKv (l : List Ent) (clk : Nat) (k : Int) (v : D) : mset (entKv l) clk (kD k) v = entKv (setE l clk k v) := by
  have h := mfind_some l k
  unfold mset setE
  cases hm : mfind (entKv l) (kD k) with
  | some p => rw [hm] at h; rw [if_pos (by rw [← h]; rfl)]; exact mrepl_entKv l k v
  | none => rw [hm] at h; rw [if_neg (by rw [← h]; simp)]; simp [entKv]
theorem mclk_entKv (l : List Ent) (clk : Nat) (k : Int) : mclk (entKv l) clk (kD k) = clkE l clk k := by
  have h := mfind_some l k
  unfold mclk clkE
  cases hm : mfind (entKv l) (kD k) with
  | some p => rw [hm] at h; rw [if_pos (by rw [← h]; rfl)]
  | none => rw [hm] at h; rw [if_neg (by rw [← h]; simp)]
section
variable {β : Type} {vl : β → D} {l : List Ent} {clk : Nat} {f : Int → Option β}
theorem MapR.empty (vl : β → D) : MapR vl [] 0 fun _ => none := ⟨⟨List.nodup_nil, by simp⟩, List.nodup_nil, fun _ => rfl⟩
theorem MapR.mem (h : MapR vl l clk f) (k : Int) : k ∈ l.map (·.1) ↔ (f k).isSome = true := by
  rw [← getE_mem, h.get]; cases f k <;> simp
theorem MapR.set (h : MapR vl l clk f) (k : Int) (v : β) : MapR vl (setE l clk k (vl v)) (clkE l clk k) fun j => if j = k then some v else f j := by
  unfold setE clkE
  by_cases hk : (getE l k).isSome = true
  · rw [if_pos hk, if_pos hk]
    refine ⟨⟨by rw [repl_st]; exact h.st.nodup, fun e he => ?_⟩, by rw [repl_fst]; exact h.nd, fun j => ?_⟩
    · have : e.2.2 ∈ (replE l k (vl v)).map (·.2.2) := List.mem_map_of_mem he
      rw [repl_st] at this
      obtain ⟨a, ha, hae⟩ := List.mem_map.1 this
      rw [← hae]; exact h.st.lt a ha
    · rw [getE_repl l k (vl v) hk j, h.get]; split <;> rfl
  · rw [if_neg hk, if_neg hk]
    have hn : getE l k = none := by cases hg : getE l k with
      | none => rfl
      | some v => rw [hg] at hk; simp at hk
    refine ⟨⟨?_, fun e he => ?_⟩, ?_, fun j => ?_⟩
    · rw [List.map_append, List.nodup_append]
      refine ⟨h.st.nodup, by simp, fun a ha b hb hab => ?_⟩
      obtain ⟨x, hx, rfl⟩ := List.mem_map.1 ha
      simp at hb
      have := h.st.lt x hx
      omega
    · rcases List.mem_append.1 he with he | he
      · have := h.st.lt e he; omega
      · rw [List.mem_singleton.1 he]; exact Nat.lt_succ_self _
    · rw [List.map_append, List.nodup_append]
      refine ⟨h.nd, by simp, fun a ha b hb hab => ?_⟩
      simp at hb
      have := (getE_mem l a).2 ha
      rw [hab, hb] at this
      exact hk this
    · rw [getE_app l k (vl v) clk hn j, h.get]; split <;> rfl
theorem MapR.del (h : MapR vl l clk f) (k : Int) : MapR vl (delE l k) clk fun j => if j = k then none else f j := by
  refine ⟨⟨h.st.nodup.sublist ((del_sub l k).map _), fun e he => h.st.lt e ((del_sub l k).subset he)⟩, h.nd.sublist ((del_sub l k).map _), fun j => ?_⟩
  rw [getE_del l k h.nd j, h.get]; split <;> rfl
theorem setE_len (l : List Ent) (clk : Nat) (k : Int) (v : D) : (setE l clk k v).length ≤ l.length + 1 := by
  unfold setE; split
  · have := congrArg List.length (repl_fst l k v)
    simp at this; omega
  · simp
theorem delE_len (l : List Ent) (k : Int) : (delE l k).length ≤ l.length := (del_sub l k).length_le
end
theorem rising_ext : ∀ {a b : List Int}, a.Pairwise (· < ·) → b.Pairwise (· < ·) → (∀ x, x ∈ a ↔ x ∈ b) → a = b
  | [], [], _, _, _ => rfl
  | [], y :: b, _, _, h => by simpa using (h y).2 (List.mem_cons_self ..)
  | x :: a, [], _, _, h => by simpa using (h x).1 (List.mem_cons_self ..)
  | x :: a, y :: b, ha, hb, h => by
    have ha' := List.pairwise_cons.1 ha
    have hb' := List.pairwise_cons.1 hb
    have e : x = y := by
      have h1 := (h x).1 (List.mem_cons_self ..)
      have h2 := (h y).2 (List.mem_cons_self ..)
      rcases List.mem_cons.1 h1 with h1 | h1
      · exact h1
      · rcases List.mem_cons.1 h2 with h2 | h2
        · exact h2.symm
        · have := hb'.1 x h1; have := ha'.1 y h2; omega
    subst e
    rw [rising_ext ha'.2 hb'.2 fun z => ?_]
    constructor
    · intro hz
      rcases List.mem_cons.1 ((h z).1 (List.mem_cons_of_mem _ hz)) with rfl | h'
      · have := ha'.1 z hz; omega
      · exact h'
    · intro hz
      rcases List.mem_cons.1 ((h z).2 (List.mem_cons_of_mem _ hz)) with rfl | h'
      · have := hb'.1 z hz; omega
      · exact h'
theorem Sorts.list {d d' : Array Int} (h : Sorts 0 d.size d d') : d'.toList.Perm d.toList ∧ d'.toList.Pairwise (· ≤ ·) := by
  obtain ⟨⟨h1, h2, h3⟩, h4⟩ := h
  constructor
  · have e1 : d'.extract 0 d.size = d' := by rw [← h1]; simp
    have e2 : d.extract 0 d.size = d := by simp
    rwa [e1, e2] at h3
  · rw [List.pairwise_iff_getElem]
    intro i j hi hj hij
    have := h4 i j (Nat.zero_le _) hij (by rw [← h1]; simpa using hj)
    rw [Array.length_toList] at hi hj
    rw [getElem!_pos d' i hi, getElem!_pos d' j hj] at this
    simp [ltInt] at this
    simpa using this
theorem rising_of {l : List Int} (h1 : l.Pairwise (· ≤ ·)) (h2 : l.Nodup) : l.Pairwise (· < ·) := by
  refine (h1.and h2).imp fun ⟨a, b⟩ => by omega
end Go.KL.YtjjdfplonbgpbaaDoor.U
