/- a row of lines that may be -/
import Derived.Test.YtjjdfplonbgpbaaDoorDa
import Derived.Test.YtjjdfplonbgpbaaDoorKL33
import Derived.Test.YtjjdfplonbgpbaaDoorKy
set_option linter.unusedVariables false
set_option linter.unusedSimpArgs false
set_option linter.unusedSectionVars false
set_option maxRecDepth 4000
namespace Go.KL.YtjjdfplonbgpbaaDoor.CL
open Go Go.KL Go.RowKit Go.Proofs Go.Sort
structure Lm where
  acc : Int
  cus : Int
  con : Int
  amt : Int
  ok : 0 ≤ acc ∧ acc ≤ 1000000000
instance : Inhabited Lm := ⟨⟨0, 0, 0, 0, by omega⟩⟩
def eD (x : Lm) : D := .agg [.int .i64 x.acc, .int .u64 x.cus, .int .u64 x.con, .int .i64 x.amt]
theorem eE : VEnc eD 4 true := ⟨fun _ => rfl, fun _ => rfl, fun _ => rfl, fun _ => rfl, fun _ _ _ => rfl⟩
theorem c50 : cFun E0.P 50 = some ⟨53, [], .seq (.rg [⟨some 10, none, .mv (.t 1)⟩, ⟨some 11, none, .bin .add .leaf (.t 10) (.k (.int .i64 1))⟩, ⟨some 8, none, .mv (.t 11)⟩]) (.block 0 (.loop (.seq (.seq (.rg [⟨some 12, none, .mv (.t 8)⟩, ⟨some 13, none, .mv (.t 2)⟩, ⟨some 14, none, .bin .lss .leaf (.t 12) (.t 13)⟩]) (.cond (.t 14) .skip (.exit 0))) (.seq (.block 1 (.seq (.rg [⟨some 17, none, .mv (.t 8)⟩, ⟨some 9, none, .mv (.t 17)⟩]) (.block 2 (.loop (.seq (.seq (.rd [(⟨some 18, none, .mv (.t 9)⟩, none), (⟨some 19, none, .mv (.t 1)⟩, none), (⟨some 20, none, .bin .gtr .leaf (.t 18) (.t 19)⟩, none), (⟨some 21, none, .mv (.t 20)⟩, none), (⟨some 22, some (21, true), .mv (.t 3)⟩, none), (⟨some 23, some (21, true), .mv (.t 0)⟩, none), (⟨some 24, some (21, true), .mv (.t 9)⟩, none), (⟨some 25, some (21, true), .ia 4 (.t 23) (.t 24)⟩, none), (⟨some 26, some (21, true), .ld 4 true (.t 25)⟩, none), (⟨some 27, some (21, true), .mv (.t 0)⟩, none), (⟨some 28, some (21, true), .mv (.t 9)⟩, none), (⟨some 29, some (21, true), .bin .sub .leaf (.t 28) (.k (.int .i64 1))⟩, none), (⟨some 30, some (21, true), .ia 4 (.t 27) (.t 29)⟩, none), (⟨some 31, some (21, true), .ld 4 true (.t 30)⟩, none), (⟨some 32, some (21, true), .callv (.t 22) [.t 26, .t 31]⟩, some []), (⟨some 33, some (21, true), .bin .lss .leaf (.t 32) (.k (.int .i64 0))⟩, none), (⟨some 34, none, .pick (.t 21) (.t 33) (.k (.bool false))⟩, none)]) (.cond (.t 34) .skip (.exit 2))) (.seq (.block 3 (.rd [(⟨some 37, none, .mv (.t 0)⟩, none), (⟨some 38, none, .mv (.t 9)⟩, none), (⟨some 39, none, .mv (.t 0)⟩, none), (⟨some 40, none, .mv (.t 9)⟩, none), (⟨some 41, none, .bin .sub .leaf (.t 40) (.k (.int .i64 1))⟩, none), (⟨some 42, none, .mv (.t 0)⟩, none), (⟨some 43, none, .mv (.t 9)⟩, none), (⟨some 44, none, .bin .sub .leaf (.t 43) (.k (.int .i64 1))⟩, none), (⟨some 45, none, .ia 4 (.t 42) (.t 44)⟩, none), (⟨some 46, none, .ld 4 true (.t 45)⟩, none), (⟨some 47, none, .mv (.t 0)⟩, none), (⟨some 48, none, .mv (.t 9)⟩, none), (⟨some 49, none, .ia 4 (.t 47) (.t 48)⟩, none), (⟨some 50, none, .ld 4 true (.t 49)⟩, none), (⟨some 51, none, .ia 4 (.t 37) (.t 38)⟩, none), (⟨none, none, .st 4 (.t 51) (.t 46)⟩, some []), (⟨some 52, none, .ia 4 (.t 39) (.t 41)⟩, none), (⟨none, none, .st 4 (.t 52) (.t 50)⟩, some [])])) (.rg [⟨some 35, none, .mv (.t 9)⟩, ⟨some 36, none, .bin .sub .leaf (.t 35) (.k (.int .i64 1))⟩, ⟨some 9, none, .mv (.t 36)⟩]))))))) (.rg [⟨some 15, none, .mv (.t 8)⟩, ⟨some 16, none, .bin .add .leaf (.t 15) (.k (.int .i64 1))⟩, ⟨some 8, none, .mv (.t 16)⟩])))))⟩ := by kernel_rfl
theorem c70 : cFun E0.P 70 = some ⟨82, [], .seq (.rg [⟨some 12, none, .mv (.t 1)⟩, ⟨some 10, none, .mv (.t 12)⟩]) (.block 0 (.loop (.block 1 (.seq (.rg [⟨some 13, none, .mv (.t 10)⟩, ⟨some 14, none, .bin .mul .leaf (.k (.int .i64 2)) (.t 13)⟩, ⟨some 15, none, .bin .add .leaf (.t 14) (.k (.int .i64 1))⟩, ⟨some 11, none, .mv (.t 15)⟩]) (.seq (.seq (.rg [⟨some 16, none, .mv (.t 11)⟩, ⟨some 17, none, .mv (.t 2)⟩, ⟨some 18, none, .bin .geq .leaf (.t 16) (.t 17)⟩]) (.cond (.t 18) (.exit 0) .skip)) (.seq (.seq (.rd [(⟨some 19, none, .mv (.t 11)⟩, none), (⟨some 20, none, .bin .add .leaf (.t 19) (.k (.int .i64 1))⟩, none), (⟨some 21, none, .mv (.t 2)⟩, none), (⟨some 22, none, .bin .lss .leaf (.t 20) (.t 21)⟩, none), (⟨some 23, none, .mv (.t 22)⟩, none), (⟨some 24, some (23, true), .mv (.t 4)⟩, none), (⟨some 25, some (23, true), .mv (.t 0)⟩, none), (⟨some 26, some (23, true), .mv (.t 3)⟩, none), (⟨some 27, some (23, true), .mv (.t 11)⟩, none), (⟨some 28, some (23, true), .bin .add .leaf (.t 26) (.t 27)⟩, none), (⟨some 29, some (23, true), .ia 4 (.t 25) (.t 28)⟩, none), (⟨some 30, some (23, true), .ld 4 true (.t 29)⟩, none), (⟨some 31, some (23, true), .mv (.t 0)⟩, none), (⟨some 32, some (23, true), .mv (.t 3)⟩, none), (⟨some 33, some (23, true), .mv (.t 11)⟩, none), (⟨some 34, some (23, true), .bin .add .leaf (.t 32) (.t 33)⟩, none), (⟨some 35, some (23, true), .bin .add .leaf (.t 34) (.k (.int .i64 1))⟩, none), (⟨some 36, some (23, true), .ia 4 (.t 31) (.t 35)⟩, none), (⟨some 37, some (23, true), .ld 4 true (.t 36)⟩, none), (⟨some 38, some (23, true), .callv (.t 24) [.t 30, .t 37]⟩, some []), (⟨some 39, some (23, true), .bin .lss .leaf (.t 38) (.k (.int .i64 0))⟩, none), (⟨some 40, none, .pick (.t 23) (.t 39) (.k (.bool false))⟩, none)]) (.cond (.t 40) (.rg [⟨some 41, none, .mv (.t 11)⟩, ⟨some 42, none, .bin .add .leaf (.t 41) (.k (.int .i64 1))⟩, ⟨some 11, none, .mv (.t 42)⟩]) .skip)) (.seq (.seq (.rd [(⟨some 43, none, .mv (.t 4)⟩, none), (⟨some 44, none, .mv (.t 0)⟩, none), (⟨some 45, none, .mv (.t 3)⟩, none), (⟨some 46, none, .mv (.t 10)⟩, none), (⟨some 47, none, .bin .add .leaf (.t 45) (.t 46)⟩, none), (⟨some 48, none, .ia 4 (.t 44) (.t 47)⟩, none), (⟨some 49, none, .ld 4 true (.t 48)⟩, none), (⟨some 50, none, .mv (.t 0)⟩, none), (⟨some 51, none, .mv (.t 3)⟩, none), (⟨some 52, none, .mv (.t 11)⟩, none), (⟨some 53, none, .bin .add .leaf (.t 51) (.t 52)⟩, none), (⟨some 54, none, .ia 4 (.t 50) (.t 53)⟩, none), (⟨some 55, none, .ld 4 true (.t 54)⟩, none), (⟨some 56, none, .callv (.t 43) [.t 49, .t 55]⟩, some []), (⟨some 57, none, .bin .lss .leaf (.t 56) (.k (.int .i64 0))⟩, none), (⟨some 58, none, .un .not (.t 57)⟩, none)]) (.cond (.t 58) .ret .skip)) (.seq (.rd [(⟨some 59, none, .mv (.t 0)⟩, none), (⟨some 60, none, .mv (.t 3)⟩, none), (⟨some 61, none, .mv (.t 10)⟩, none), (⟨some 62, none, .bin .add .leaf (.t 60) (.t 61)⟩, none), (⟨some 63, none, .mv (.t 0)⟩, none), (⟨some 64, none, .mv (.t 3)⟩, none), (⟨some 65, none, .mv (.t 11)⟩, none), (⟨some 66, none, .bin .add .leaf (.t 64) (.t 65)⟩, none), (⟨some 67, none, .mv (.t 0)⟩, none), (⟨some 68, none, .mv (.t 3)⟩, none), (⟨some 69, none, .mv (.t 11)⟩, none), (⟨some 70, none, .bin .add .leaf (.t 68) (.t 69)⟩, none), (⟨some 71, none, .ia 4 (.t 67) (.t 70)⟩, none), (⟨some 72, none, .ld 4 true (.t 71)⟩, none), (⟨some 73, none, .mv (.t 0)⟩, none), (⟨some 74, none, .mv (.t 3)⟩, none), (⟨some 75, none, .mv (.t 10)⟩, none), (⟨some 76, none, .bin .add .leaf (.t 74) (.t 75)⟩, none), (⟨some 77, none, .ia 4 (.t 73) (.t 76)⟩, none), (⟨some 78, none, .ld 4 true (.t 77)⟩, none), (⟨some 79, none, .ia 4 (.t 59) (.t 62)⟩, none), (⟨none, none, .st 4 (.t 79) (.t 72)⟩, some []), (⟨some 80, none, .ia 4 (.t 63) (.t 66)⟩, none), (⟨none, none, .st 4 (.t 80) (.t 78)⟩, some [])]) (.rg [⟨some 81, none, .mv (.t 11)⟩, ⟨some 10, none, .mv (.t 81)⟩])))))))))⟩ := by kernel_rfl
theorem c51 : cFun E0.P 51 = some ⟨60, [], .seq (.rg [⟨some 13, none, .mv (.t 1)⟩, ⟨some 8, none, .mv (.t 13)⟩]) (.seq (.rg [⟨some 9, none, .mv (.k (.int .i64 0))⟩]) (.seq (.rg [⟨some 14, none, .mv (.t 2)⟩, ⟨some 15, none, .mv (.t 1)⟩, ⟨some 16, none, .bin .sub .leaf (.t 14) (.t 15)⟩, ⟨some 10, none, .mv (.t 16)⟩]) (.seq (.seq (.rg [⟨some 17, none, .mv (.t 10)⟩, ⟨some 18, none, .bin .sub .leaf (.t 17) (.k (.int .i64 1))⟩, ⟨some 19, none, .bin .quo .leaf (.t 18) (.k (.int .i64 2))⟩, ⟨some 11, none, .mv (.t 19)⟩]) (.block 0 (.loop (.seq (.seq (.rg [⟨some 20, none, .mv (.t 11)⟩, ⟨some 21, none, .bin .geq .leaf (.t 20) (.k (.int .i64 0))⟩]) (.cond (.t 21) .skip (.exit 0))) (.seq (.block 1 (.rg [⟨some 24, none, .mv (.t 0)⟩, ⟨some 25, none, .mv (.t 11)⟩, ⟨some 26, none, .mv (.t 10)⟩, ⟨some 27, none, .mv (.t 8)⟩, ⟨some 28, none, .mv (.t 3)⟩, ⟨some 29, none, .call 70 [.t 24, .t 25, .t 26, .t 27, .t 28]⟩])) (.rg [⟨some 22, none, .mv (.t 11)⟩, ⟨some 23, none, .bin .sub .leaf (.t 22) (.k (.int .i64 1))⟩, ⟨some 11, none, .mv (.t 23)⟩])))))) (.seq (.rg [⟨some 30, none, .mv (.t 10)⟩, ⟨some 31, none, .bin .sub .leaf (.t 30) (.k (.int .i64 1))⟩, ⟨some 12, none, .mv (.t 31)⟩]) (.block 2 (.loop (.seq (.seq (.rg [⟨some 32, none, .mv (.t 12)⟩, ⟨some 33, none, .bin .geq .leaf (.t 32) (.k (.int .i64 0))⟩]) (.cond (.t 33) .skip (.exit 2))) (.seq (.block 3 (.seq (.rd [(⟨some 36, none, .mv (.t 0)⟩, none), (⟨some 37, none, .mv (.t 8)⟩, none), (⟨some 38, none, .mv (.t 0)⟩, none), (⟨some 39, none, .mv (.t 8)⟩, none), (⟨some 40, none, .mv (.t 12)⟩, none), (⟨some 41, none, .bin .add .leaf (.t 39) (.t 40)⟩, none), (⟨some 42, none, .mv (.t 0)⟩, none), (⟨some 43, none, .mv (.t 8)⟩, none), (⟨some 44, none, .mv (.t 12)⟩, none), (⟨some 45, none, .bin .add .leaf (.t 43) (.t 44)⟩, none), (⟨some 46, none, .ia 4 (.t 42) (.t 45)⟩, none), (⟨some 47, none, .ld 4 true (.t 46)⟩, none), (⟨some 48, none, .mv (.t 0)⟩, none), (⟨some 49, none, .mv (.t 8)⟩, none), (⟨some 50, none, .ia 4 (.t 48) (.t 49)⟩, none), (⟨some 51, none, .ld 4 true (.t 50)⟩, none), (⟨some 52, none, .ia 4 (.t 36) (.t 37)⟩, none), (⟨none, none, .st 4 (.t 52) (.t 47)⟩, some []), (⟨some 53, none, .ia 4 (.t 38) (.t 41)⟩, none), (⟨none, none, .st 4 (.t 53) (.t 51)⟩, some [])]) (.rg [⟨some 54, none, .mv (.t 0)⟩, ⟨some 55, none, .mv (.t 9)⟩, ⟨some 56, none, .mv (.t 12)⟩, ⟨some 57, none, .mv (.t 8)⟩, ⟨some 58, none, .mv (.t 3)⟩, ⟨some 59, none, .call 70 [.t 54, .t 55, .t 56, .t 57, .t 58]⟩]))) (.rg [⟨some 34, none, .mv (.t 12)⟩, ⟨some 35, none, .bin .sub .leaf (.t 34) (.k (.int .i64 1))⟩, ⟨some 12, none, .mv (.t 35)⟩])))))))))⟩ := by kernel_rfl
theorem c54 : cFun E0.P 54 = some ⟨34, [], .seq (.rg [⟨some 10, none, .mv (.t 1)⟩, ⟨some 8, none, .mv (.t 10)⟩]) (.seq (.rg [⟨some 11, none, .mv (.t 2)⟩, ⟨some 12, none, .bin .sub .leaf (.t 11) (.k (.int .i64 1))⟩, ⟨some 9, none, .mv (.t 12)⟩]) (.block 0 (.loop (.seq (.seq (.rg [⟨some 13, none, .mv (.t 8)⟩, ⟨some 14, none, .mv (.t 9)⟩, ⟨some 15, none, .bin .lss .leaf (.t 13) (.t 14)⟩]) (.cond (.t 15) .skip (.exit 0))) (.block 1 (.seq (.rd [(⟨some 16, none, .mv (.t 0)⟩, none), (⟨some 17, none, .mv (.t 8)⟩, none), (⟨some 18, none, .mv (.t 0)⟩, none), (⟨some 19, none, .mv (.t 9)⟩, none), (⟨some 20, none, .mv (.t 0)⟩, none), (⟨some 21, none, .mv (.t 9)⟩, none), (⟨some 22, none, .ia 4 (.t 20) (.t 21)⟩, none), (⟨some 23, none, .ld 4 true (.t 22)⟩, none), (⟨some 24, none, .mv (.t 0)⟩, none), (⟨some 25, none, .mv (.t 8)⟩, none), (⟨some 26, none, .ia 4 (.t 24) (.t 25)⟩, none), (⟨some 27, none, .ld 4 true (.t 26)⟩, none), (⟨some 28, none, .ia 4 (.t 16) (.t 17)⟩, none), (⟨none, none, .st 4 (.t 28) (.t 23)⟩, some []), (⟨some 29, none, .ia 4 (.t 18) (.t 19)⟩, none), (⟨none, none, .st 4 (.t 29) (.t 27)⟩, some [])]) (.seq (.rg [⟨some 30, none, .mv (.t 8)⟩, ⟨some 31, none, .bin .add .leaf (.t 30) (.k (.int .i64 1))⟩, ⟨some 8, none, .mv (.t 31)⟩]) (.rg [⟨some 32, none, .mv (.t 9)⟩, ⟨some 33, none, .bin .sub .leaf (.t 32) (.k (.int .i64 1))⟩, ⟨some 9, none, .mv (.t 33)⟩]))))))))⟩ := by kernel_rfl

def ltC  (cmp : Lm → Lm → Int) (x y : Lm) : Bool := decide (cmp x y < 0)
theorem ltt  {cmp : Lm → Lm → Int} {x y : Lm} (h : cmp x y < 0) : ltC cmp x y = true := decide_eq_true h
theorem ltf  {cmp : Lm → Lm → Int} {x y : Lm} (h : ¬ cmp x y < 0) : ltC cmp x y = false := decide_eq_false h
theorem ltn  {cmp : Lm → Lm → Int} {x y : Lm} (h : ¬ cmp x y < 0) : ¬ ltC cmp x y = true := by rw [ltf h]; simp
abbrev vec (id n : Nat) : D := .vec id n 4
abbrev VI  (d : Array Lm) : O := VO eD 67 4 d
structure CmpQ  (Q : List O → Prop) (id n : Nat) (cf : FuncId) (cs : List D) (cmp : Lm → Lm → Int) : Prop where
  ok : callOK E0.P cf = true
  app : ∀ S J, Q S → Q (S ++ J)
  call : 0 < n → ∀ (S : List O) (d : Array Lm) tk x y, id < S.length → Q S → ACalls E0 cf (eD x :: eD y :: cs) (S.set id (VI d)) tk (fun r S' tk' => r = .int .i64 (cmp x y) ∧ S' = S.set id (VI d) ∧ tk' = tk)
def Turns  (Q : List O → Prop) (f : FuncId) (id n : Nat) (ds : List D) (d : Array Lm) (r : D) (d' : Array Lm) : Prop :=
  ∀ (S0 : List O) (tk : Tks), id < S0.length → Q S0 → ACalls E0 f (vec id n :: ds) (S0.set id (VI d)) tk (fun r' S' tk' => r' = r ∧ S' = S0.set id (VI d') ∧ tk' = tk)
section
variable  {Q : List O → Prop} {id n : Nat} {cf : FuncId} {cs : List D} {cmp : Lm → Lm → Int}
variable {n0 m0 : Nat} {S0 J : List O} {T TK : Tks} {d d' : Array Lm} {x y : Lm}
theorem ckc {K : FD → List O → List O → Tks → Tks → Prop} (hC : CmpQ Q id n cf cs cmp) (hid : id < S0.length) (hQ : Q S0) (h0 : 0 < n) (hn : S0.length = n0) (hm : T.length = m0) (hk : K (.d (.int .i64 (cmp x y))) (S0.set id (VI d)) J T TK) :
    CK E0 n0 m0 cf (eD x :: eD y :: cs) (S0.set id (VI d)) J T TK K := by
  refine ckA (d := .int .i64 (cmp x y)) (by rw [List.length_set]; exact hn) hm ?_ hk
  have := hC.call h0 (S0 ++ J) d (T ++ TK) x y (by rw [List.length_append]; omega) (hC.app _ _ hQ)
  rwa [set_old hid] at this
theorem cqc {K : D → Prop} (hC : CmpQ Q id n cf cs cmp) (hid : id < S0.length) (hQ : Q S0) (h0 : 0 < n) (hk : K (.int .i64 (cmp x y))) :
    CQ E0 cf (eD x :: eD y :: cs) (S0.set id (VI d)) J T TK K := by
  refine cqA (d := .int .i64 (cmp x y)) ?_ hk
  have := hC.call h0 (S0 ++ J) d (T ++ TK) x y (by rw [List.length_append]; omega) (hC.app _ _ hQ)
  rwa [set_old hid] at this
theorem ckVOQ {f : FuncId} {ds ds' : List D} {K : FD → List O → List O → Tks → Tks → Prop} {r : D} (hC : CmpQ Q id n cf cs cmp) (hid : id < S0.length) (hQ : Q S0) (hn : S0.length = n0) (hm : T.length = m0)
    (h : ∀ (S0 : List O) (tk : Tks), id < S0.length → Q S0 → ACalls E0 f ds' (S0.set id (VI d)) tk (fun r' S' tk' => r' = r ∧ S' = S0.set id (VI d') ∧ tk' = tk)) (hs : SubL ds ds')
    (hk : fzD r fun r => K (.d r) (S0.set id (VI d')) J T TK) : CK E0 n0 m0 f ds (S0.set id (VI d)) J T TK K := by
  refine ckG (P := fun r' S' tk' => r' = r ∧ S' = S0.set id (VI d') ++ J ∧ tk' = T ++ TK) ?_ ?_
  · have := (h (S0 ++ J) (T ++ TK) (by rw [List.length_append]; omega) (hC.app _ _ hQ)).sub hs
    rwa [set_old hid, set_old hid] at this
  · rintro r' S' tk' ⟨rfl, rfl, rfl⟩
    exact ⟨_, J, T, TK, rfl, rfl, by rw [List.length_set, hn], hm, hk⟩
theorem ckVEQ {f : FuncId} {ds ds' : List D} {K : FD → List O → List O → Tks → Tks → Prop} {G : D → Array Lm → Prop} (hC : CmpQ Q id n cf cs cmp) (hid : id < S0.length) (hQ : Q S0) (hn : S0.length = n0) (hm : T.length = m0)
    (h : ∀ (S0 : List O) (tk : Tks), id < S0.length → Q S0 → ACalls E0 f ds' (S0.set id (VI d)) tk (fun r' S' tk' => ∃ d', G r' d' ∧ S' = S0.set id (VI d') ∧ tk' = tk)) (hs : SubL ds ds')
    (hk : ∀ r d', G r d' → fzD r fun r => K (.d r) (S0.set id (VI d')) J T TK) : CK E0 n0 m0 f ds (S0.set id (VI d)) J T TK K := by
  refine ckG (P := fun r' S' tk' => ∃ d', G r' d' ∧ S' = S0.set id (VI d') ++ J ∧ tk' = T ++ TK) ?_ ?_
  · have := (h (S0 ++ J) (T ++ TK) (by rw [List.length_append]; omega) (hC.app _ _ hQ)).sub hs
    rw [set_old hid] at this
    refine this.mono fun r S' tk' ⟨d', h1, h2, h3⟩ => ⟨d', h1, ?_, h3⟩
    rw [h2, set_old hid]
  · rintro r' S' tk' ⟨d', hG, rfl, rfl⟩
    exact ⟨_, J, T, TK, rfl, rfl, by rw [List.length_set, hn], hm, hk _ _ hG⟩
abbrev SwI (S0 : List O) (pid k id : Nat) (d : Array Lm) : List O := SwS eD 67 4 S0 pid k id d
def Counts (Q : List O → Prop) (f : FuncId) (id pid n : Nat) (ds : List D) (d : Array Lm) (k : Nat) (r : D) (k' : Nat) : Prop :=
  ∀ (S0 : List O) (tk : Tks), id < S0.length → pid < S0.length → id ≠ pid → (∀ k : Nat, Q (S0.set pid (.arr [.int .i64 k]))) → ACalls E0 f (vec id n :: ds) (SwI S0 pid k id d) tk (fun r' S' tk' => r' = r ∧ S' = SwI S0 pid k' id d ∧ tk' = tk)
theorem ckSwQ {f : FuncId} {ds ds' : List D} {K : FD → List O → List O → Tks → Tks → Prop} {r : D} {pid k k' : Nat} (hC : CmpQ Q id n cf cs cmp) (hid : id < S0.length) (hp : pid < S0.length) (hne : id ≠ pid) (hQ : ∀ k : Nat, Q (S0.set pid (.arr [.int .i64 k]))) (hn : S0.length = n0) (hm : T.length = m0)
    (h : Counts Q f id pid n ds' d k r k') (hs : SubL ds (vec id n :: ds')) (hk : fzD r fun r => K (.d r) (SwI S0 pid k' id d) J T TK) : CK E0 n0 m0 f ds (SwI S0 pid k id d) J T TK K := by
  refine ckG (P := fun r' S' tk' => r' = r ∧ S' = SwI S0 pid k' id d ++ J ∧ tk' = T ++ TK) ?_ ?_
  · have := (h (S0 ++ J) (T ++ TK) (by rw [List.length_append]; omega) (by rw [List.length_append]; omega) hne (fun k => by rw [set_old hp]; exact hC.app _ _ (hQ k))).sub hs
    rwa [SwI, SwI, SwS_app hid hp, SwS_app hid hp] at this
  · rintro r' S' tk' ⟨rfl, rfl, rfl⟩
    exact ⟨_, J, T, TK, rfl, rfl, by rw [SwI, SwS_len, hn], hm, hk⟩
theorem ckSwNQ {f : FuncId} {ds ds' : List D} {K : FD → List O → List O → Tks → Tks → Prop} {r : D} {k k' : Nat} (hC : CmpQ Q id n cf cs cmp) (hid : id < S0.length) (hQ : Q S0) (hn : S0.length = n0) (hm : T.length = m0)
    (h : Counts Q f id n0 n ds' d k r k') (hs : SubL ds (vec id n :: ds')) (hk : fzD r fun r => K (.d r) (S0.set id (VI d)) [.arr [.int .i64 k']] T TK) : CK E0 n0 m0 f ds (S0.set id (VI d)) [.arr [.int .i64 k]] T TK K := by
  have e0 : ∀ (j j' : Nat), (S0 ++ [O.arr [D.int .i64 (j : Int)]]).set n0 (O.arr [.int .i64 (j' : Int)]) = S0 ++ [.arr [.int .i64 (j' : Int)]] := by
    intro j j'
    rw [← hn, List.set_append_right _ _ (Nat.le_refl _), Nat.sub_self, List.set_cons_zero]
  have e : ∀ (j j' : Nat), SwI (S0 ++ [.arr [.int .i64 (j : Int)]]) n0 j' id d = S0.set id (VI d) ++ [.arr [.int .i64 (j' : Int)]] := by
    intro j j'
    rw [SwI, SwS, e0, set_old hid]
  refine ckG (P := fun r' S' tk' => r' = r ∧ S' = S0.set id (VI d) ++ [.arr [.int .i64 (k' : Int)]] ∧ tk' = T ++ TK) ?_ ?_
  · have := (h (S0 ++ [.arr [.int .i64 (k : Int)]]) (T ++ TK) (by rw [List.length_append]; omega) (by rw [List.length_append, hn]; simp) (by omega) (fun j => by rw [e0]; exact hC.app _ _ hQ)).sub hs
    rwa [e k k, e k k'] at this
  · rintro r' S' tk' ⟨rfl, rfl, rfl⟩
    exact ⟨_, [_], T, TK, rfl, rfl, by rw [List.length_set, hn], hm, hk⟩
end

structure SI where
  d : Array Lm
  i : Nat

theorem insertionSort {Q : List O → Prop} {cf : FuncId} {cmp : Lm → Lm → Int} (id n : Nat) (hC : CmpQ Q id n cf [] cmp) (d : Array Lm) (a b : Nat) (hd : d.size = n) (hab : a ≤ b) (hb : b ≤ n) (hn : n < 4611686018427387904) :
    Turns Q 50 id n [.int .i64 a, .int .i64 b, (.fn cf [])] d (.tup []) (insertionSort (ltC cmp) d a b) := by
  intro S0 tk hid hQ
  refine ACalls.fgo c50 rfl fun hS => ?_
  have hl : (S0.set id (VI d)).length = S0.length := List.length_set ..
  repeat' first | with_reducible refine fzD_ite (fun q => ?_) (fun q => ?_) | ((try conv => whnf); first | refine bs_d (fun q => ?_) (fun q => ?_) | refine bs_n ?_ | refine bs_i (fun q => ?_) (fun q => ?_) | refine eqk rfl ?_ | refine ffin _ rfl rfl hS (Sub.refl _) rfl ⟨?_, rfl, rfl⟩)
  refine floopS (α := SI) rfl (fun s => s.d.size = n ∧ a < s.i ∧ insOuter (ltC cmp) a b s.i s.d = Sort.insertionSort (ltC cmp) d a b) (fun s => b - s.i) (fun s => [(8, .d (.int .i64 s.i)), (0, .d (vec id n)), (1, .d (.int .i64 a)), (2, .d (.int .i64 b)), (3, .d (.fn cf []))])
    (fun s => S0.set id (VI s.d)) (fun _ => []) (fun _ => []) (fun s _ => ⟨by simp, osc_VO' eE _ hS⟩) ⟨d, a + 1⟩ ⟨hd, by simp, rfl⟩ rfl (fstep_sub ⟨Sub.int (by simp only [wi64]; omega), Sub.refl _, Sub.refl _, Sub.refl _, Sub.refl _, trivial⟩) ?_
  rintro s ⟨h1, h2, h3⟩
  repeat' first | with_reducible refine fzD_ite (fun q => ?_) (fun q => ?_) | ((try conv => whnf); first | refine bs_d (fun q => ?_) (fun q => ?_) | refine bs_n ?_ | refine bs_i (fun q => ?_) (fun q => ?_) | refine eqk rfl ?_ | refine ffin _ rfl rfl hS (Sub.refl _) rfl ⟨?_, rfl, rfl⟩)
  · refine floopS (α := SI) rfl (fun t => t.d.size = n ∧ a ≤ t.i ∧ t.i ≤ s.i ∧ insInner (ltC cmp) a t.i t.d = insInner (ltC cmp) a s.i s.d) (fun t => t.i) (fun t => [(9, .d (.int .i64 t.i)), (8, .d (.int .i64 s.i)), (0, .d (vec id n)), (1, .d (.int .i64 a)), (2, .d (.int .i64 b)), (3, .d (.fn cf []))])
      (fun t => S0.set id (VI t.d)) (fun _ => []) (fun _ => []) (fun t _ => ⟨by simp, osc_VO' eE _ hS⟩) s ⟨h1, by omega, by simp, rfl⟩ rfl (fstep_sub ⟨Sub.refl _, Sub.refl _, Sub.refl _, Sub.refl _, Sub.refl _, Sub.refl _, trivial⟩) ?_
    rintro t ⟨k1, k2, k3, k4⟩
    repeat' first | with_reducible refine fzD_ite (fun q => ?_) (fun q => ?_) | ((try conv => whnf); first | refine bs_t hC.ok ?_ | refine bs_d (fun q => ?_) (fun q => ?_) | refine bs_n ?_ | refine bs_i (fun q => ?_) (fun q => ?_) | refine ckc hC hid hQ (by omega) (List.length_set ..).symm rfl ?_ | refine cqc hC hid hQ (by omega) ?_ | refine pK_i (iaD_vecN (k := t.i) (by first | rfl | omega | (refine Int.sub_eq_zero.mp ?_; simp (disch := ((try unfold I64); omega)) only [wi64_id, td]; omega)) (by omega)) ?_ | refine pK_i (iaD_vecN (k := t.i - 1) (by first | rfl | omega | (refine Int.sub_eq_zero.mp ?_; simp (disch := ((try unfold I64); omega)) only [wi64_id, td]; omega)) (by omega)) ?_ | refine pK_i (ldV_VO eE hid k1 (by omega)) ?_ | refine gk_stVO eE hid (List.length_set ..).symm rfl rfl (by simpa using k1) (by omega) rfl ?_ | refine eqk rfl ?_ | refine ffin _ rfl rfl hS (Sub.refl _) rfl ⟨?_, rfl, rfl⟩)
    · skip
      refine fnextS (α := SI) ⟨swp t.d t.i (t.i - 1), t.i - 1⟩ ⟨by rw [size_swp']; exact k1, by simp only; omega, by simp only; omega, ?_⟩ (by simp only; omega) rfl (fstep_sub ⟨Sub.int (by first | rfl | omega | (refine Int.sub_eq_zero.mp ?_; simp (disch := ((try unfold I64); omega)) only [wi64_id, td]; omega)), Sub.refl _, Sub.refl _, Sub.refl _, Sub.refl _, Sub.refl _, trivial⟩)
      rw [← k4, insInner_step (i := t.i) (d := t.d) (by omega) (ltt q)]
    · skip
      refine fnextS (α := SI) ⟨t.d, s.i + 1⟩ ⟨k1, by simp only; omega, ?_⟩ (by simp only; omega) rfl (fstep_sub ⟨Sub.int (by first | rfl | omega | (refine Int.sub_eq_zero.mp ?_; simp (disch := ((try unfold I64); omega)) only [wi64_id, td]; omega)), Sub.refl _, Sub.refl _, Sub.refl _, Sub.refl _, trivial⟩)
      rw [← h3, insOuter_step (i := s.i) (by omega), ← k4, insInner_stop fun _ => ltf q]
    · refine fnextS (α := SI) ⟨t.d, s.i + 1⟩ ⟨k1, by simp only; omega, ?_⟩ (by simp only; omega) rfl (fstep_sub ⟨Sub.int (by first | rfl | omega | (refine Int.sub_eq_zero.mp ?_; simp (disch := ((try unfold I64); omega)) only [wi64_id, td]; omega)), Sub.refl _, Sub.refl _, Sub.refl _, Sub.refl _, trivial⟩)
      rw [← h3, insOuter_step (i := s.i) (by omega), ← k4, insInner_stop fun h => by omega]
  · refine ffin _ (by simp) rfl (osc_VO' eE _ hS) (Sub.refl _) rfl ⟨rfl, ?_, rfl⟩
    rw [← h3, insOuter_stop (by omega)]
set_option maxHeartbeats 1000000 in
theorem siftDown {Q : List O → Prop} {cf : FuncId} {cmp : Lm → Lm → Int} (id n : Nat) (hC : CmpQ Q id n cf [] cmp) (d : Array Lm) (lo hi first : Nat) (hd : d.size = n) (hlo : lo ≤ n) (hb : first + hi ≤ n) (hn : n < 4611686018427387904) :
    Turns Q 70 id n [.int .i64 lo, .int .i64 hi, .int .i64 first, (.fn cf [])] d (.tup []) (siftDown (ltC cmp) hi first lo d) := by
  intro S0 tk hid hQ
  refine ACalls.fgo c70 rfl fun hS => ?_
  repeat' first | with_reducible refine fzD_ite (fun q => ?_) (fun q => ?_) | ((try conv => whnf); first | refine bs_d (fun q => ?_) (fun q => ?_) | refine bs_n ?_ | refine bs_i (fun q => ?_) (fun q => ?_) | refine eqk rfl ?_ | refine ffin _ rfl rfl hS (Sub.refl _) rfl ⟨?_, rfl, rfl⟩)
  refine floopS (α := SI) rfl (fun s => s.d.size = n ∧ s.i ≤ n ∧ Sort.siftDown (ltC cmp) hi first s.i s.d = Sort.siftDown (ltC cmp) hi first lo d) (fun s => n - s.i) (fun s => [(10, .d (.int .i64 s.i)), (0, .d (vec id n)), (2, .d (.int .i64 hi)), (3, .d (.int .i64 first)), (4, .d (.fn cf []))])
    (fun s => S0.set id (VI s.d)) (fun _ => []) (fun _ => []) (fun s _ => ⟨by simp, osc_VO' eE _ hS⟩) ⟨d, lo⟩ ⟨hd, hlo, rfl⟩ rfl (fstep_sub ⟨Sub.refl _, Sub.refl _, Sub.refl _, Sub.refl _, Sub.refl _, trivial⟩) ?_
  rintro s ⟨h1, h2, h3⟩
  repeat' first | with_reducible refine fzD_ite (fun q => ?_) (fun q => ?_) | ((try conv => whnf); first | refine bs_t hC.ok ?_ | refine bs_d (fun q => ?_) (fun q => ?_) <;> (try simp (disch := ((try unfold I64); omega)) only [wi64_id, td] at q) | refine bs_n ?_ | refine bs_i (fun q => ?_) (fun q => ?_) | refine ckc hC hid hQ (by omega) (List.length_set ..).symm rfl ?_ | refine cqc hC hid hQ (by omega) ?_ | refine pK_i (iaD_vecN (k := first + s.i) (by first | rfl | omega | (refine Int.sub_eq_zero.mp ?_; simp (disch := ((try unfold I64); omega)) only [wi64_id, td]; omega)) (by omega)) ?_ | refine pK_i (iaD_vecN (k := first + (2 * s.i + 1)) (by first | rfl | omega | (refine Int.sub_eq_zero.mp ?_; simp (disch := ((try unfold I64); omega)) only [wi64_id, td]; omega)) (by omega)) ?_ | refine pK_i (iaD_vecN (k := first + (2 * s.i + 1 + 1)) (by first | rfl | omega | (refine Int.sub_eq_zero.mp ?_; simp (disch := ((try unfold I64); omega)) only [wi64_id, td]; omega)) (by omega)) ?_ | refine pK_i (ldV_VO eE hid h1 (by omega)) ?_ | refine gk_stVO eE hid (List.length_set ..).symm rfl rfl (by simpa using h1) (by omega) rfl ?_ | refine ffin _ (by simp) rfl (osc_VO' eE _ hS) (Sub.refl _) rfl ⟨rfl, ?_, rfl⟩ | refine eqk rfl ?_ | refine ffin _ rfl rfl hS (Sub.refl _) rfl ⟨?_, rfl, rfl⟩)
  · rw [← h3, siftDown_stop (by omega)]
  · rename_i q2 q3 q4
    refine fnextS (α := SI) ⟨swp s.d (first + s.i) (first + (2 * s.i + 1 + 1)), 2 * s.i + 1 + 1⟩ ⟨by rw [size_swp']; exact h1, by simp only; omega, ?_⟩ (by simp only; omega) rfl (fstep_sub ⟨Sub.int (by first | rfl | omega | (refine Int.sub_eq_zero.mp ?_; simp (disch := ((try unfold I64); omega)) only [wi64_id, td]; omega)), Sub.refl _, Sub.refl _, Sub.refl _, Sub.refl _, trivial⟩)
    rw [← h3, siftDown_b1 (r := s.i) (by omega) (by omega) (ltt q4), if_pos (ltt q)]
  · rename_i q2 q3 q4
    rw [← h3, siftDown_b1 (r := s.i) (by omega) (by omega) (ltt q4), if_neg (ltn q)]
  · rename_i q2 q3 q4
    refine fnextS (α := SI) ⟨swp s.d (first + s.i) (first + (2 * s.i + 1)), 2 * s.i + 1⟩ ⟨by rw [size_swp']; exact h1, by simp only; omega, ?_⟩ (by simp only; omega) rfl (fstep_sub ⟨Sub.int (by first | rfl | omega | (refine Int.sub_eq_zero.mp ?_; simp (disch := ((try unfold I64); omega)) only [wi64_id, td]; omega)), Sub.refl _, Sub.refl _, Sub.refl _, Sub.refl _, trivial⟩)
    rw [← h3, siftDown_b2 (r := s.i) (by omega) (fun _ => ltf q4), if_pos (ltt q)]
  · rename_i q2 q3 q4
    rw [← h3, siftDown_b2 (r := s.i) (by omega) (fun _ => ltf q4), if_neg (ltn q)]
  · refine fnextS (α := SI) ⟨swp s.d (first + s.i) (first + (2 * s.i + 1)), 2 * s.i + 1⟩ ⟨by rw [size_swp']; exact h1, by simp only; omega, ?_⟩ (by simp only; omega) rfl (fstep_sub ⟨Sub.int (by first | rfl | omega | (refine Int.sub_eq_zero.mp ?_; simp (disch := ((try unfold I64); omega)) only [wi64_id, td]; omega)), Sub.refl _, Sub.refl _, Sub.refl _, Sub.refl _, trivial⟩)
    rw [← h3, siftDown_b2 (r := s.i) (by omega) (fun h => by omega), if_pos (ltt q)]
  · rw [← h3, siftDown_b2 (r := s.i) (by omega) (fun h => by omega), if_neg (ltn q)]

structure SJ where
  d : Array Lm
  i : Nat
  j : Nat

theorem reverseRange {Q : List O → Prop} {cf : FuncId} {cmp : Lm → Lm → Int} (id n : Nat) (hC : CmpQ Q id n cf [] cmp) (d : Array Lm) (a b : Nat) (hd : d.size = n) (hab : a < b) (hb : b ≤ n) (hn : n < 4611686018427387904) :
    Turns Q 54 id n [.int .i64 a, .int .i64 b, (.fn cf [])] d (.tup []) (reverseRange d a b) := by
  intro S0 tk hid hQ
  refine ACalls.fgo c54 rfl fun hS => ?_
  repeat' first | with_reducible refine fzD_ite (fun q => ?_) (fun q => ?_) | ((try conv => whnf); first | refine bs_d (fun q => ?_) (fun q => ?_) | refine bs_n ?_ | refine bs_i (fun q => ?_) (fun q => ?_) | refine eqk rfl ?_ | refine ffin _ rfl rfl hS (Sub.refl _) rfl ⟨?_, rfl, rfl⟩)
  refine floopS (α := SJ) rfl (fun s => s.d.size = n ∧ a ≤ s.i ∧ s.i ≤ n ∧ s.j + 1 ≤ b ∧ a ≤ s.j + 1 ∧ (s.i < s.j → 0 < s.j) ∧ Sort.reverseLoop s.i s.j s.d = Sort.reverseRange d a b) (fun s => n + s.j - s.i) (fun s => [(8, .d (.int .i64 s.i)), (9, .d (.int .i64 s.j)), (0, .d (vec id n)), (3, .d (.fn cf []))])
    (fun s => S0.set id (VI s.d)) (fun _ => []) (fun _ => []) (fun s _ => ⟨by simp, osc_VO' eE _ hS⟩) ⟨d, a, b - 1⟩ ⟨hd, by simp, by simp only; omega, by simp only; omega, by simp only; omega, by simp only; omega, rfl⟩ rfl (fstep_sub ⟨Sub.refl _, Sub.int (by first | rfl | omega | (refine Int.sub_eq_zero.mp ?_; simp (disch := ((try unfold I64); omega)) only [wi64_id, td]; omega)), Sub.refl _, Sub.refl _, trivial⟩) ?_
  rintro s ⟨h1, h2, h3, h4, h5, h6, h7⟩
  repeat' first | with_reducible refine fzD_ite (fun q => ?_) (fun q => ?_) | ((try conv => whnf); first | refine bs_d (fun q => ?_) (fun q => ?_) <;> (try simp (disch := ((try unfold I64); omega)) only [wi64_id, td] at q) | refine bs_n ?_ | refine bs_i (fun q => ?_) (fun q => ?_) | refine pK_i (iaD_vecN (k := s.i) (by first | rfl | omega | (refine Int.sub_eq_zero.mp ?_; simp (disch := ((try unfold I64); omega)) only [wi64_id, td]; omega)) (by omega)) ?_ | refine pK_i (iaD_vecN (k := s.j) (by first | rfl | omega | (refine Int.sub_eq_zero.mp ?_; simp (disch := ((try unfold I64); omega)) only [wi64_id, td]; omega)) (by omega)) ?_ | refine pK_i (ldV_VO eE hid h1 (by omega)) ?_ | refine gk_stVO eE hid (List.length_set ..).symm rfl rfl (by simpa using h1) (by omega) rfl ?_ | refine ffin _ (by simp) rfl (osc_VO' eE _ hS) (Sub.refl _) rfl ⟨rfl, ?_, rfl⟩ | refine eqk rfl ?_ | refine ffin _ rfl rfl hS (Sub.refl _) rfl ⟨?_, rfl, rfl⟩)
  · refine fnextS (α := SJ) ⟨swp s.d s.i s.j, s.i + 1, s.j - 1⟩ ⟨by rw [size_swp']; exact h1, by simp only; omega, by simp only; omega, by simp only; omega, by simp only; omega, by simp only; omega, ?_⟩ (by simp only; omega) rfl (fstep_sub ⟨Sub.int (by first | rfl | omega | (refine Int.sub_eq_zero.mp ?_; simp (disch := ((try unfold I64); omega)) only [wi64_id, td]; omega)), Sub.int (by first | rfl | omega | (refine Int.sub_eq_zero.mp ?_; simp (disch := ((try unfold I64); omega)) only [wi64_id, td]; omega)), Sub.refl _, Sub.refl _, trivial⟩)
    rw [← h7, reverseLoop_step (i := s.i) (by omega)]
  · rw [← h7, reverseLoop_stop (by omega)]

theorem size_heapBuild  {cmp : Lm → Lm → Int} (hi first : Nat) : ∀ (k : Nat) (d : Array Lm), (heapBuild (ltC cmp) hi first k d).size = d.size
  | 0, d => rfl
  | k + 1, d => by rw [heapBuild, size_heapBuild hi first k, size_sift']

theorem heapSort {Q : List O → Prop} {cf : FuncId} {cmp : Lm → Lm → Int} (id n : Nat) (hC : CmpQ Q id n cf [] cmp) (d : Array Lm) (a b : Nat) (hd : d.size = n) (hab : a ≤ b) (hb : b ≤ n) (hn : n < 4611686018427387904) :
    Turns Q 51 id n [.int .i64 a, .int .i64 b, (.fn cf [])] d (.tup []) (heapSort (ltC cmp) d a b) := by
  intro S0 tk hid hQ
  refine ACalls.fgo c51 rfl fun hS => ?_
  repeat' first | with_reducible refine fzD_ite (fun q => ?_) (fun q => ?_) | ((try conv => whnf); first | refine bs_d (fun q => ?_) (fun q => ?_) | refine bs_n ?_ | refine bs_i (fun q => ?_) (fun q => ?_) | refine eqk rfl ?_ | refine ffin _ rfl rfl hS (Sub.refl _) rfl ⟨?_, rfl, rfl⟩)
  refine floopS (α := SI) rfl (fun s => s.d.size = n ∧ s.i ≤ n + 1 ∧ heapBuild (ltC cmp) (b - a) a s.i s.d = heapBuild (ltC cmp) (b - a) a ((b - a - 1) / 2 + 1) d) (fun s => s.i) (fun s => [(11, .d (.int .i64 ((s.i : Int) - 1))), (0, .d (vec id n)), (8, .d (.int .i64 a)), (9, .d (.int .i64 ((0 : Nat) : Int))), (10, .d (.int .i64 ((b - a : Nat) : Int))), (3, .d (.fn cf []))])
    (fun s => S0.set id (VI s.d)) (fun _ => []) (fun _ => []) (fun s _ => ⟨by simp, osc_VO' eE _ hS⟩) ⟨d, (b - a - 1) / 2 + 1⟩ ⟨hd, by simp only; omega, rfl⟩ rfl (fstep_sub ⟨Sub.int ?_, Sub.refl _, Sub.refl _, Sub.refl _, Sub.int (by first | rfl | omega | (refine Int.sub_eq_zero.mp ?_; simp (disch := ((try unfold I64); omega)) only [wi64_id, td]; omega)), Sub.refl _, trivial⟩) ?_
  · simp (disch := (unfold I64; omega)) only [wi64_id]
    rw [tdiv2 (by omega)]
    split <;> (rw [wi64_id (by unfold I64; omega)]; omega)
  rintro s ⟨h1, h2, h3⟩
  repeat' first | with_reducible refine fzD_ite (fun q => ?_) (fun q => ?_) | ((try conv => whnf); first | refine bs_d (fun q => ?_) (fun q => ?_) <;> (try simp (disch := ((try unfold I64); omega)) only [wi64_id, td] at q) | refine bs_n ?_ | refine bs_i (fun q => ?_) (fun q => ?_) | refine ckVOQ hC hid hQ (List.length_set ..).symm rfl (siftDown id n hC s.d (s.i - 1) (b - a) a h1 (by omega) (by omega) hn) (.cons (Sub.refl _) (.cons (Sub.int (by omega)) (.cons (Sub.refl _) (.cons (Sub.refl _) (SubL.refl _))))) ?_ | refine eqk rfl ?_ | refine ffin _ rfl rfl hS (Sub.refl _) rfl ⟨?_, rfl, rfl⟩)
  · refine fnextS (α := SI) ⟨Sort.siftDown (ltC cmp) (b - a) a (s.i - 1) s.d, s.i - 1⟩ ⟨by rw [size_sift']; exact h1, by simp only; omega, ?_⟩ (by simp only; omega) rfl (fstep_sub ⟨Sub.int (by first | rfl | omega | (refine Int.sub_eq_zero.mp ?_; simp (disch := ((try unfold I64); omega)) only [wi64_id, td]; omega)), Sub.refl _, Sub.refl _, Sub.refl _, Sub.refl _, Sub.refl _, trivial⟩)
    rw [← h3]
    obtain ⟨k, hk⟩ : ∃ k, s.i = k + 1 := ⟨s.i - 1, by omega⟩
    simp only [hk, heapBuild, Nat.add_sub_cancel]
  · have h0 : s.i = 0 := by omega
    rw [h0, heapBuild] at h3
    refine floopS (α := SI) rfl (fun t => t.d.size = n ∧ t.i ≤ b - a ∧ heapPop (ltC cmp) a t.i t.d = Sort.heapSort (ltC cmp) d a b) (fun t => t.i) (fun t => [(12, .d (.int .i64 ((t.i : Int) - 1))), (0, .d (vec id n)), (8, .d (.int .i64 a)), (9, .d (.int .i64 ((0 : Nat) : Int))), (3, .d (.fn cf []))])
      (fun t => S0.set id (VI t.d)) (fun _ => []) (fun _ => []) (fun t _ => ⟨by simp, osc_VO' eE _ hS⟩) ⟨s.d, b - a⟩ ⟨h1, Nat.le_refl _, by simp only [Sort.heapSort, ← h3]⟩ rfl (fstep_sub ⟨Sub.int (by first | rfl | omega | (refine Int.sub_eq_zero.mp ?_; simp (disch := ((try unfold I64); omega)) only [wi64_id, td]; omega)), Sub.refl _, Sub.refl _, Sub.refl _, Sub.refl _, trivial⟩) ?_
    rintro t ⟨k1, k2, k3⟩
    repeat' first | with_reducible refine fzD_ite (fun q => ?_) (fun q => ?_) | ((try conv => whnf); first | refine bs_d (fun q => ?_) (fun q => ?_) <;> (try simp (disch := ((try unfold I64); omega)) only [wi64_id, td] at q) | refine bs_n ?_ | refine bs_i (fun q => ?_) (fun q => ?_) | refine ckVOQ hC hid hQ (List.length_set ..).symm rfl (siftDown id n hC (swp t.d a (a + (t.i - 1))) 0 (t.i - 1) a (by rw [size_swp']; exact k1) (by omega) (by omega) hn) (.cons (Sub.refl _) (.cons (Sub.refl _) (.cons (Sub.int (by omega)) (.cons (Sub.refl _) (SubL.refl _))))) ?_ | refine pK_i (iaD_vecN (k := a) (by first | rfl | omega | (refine Int.sub_eq_zero.mp ?_; simp (disch := ((try unfold I64); omega)) only [wi64_id, td]; omega)) (by omega)) ?_ | refine pK_i (iaD_vecN (k := a + (t.i - 1)) (by first | rfl | omega | (refine Int.sub_eq_zero.mp ?_; simp (disch := ((try unfold I64); omega)) only [wi64_id, td]; omega)) (by omega)) ?_ | refine pK_i (ldV_VO eE hid k1 (by omega)) ?_ | refine gk_stVO eE hid (List.length_set ..).symm rfl rfl (by simpa using k1) (by omega) rfl ?_ | refine ffin _ (by simp) rfl (osc_VO' eE _ hS) (Sub.refl _) rfl ⟨rfl, ?_, rfl⟩ | refine eqk rfl ?_ | refine ffin _ rfl rfl hS (Sub.refl _) rfl ⟨?_, rfl, rfl⟩)
    · refine fnextS (α := SI) ⟨Sort.siftDown (ltC cmp) (t.i - 1) a 0 (swp t.d a (a + (t.i - 1))), t.i - 1⟩ ⟨by rw [size_sift', size_swp']; exact k1, by simp only; omega, ?_⟩ (by simp only; omega) rfl (fstep_sub ⟨Sub.int (by first | rfl | omega | (refine Int.sub_eq_zero.mp ?_; simp (disch := ((try unfold I64); omega)) only [wi64_id, td]; omega)), Sub.refl _, Sub.refl _, Sub.refl _, Sub.refl _, trivial⟩)
      rw [← k3]
      obtain ⟨k, hk⟩ : ∃ k, t.i = k + 1 := ⟨t.i - 1, by omega⟩
      simp only [hk, heapPop, Nat.add_sub_cancel]
    · have h0 : t.i = 0 := by omega
      rw [h0, heapPop] at k3
      rw [k3]
theorem c78 : cFun E0.P 78 = some ⟨32, [(10, none), (11, none)], .seq (.rg [⟨some 10, none, .mv (.k (.int .i64 0))⟩, ⟨some 11, none, .mv (.k (.int .i64 0))⟩]) (.seq (.seq (.rd [(⟨some 12, none, .mv (.t 4)⟩, none), (⟨some 13, none, .mv (.t 0)⟩, none), (⟨some 14, none, .mv (.t 2)⟩, none), (⟨some 15, none, .ia 4 (.t 13) (.t 14)⟩, none), (⟨some 16, none, .ld 4 true (.t 15)⟩, none), (⟨some 17, none, .mv (.t 0)⟩, none), (⟨some 18, none, .mv (.t 1)⟩, none), (⟨some 19, none, .ia 4 (.t 17) (.t 18)⟩, none), (⟨some 20, none, .ld 4 true (.t 19)⟩, none), (⟨some 21, none, .callv (.t 12) [.t 16, .t 20]⟩, some []), (⟨some 22, none, .bin .lss .leaf (.t 21) (.k (.int .i64 0))⟩, none)]) (.cond (.t 22) (.seq (.rg [⟨some 23, none, .mv (.t 3)⟩, ⟨some 24, none, .nilck (.t 23)⟩, ⟨some 25, none, .ld 1 false (.t 24)⟩, ⟨some 26, none, .bin .add .leaf (.t 25) (.k (.int .i64 1))⟩, ⟨some 27, none, .nilck (.t 23)⟩, ⟨none, none, .st 1 (.t 27) (.t 26)⟩]) (.seq (.rg [⟨some 28, none, .mv (.t 2)⟩, ⟨some 29, none, .mv (.t 1)⟩, ⟨some 10, none, .mv (.t 28)⟩, ⟨some 11, none, .mv (.t 29)⟩]) .ret)) .skip)) (.seq (.rg [⟨some 30, none, .mv (.t 1)⟩, ⟨some 31, none, .mv (.t 2)⟩, ⟨some 10, none, .mv (.t 30)⟩, ⟨some 11, none, .mv (.t 31)⟩]) .ret))⟩ := by kernel_rfl
theorem c74 : cFun E0.P 74 = some ⟨41, [(12, none)], .seq (.rg [⟨some 12, none, .mv (.k (.int .i64 0))⟩]) (.seq (.rg [⟨some 14, none, .mv (.t 0)⟩, ⟨some 15, none, .mv (.t 1)⟩, ⟨some 16, none, .mv (.t 2)⟩, ⟨some 17, none, .mv (.t 4)⟩, ⟨some 18, none, .mv (.t 5)⟩, ⟨some 19, none, .call 78 [.t 14, .t 15, .t 16, .t 17, .t 18]⟩, ⟨some 13, none, .mv (.t 19)⟩, ⟨some 20, none, .ext 0 (.t 13)⟩, ⟨some 21, none, .ext 1 (.t 13)⟩, ⟨some 1, none, .mv (.t 20)⟩, ⟨some 2, none, .mv (.t 21)⟩]) (.seq (.rg [⟨some 23, none, .mv (.t 0)⟩, ⟨some 24, none, .mv (.t 2)⟩, ⟨some 25, none, .mv (.t 3)⟩, ⟨some 26, none, .mv (.t 4)⟩, ⟨some 27, none, .mv (.t 5)⟩, ⟨some 28, none, .call 78 [.t 23, .t 24, .t 25, .t 26, .t 27]⟩, ⟨some 22, none, .mv (.t 28)⟩, ⟨some 29, none, .ext 0 (.t 22)⟩, ⟨some 30, none, .ext 1 (.t 22)⟩, ⟨some 2, none, .mv (.t 29)⟩, ⟨some 3, none, .mv (.t 30)⟩]) (.seq (.rg [⟨some 32, none, .mv (.t 0)⟩, ⟨some 33, none, .mv (.t 1)⟩, ⟨some 34, none, .mv (.t 2)⟩, ⟨some 35, none, .mv (.t 4)⟩, ⟨some 36, none, .mv (.t 5)⟩, ⟨some 37, none, .call 78 [.t 32, .t 33, .t 34, .t 35, .t 36]⟩, ⟨some 31, none, .mv (.t 37)⟩, ⟨some 38, none, .ext 0 (.t 31)⟩, ⟨some 39, none, .ext 1 (.t 31)⟩, ⟨some 1, none, .mv (.t 38)⟩, ⟨some 2, none, .mv (.t 39)⟩]) (.seq (.rg [⟨some 40, none, .mv (.t 2)⟩, ⟨some 12, none, .mv (.t 40)⟩]) .ret))))⟩ := by kernel_rfl
theorem c73 : cFun E0.P 73 = some ⟨18, [(8, none)], .seq (.rg [⟨some 8, none, .mv (.k (.int .i64 0))⟩]) (.seq (.rg [⟨some 9, none, .mv (.t 0)⟩, ⟨some 10, none, .mv (.t 1)⟩, ⟨some 11, none, .bin .sub .leaf (.t 10) (.k (.int .i64 1))⟩, ⟨some 12, none, .mv (.t 1)⟩, ⟨some 13, none, .mv (.t 1)⟩, ⟨some 14, none, .bin .add .leaf (.t 13) (.k (.int .i64 1))⟩, ⟨some 15, none, .mv (.t 2)⟩, ⟨some 16, none, .mv (.t 3)⟩, ⟨some 17, none, .call 74 [.t 9, .t 11, .t 12, .t 14, .t 15, .t 16]⟩, ⟨some 8, none, .mv (.t 17)⟩]) .ret)⟩ := by kernel_rfl
theorem c53 : cFun E0.P 53 = some ⟨63, [(8, none), (9, none)], .seq (.rg [⟨some 8, none, .mv (.k (.int .i64 0))⟩, ⟨some 9, none, .mv (.k (.int .i64 0))⟩]) (.seq (.rg [⟨some 15, none, .mv (.t 2)⟩, ⟨some 16, none, .mv (.t 1)⟩, ⟨some 17, none, .bin .sub .leaf (.t 15) (.t 16)⟩, ⟨some 10, none, .mv (.t 17)⟩]) (.seq (.rg [⟨some 11, none, .alloc [.int .i64 0] 3⟩]) (.seq (.rg [⟨some 18, none, .mv (.t 1)⟩, ⟨some 19, none, .mv (.t 10)⟩, ⟨some 20, none, .bin .quo .leaf (.t 19) (.k (.int .i64 4))⟩, ⟨some 21, none, .bin .mul .leaf (.t 20) (.k (.int .i64 1))⟩, ⟨some 22, none, .bin .add .leaf (.t 18) (.t 21)⟩, ⟨some 12, none, .mv (.t 22)⟩]) (.seq (.rg [⟨some 23, none, .mv (.t 1)⟩, ⟨some 24, none, .mv (.t 10)⟩, ⟨some 25, none, .bin .quo .leaf (.t 24) (.k (.int .i64 4))⟩, ⟨some 26, none, .bin .mul .leaf (.t 25) (.k (.int .i64 2))⟩, ⟨some 27, none, .bin .add .leaf (.t 23) (.t 26)⟩, ⟨some 13, none, .mv (.t 27)⟩]) (.seq (.rg [⟨some 28, none, .mv (.t 1)⟩, ⟨some 29, none, .mv (.t 10)⟩, ⟨some 30, none, .bin .quo .leaf (.t 29) (.k (.int .i64 4))⟩, ⟨some 31, none, .bin .mul .leaf (.t 30) (.k (.int .i64 3))⟩, ⟨some 32, none, .bin .add .leaf (.t 28) (.t 31)⟩, ⟨some 14, none, .mv (.t 32)⟩]) (.seq (.seq (.rg [⟨some 33, none, .mv (.t 10)⟩, ⟨some 34, none, .bin .geq .leaf (.t 33) (.k (.int .i64 8))⟩]) (.cond (.t 34) (.seq (.seq (.rg [⟨some 35, none, .mv (.t 10)⟩, ⟨some 36, none, .bin .geq .leaf (.t 35) (.k (.int .i64 50))⟩]) (.cond (.t 36) (.seq (.rg [⟨some 37, none, .mv (.t 0)⟩, ⟨some 38, none, .mv (.t 12)⟩, ⟨some 39, none, .mv (.t 3)⟩, ⟨some 40, none, .call 73 [.t 37, .t 38, .t 11, .t 39]⟩, ⟨some 12, none, .mv (.t 40)⟩]) (.seq (.rg [⟨some 41, none, .mv (.t 0)⟩, ⟨some 42, none, .mv (.t 13)⟩, ⟨some 43, none, .mv (.t 3)⟩, ⟨some 44, none, .call 73 [.t 41, .t 42, .t 11, .t 43]⟩, ⟨some 13, none, .mv (.t 44)⟩]) (.rg [⟨some 45, none, .mv (.t 0)⟩, ⟨some 46, none, .mv (.t 14)⟩, ⟨some 47, none, .mv (.t 3)⟩, ⟨some 48, none, .call 73 [.t 45, .t 46, .t 11, .t 47]⟩, ⟨some 14, none, .mv (.t 48)⟩]))) .skip)) (.rg [⟨some 49, none, .mv (.t 0)⟩, ⟨some 50, none, .mv (.t 12)⟩, ⟨some 51, none, .mv (.t 13)⟩, ⟨some 52, none, .mv (.t 14)⟩, ⟨some 53, none, .mv (.t 3)⟩, ⟨some 54, none, .call 74 [.t 49, .t 50, .t 51, .t 52, .t 11, .t 53]⟩, ⟨some 13, none, .mv (.t 54)⟩])) .skip)) (.seq (.rg [⟨some 55, none, .ld 1 false (.t 11)⟩]) (.block 0 (.seq (.rg [⟨some 58, none, .bin .eql .leaf (.t 55) (.k (.int .i64 0))⟩, ⟨some 57, none, .mv (.t 58)⟩]) (.cond (.t 57) (.seq (.rg [⟨some 59, none, .mv (.t 13)⟩, ⟨some 8, none, .mv (.t 59)⟩, ⟨some 9, none, .mv (.k (.int .i64 1))⟩]) .ret) (.seq (.rg [⟨some 61, none, .bin .eql .leaf (.t 55) (.k (.int .i64 12))⟩, ⟨some 60, none, .mv (.t 61)⟩]) (.cond (.t 60) (.seq (.rg [⟨some 62, none, .mv (.t 13)⟩, ⟨some 8, none, .mv (.t 62)⟩, ⟨some 9, none, .mv (.k (.int .i64 2))⟩]) .ret) (.seq (.rg [⟨some 56, none, .mv (.t 13)⟩, ⟨some 8, none, .mv (.t 56)⟩, ⟨some 9, none, .mv (.k (.int .i64 0))⟩]) .ret)))))))))))))⟩ := by kernel_rfl


theorem order2 {Q : List O → Prop} {cf : FuncId} {cmp : Lm → Lm → Int} (id pid n : Nat) (hC : CmpQ Q id n cf [] cmp) (d : Array Lm) (a b k : Nat) (hd : d.size = n) (ha : a < n) (hb : b < n) (hn : n < 4611686018427387904) (hk : k < 4611686018427387904) :
    Counts Q 78 id pid n [.int .i64 a, .int .i64 b, .po pid 0, (.fn cf [])] d k (.tup [.int .i64 (order2 (ltC cmp) d a b k).1, .int .i64 (order2 (ltC cmp) d a b k).2.1]) (order2 (ltC cmp) d a b k).2.2 := by
  intro S0 tk hid hp hne hQ
  refine ACalls.fgo c78 rfl fun hS => ?_
  repeat' first | with_reducible refine fzD_ite (fun q => ?_) (fun q => ?_) | ((try conv => whnf); first | refine bs_t hC.ok ?_ | refine bs_d (fun q => ?_) (fun q => ?_) <;> (try simp (disch := ((try unfold I64); omega)) only [wi64_id, td] at q) | refine bs_n ?_ | refine bs_i (fun q => ?_) (fun q => ?_) | refine ckc (S0 := S0.set pid (.arr [.int .i64 k])) hC (by simpa using hid) (hQ k) (by omega) (by simp [SwS]) rfl ?_ | refine cqc (S0 := S0.set pid (.arr [.int .i64 k])) hC (by simpa using hid) (hQ k) (by omega) ?_ | refine pK_i (iaD_vecN (k := b) (by first | rfl | omega | (refine Int.sub_eq_zero.mp ?_; simp (disch := ((try unfold I64); omega)) only [wi64_id, td]; omega)) (by omega)) ?_ | refine pK_i (iaD_vecN (k := a) (by first | rfl | omega | (refine Int.sub_eq_zero.mp ?_; simp (disch := ((try unfold I64); omega)) only [wi64_id, td]; omega)) (by omega)) ?_ | refine pK_i (ldV_Sw eE hid hd (by omega)) ?_ | refine pK_i (ldO_Sw hp hne) ?_ | refine gk_stSw (k' := k + 1) hp hne SwS_len.symm rfl rfl (congrArg (D.int .i64) (by first | rfl | omega | (refine Int.sub_eq_zero.mp ?_; simp (disch := ((try unfold I64); omega)) only [wi64_id, td]; omega))) ?_ | refine ffin _ (by simp [SwS_len]) rfl (osc_Sw hne hS) (Sub.refl _) rfl ⟨?_, ?_, rfl⟩ | refine eqk rfl ?_ | refine ffin _ rfl rfl hS (Sub.refl _) rfl ⟨?_, rfl, rfl⟩)
  · rw [Sort.order2, if_pos (ltt q)]; rfl
  · rw [Sort.order2, if_pos (ltt q)]; try rfl
  · rw [Sort.order2, if_neg (ltn q)]; rfl
  · rw [Sort.order2, if_neg (ltn q)]; try rfl

theorem median {Q : List O → Prop} {cf : FuncId} {cmp : Lm → Lm → Int} (id pid n : Nat) (hC : CmpQ Q id n cf [] cmp) (d : Array Lm) (a b c k : Nat) (hd : d.size = n) (ha : a < n) (hb : b < n) (hc : c < n) (hn : n < 4611686018427387904) (hk : k < 4611686018427387900) :
    Counts Q 74 id pid n [.int .i64 a, .int .i64 b, .int .i64 c, .po pid 0, (.fn cf [])] d k (.int .i64 (median (ltC cmp) d a b c k).1) (median (ltC cmp) d a b c k).2 := by
  intro S0 tk hid hp hne hQ
  have m1 := order2_mem (ltC cmp) d a b k
  have k1 := order2_count (lt := ltC cmp) d a b k
  generalize e1 : Sort.order2 (ltC cmp) d a b k = r1 at m1 k1
  have m2 := order2_mem (ltC cmp) d r1.2.1 c r1.2.2
  have k2 := order2_count (lt := ltC cmp) d r1.2.1 c r1.2.2
  generalize e2 : Sort.order2 (ltC cmp) d r1.2.1 c r1.2.2 = r2 at m2 k2
  have m3 := order2_mem (ltC cmp) d r1.1 r2.1 r2.2.2
  have c1 := order2 id pid n hC d a b k hd ha hb hn (by omega)
  have c2 := order2 id pid n hC d r1.2.1 c r1.2.2 hd (by omega) hc hn (by omega)
  have c3 := order2 id pid n hC d r1.1 r2.1 r2.2.2 hd (by omega) (by omega) hn (by omega)
  rw [e1] at c1
  rw [e2] at c2
  refine ACalls.fgo c74 rfl fun hS => ?_
  repeat' first | with_reducible refine fzD_ite (fun q => ?_) (fun q => ?_) | ((try conv => whnf); first | refine bs_d (fun q => ?_) (fun q => ?_) <;> (try simp (disch := ((try unfold I64); omega)) only [wi64_id, td] at q) | refine bs_n ?_ | refine bs_i (fun q => ?_) (fun q => ?_) | refine ckSwQ hC hid hp hne hQ SwS_len.symm rfl c1 (SubL.refl _) ?_ | refine ckSwQ hC hid hp hne hQ SwS_len.symm rfl c2 (SubL.refl _) ?_ | refine ckSwQ hC hid hp hne hQ SwS_len.symm rfl c3 (SubL.refl _) ?_ | refine ffin _ (by simp [SwS_len]) rfl (osc_Sw hne hS) (Sub.refl _) rfl ⟨?_, ?_, rfl⟩ | refine eqk rfl ?_ | refine ffin _ rfl rfl hS (Sub.refl _) rfl ⟨?_, rfl, rfl⟩)
  · simp only [Sort.median, e1, e2]; rfl
  · simp only [Sort.median, e1, e2]

theorem medianAdjacent {Q : List O → Prop} {cf : FuncId} {cmp : Lm → Lm → Int} (id pid n : Nat) (hC : CmpQ Q id n cf [] cmp) (d : Array Lm) (a k : Nat) (hd : d.size = n) (ha : 0 < a) (hb : a + 1 < n) (hn : n < 4611686018427387904) (hk : k < 4611686018427387900) :
    Counts Q 73 id pid n [.int .i64 a, .po pid 0, (.fn cf [])] d k (.int .i64 (medianAdjacent (ltC cmp) d a k).1) (medianAdjacent (ltC cmp) d a k).2 := by
  intro S0 tk hid hp hne hQ
  have c1 := median id pid n hC d (a - 1) a (a + 1) k hd (by omega) (by omega) hb hn hk
  refine ACalls.fgo c73 rfl fun hS => ?_
  repeat' first | with_reducible refine fzD_ite (fun q => ?_) (fun q => ?_) | ((try conv => whnf); first | refine bs_d (fun q => ?_) (fun q => ?_) <;> (try simp (disch := ((try unfold I64); omega)) only [wi64_id, td] at q) | refine bs_n ?_ | refine bs_i (fun q => ?_) (fun q => ?_) | refine ckSwQ hC hid hp hne hQ SwS_len.symm rfl c1 (.cons (Sub.refl _) (.cons (Sub.int (by first | rfl | omega | (refine Int.sub_eq_zero.mp ?_; simp (disch := ((try unfold I64); omega)) only [wi64_id, td]; omega))) (.cons (Sub.refl _) (.cons (Sub.int (by first | rfl | omega | (refine Int.sub_eq_zero.mp ?_; simp (disch := ((try unfold I64); omega)) only [wi64_id, td]; omega))) (SubL.refl _))))) ?_ | refine ffin _ (by simp [SwS_len]) rfl (osc_Sw hne hS) (Sub.refl _) rfl ⟨?_, ?_, rfl⟩ | refine eqk rfl ?_ | refine ffin _ rfl rfl hS (Sub.refl _) rfl ⟨?_, rfl, rfl⟩)
  all_goals rfl
theorem c56 : cFun E0.P 56 = some ⟨90, [(10, none)], .seq (.rg [⟨some 10, none, .mv (.k (.int .i64 0))⟩]) (.seq (.rd [(⟨some 13, none, .mv (.t 0)⟩, none), (⟨some 14, none, .mv (.t 1)⟩, none), (⟨some 15, none, .mv (.t 0)⟩, none), (⟨some 16, none, .mv (.t 3)⟩, none), (⟨some 17, none, .mv (.t 0)⟩, none), (⟨some 18, none, .mv (.t 3)⟩, none), (⟨some 19, none, .ia 4 (.t 17) (.t 18)⟩, none), (⟨some 20, none, .ld 4 true (.t 19)⟩, none), (⟨some 21, none, .mv (.t 0)⟩, none), (⟨some 22, none, .mv (.t 1)⟩, none), (⟨some 23, none, .ia 4 (.t 21) (.t 22)⟩, none), (⟨some 24, none, .ld 4 true (.t 23)⟩, none), (⟨some 25, none, .ia 4 (.t 13) (.t 14)⟩, none), (⟨none, none, .st 4 (.t 25) (.t 20)⟩, some []), (⟨some 26, none, .ia 4 (.t 15) (.t 16)⟩, none), (⟨none, none, .st 4 (.t 26) (.t 24)⟩, some [])]) (.seq (.rg [⟨some 27, none, .mv (.t 1)⟩, ⟨some 28, none, .bin .add .leaf (.t 27) (.k (.int .i64 1))⟩, ⟨some 29, none, .mv (.t 2)⟩, ⟨some 30, none, .bin .sub .leaf (.t 29) (.k (.int .i64 1))⟩, ⟨some 11, none, .mv (.t 28)⟩, ⟨some 12, none, .mv (.t 30)⟩]) (.seq (.block 0 (.loop (.block 1 (.seq (.block 2 (.loop (.seq (.seq (.rd [(⟨some 31, none, .mv (.t 11)⟩, none), (⟨some 32, none, .mv (.t 12)⟩, none), (⟨some 33, none, .bin .leq .leaf (.t 31) (.t 32)⟩, none), (⟨some 34, none, .mv (.t 33)⟩, none), (⟨some 35, some (34, true), .mv (.t 4)⟩, none), (⟨some 36, some (34, true), .mv (.t 0)⟩, none), (⟨some 37, some (34, true), .mv (.t 1)⟩, none), (⟨some 38, some (34, true), .ia 4 (.t 36) (.t 37)⟩, none), (⟨some 39, some (34, true), .ld 4 true (.t 38)⟩, none), (⟨some 40, some (34, true), .mv (.t 0)⟩, none), (⟨some 41, some (34, true), .mv (.t 11)⟩, none), (⟨some 42, some (34, true), .ia 4 (.t 40) (.t 41)⟩, none), (⟨some 43, some (34, true), .ld 4 true (.t 42)⟩, none), (⟨some 44, some (34, true), .callv (.t 35) [.t 39, .t 43]⟩, some []), (⟨some 45, some (34, true), .bin .lss .leaf (.t 44) (.k (.int .i64 0))⟩, none), (⟨some 46, some (34, true), .un .not (.t 45)⟩, none), (⟨some 47, none, .pick (.t 34) (.t 46) (.k (.bool false))⟩, none)]) (.cond (.t 47) .skip (.exit 2))) (.block 3 (.rg [⟨some 48, none, .mv (.t 11)⟩, ⟨some 49, none, .bin .add .leaf (.t 48) (.k (.int .i64 1))⟩, ⟨some 11, none, .mv (.t 49)⟩]))))) (.seq (.block 4 (.loop (.seq (.seq (.rd [(⟨some 50, none, .mv (.t 11)⟩, none), (⟨some 51, none, .mv (.t 12)⟩, none), (⟨some 52, none, .bin .leq .leaf (.t 50) (.t 51)⟩, none), (⟨some 53, none, .mv (.t 52)⟩, none), (⟨some 54, some (53, true), .mv (.t 4)⟩, none), (⟨some 55, some (53, true), .mv (.t 0)⟩, none), (⟨some 56, some (53, true), .mv (.t 1)⟩, none), (⟨some 57, some (53, true), .ia 4 (.t 55) (.t 56)⟩, none), (⟨some 58, some (53, true), .ld 4 true (.t 57)⟩, none), (⟨some 59, some (53, true), .mv (.t 0)⟩, none), (⟨some 60, some (53, true), .mv (.t 12)⟩, none), (⟨some 61, some (53, true), .ia 4 (.t 59) (.t 60)⟩, none), (⟨some 62, some (53, true), .ld 4 true (.t 61)⟩, none), (⟨some 63, some (53, true), .callv (.t 54) [.t 58, .t 62]⟩, some []), (⟨some 64, some (53, true), .bin .lss .leaf (.t 63) (.k (.int .i64 0))⟩, none), (⟨some 65, none, .pick (.t 53) (.t 64) (.k (.bool false))⟩, none)]) (.cond (.t 65) .skip (.exit 4))) (.block 5 (.rg [⟨some 66, none, .mv (.t 12)⟩, ⟨some 67, none, .bin .sub .leaf (.t 66) (.k (.int .i64 1))⟩, ⟨some 12, none, .mv (.t 67)⟩]))))) (.seq (.seq (.rg [⟨some 68, none, .mv (.t 11)⟩, ⟨some 69, none, .mv (.t 12)⟩, ⟨some 70, none, .bin .gtr .leaf (.t 68) (.t 69)⟩]) (.cond (.t 70) (.exit 0) .skip)) (.seq (.rd [(⟨some 71, none, .mv (.t 0)⟩, none), (⟨some 72, none, .mv (.t 11)⟩, none), (⟨some 73, none, .mv (.t 0)⟩, none), (⟨some 74, none, .mv (.t 12)⟩, none), (⟨some 75, none, .mv (.t 0)⟩, none), (⟨some 76, none, .mv (.t 12)⟩, none), (⟨some 77, none, .ia 4 (.t 75) (.t 76)⟩, none), (⟨some 78, none, .ld 4 true (.t 77)⟩, none), (⟨some 79, none, .mv (.t 0)⟩, none), (⟨some 80, none, .mv (.t 11)⟩, none), (⟨some 81, none, .ia 4 (.t 79) (.t 80)⟩, none), (⟨some 82, none, .ld 4 true (.t 81)⟩, none), (⟨some 83, none, .ia 4 (.t 71) (.t 72)⟩, none), (⟨none, none, .st 4 (.t 83) (.t 78)⟩, some []), (⟨some 84, none, .ia 4 (.t 73) (.t 74)⟩, none), (⟨none, none, .st 4 (.t 84) (.t 82)⟩, some [])]) (.seq (.rg [⟨some 85, none, .mv (.t 11)⟩, ⟨some 86, none, .bin .add .leaf (.t 85) (.k (.int .i64 1))⟩, ⟨some 11, none, .mv (.t 86)⟩]) (.rg [⟨some 87, none, .mv (.t 12)⟩, ⟨some 88, none, .bin .sub .leaf (.t 87) (.k (.int .i64 1))⟩, ⟨some 12, none, .mv (.t 88)⟩]))))))))) (.seq (.rg [⟨some 89, none, .mv (.t 11)⟩, ⟨some 10, none, .mv (.t 89)⟩]) .ret))))⟩ := by kernel_rfl
theorem c57 : cFun E0.P 57 = some ⟨178, [(10, none), (11, none)], .seq (.rg [⟨some 10, none, .mv (.k (.int .i64 0))⟩, ⟨some 11, none, .mv (.k (.bool false))⟩]) (.seq (.rd [(⟨some 14, none, .mv (.t 0)⟩, none), (⟨some 15, none, .mv (.t 1)⟩, none), (⟨some 16, none, .mv (.t 0)⟩, none), (⟨some 17, none, .mv (.t 3)⟩, none), (⟨some 18, none, .mv (.t 0)⟩, none), (⟨some 19, none, .mv (.t 3)⟩, none), (⟨some 20, none, .ia 4 (.t 18) (.t 19)⟩, none), (⟨some 21, none, .ld 4 true (.t 20)⟩, none), (⟨some 22, none, .mv (.t 0)⟩, none), (⟨some 23, none, .mv (.t 1)⟩, none), (⟨some 24, none, .ia 4 (.t 22) (.t 23)⟩, none), (⟨some 25, none, .ld 4 true (.t 24)⟩, none), (⟨some 26, none, .ia 4 (.t 14) (.t 15)⟩, none), (⟨none, none, .st 4 (.t 26) (.t 21)⟩, some []), (⟨some 27, none, .ia 4 (.t 16) (.t 17)⟩, none), (⟨none, none, .st 4 (.t 27) (.t 25)⟩, some [])]) (.seq (.rg [⟨some 28, none, .mv (.t 1)⟩, ⟨some 29, none, .bin .add .leaf (.t 28) (.k (.int .i64 1))⟩, ⟨some 30, none, .mv (.t 2)⟩, ⟨some 31, none, .bin .sub .leaf (.t 30) (.k (.int .i64 1))⟩, ⟨some 12, none, .mv (.t 29)⟩, ⟨some 13, none, .mv (.t 31)⟩]) (.seq (.block 0 (.loop (.seq (.seq (.rd [(⟨some 32, none, .mv (.t 12)⟩, none), (⟨some 33, none, .mv (.t 13)⟩, none), (⟨some 34, none, .bin .leq .leaf (.t 32) (.t 33)⟩, none), (⟨some 35, none, .mv (.t 34)⟩, none), (⟨some 36, some (35, true), .mv (.t 4)⟩, none), (⟨some 37, some (35, true), .mv (.t 0)⟩, none), (⟨some 38, some (35, true), .mv (.t 12)⟩, none), (⟨some 39, some (35, true), .ia 4 (.t 37) (.t 38)⟩, none), (⟨some 40, some (35, true), .ld 4 true (.t 39)⟩, none), (⟨some 41, some (35, true), .mv (.t 0)⟩, none), (⟨some 42, some (35, true), .mv (.t 1)⟩, none), (⟨some 43, some (35, true), .ia 4 (.t 41) (.t 42)⟩, none), (⟨some 44, some (35, true), .ld 4 true (.t 43)⟩, none), (⟨some 45, some (35, true), .callv (.t 36) [.t 40, .t 44]⟩, some []), (⟨some 46, some (35, true), .bin .lss .leaf (.t 45) (.k (.int .i64 0))⟩, none), (⟨some 47, none, .pick (.t 35) (.t 46) (.k (.bool false))⟩, none)]) (.cond (.t 47) .skip (.exit 0))) (.block 1 (.rg [⟨some 48, none, .mv (.t 12)⟩, ⟨some 49, none, .bin .add .leaf (.t 48) (.k (.int .i64 1))⟩, ⟨some 12, none, .mv (.t 49)⟩]))))) (.seq (.block 2 (.loop (.seq (.seq (.rd [(⟨some 50, none, .mv (.t 12)⟩, none), (⟨some 51, none, .mv (.t 13)⟩, none), (⟨some 52, none, .bin .leq .leaf (.t 50) (.t 51)⟩, none), (⟨some 53, none, .mv (.t 52)⟩, none), (⟨some 54, some (53, true), .mv (.t 4)⟩, none), (⟨some 55, some (53, true), .mv (.t 0)⟩, none), (⟨some 56, some (53, true), .mv (.t 13)⟩, none), (⟨some 57, some (53, true), .ia 4 (.t 55) (.t 56)⟩, none), (⟨some 58, some (53, true), .ld 4 true (.t 57)⟩, none), (⟨some 59, some (53, true), .mv (.t 0)⟩, none), (⟨some 60, some (53, true), .mv (.t 1)⟩, none), (⟨some 61, some (53, true), .ia 4 (.t 59) (.t 60)⟩, none), (⟨some 62, some (53, true), .ld 4 true (.t 61)⟩, none), (⟨some 63, some (53, true), .callv (.t 54) [.t 58, .t 62]⟩, some []), (⟨some 64, some (53, true), .bin .lss .leaf (.t 63) (.k (.int .i64 0))⟩, none), (⟨some 65, some (53, true), .un .not (.t 64)⟩, none), (⟨some 66, none, .pick (.t 53) (.t 65) (.k (.bool false))⟩, none)]) (.cond (.t 66) .skip (.exit 2))) (.block 3 (.rg [⟨some 67, none, .mv (.t 13)⟩, ⟨some 68, none, .bin .sub .leaf (.t 67) (.k (.int .i64 1))⟩, ⟨some 13, none, .mv (.t 68)⟩]))))) (.seq (.seq (.rg [⟨some 69, none, .mv (.t 12)⟩, ⟨some 70, none, .mv (.t 13)⟩, ⟨some 71, none, .bin .gtr .leaf (.t 69) (.t 70)⟩]) (.cond (.t 71) (.seq (.rd [(⟨some 72, none, .mv (.t 0)⟩, none), (⟨some 73, none, .mv (.t 13)⟩, none), (⟨some 74, none, .mv (.t 0)⟩, none), (⟨some 75, none, .mv (.t 1)⟩, none), (⟨some 76, none, .mv (.t 0)⟩, none), (⟨some 77, none, .mv (.t 1)⟩, none), (⟨some 78, none, .ia 4 (.t 76) (.t 77)⟩, none), (⟨some 79, none, .ld 4 true (.t 78)⟩, none), (⟨some 80, none, .mv (.t 0)⟩, none), (⟨some 81, none, .mv (.t 13)⟩, none), (⟨some 82, none, .ia 4 (.t 80) (.t 81)⟩, none), (⟨some 83, none, .ld 4 true (.t 82)⟩, none), (⟨some 84, none, .ia 4 (.t 72) (.t 73)⟩, none), (⟨none, none, .st 4 (.t 84) (.t 79)⟩, some []), (⟨some 85, none, .ia 4 (.t 74) (.t 75)⟩, none), (⟨none, none, .st 4 (.t 85) (.t 83)⟩, some [])]) (.seq (.rg [⟨some 86, none, .mv (.t 13)⟩, ⟨some 10, none, .mv (.t 86)⟩, ⟨some 11, none, .mv (.k (.bool true))⟩]) .ret)) .skip)) (.seq (.rd [(⟨some 87, none, .mv (.t 0)⟩, none), (⟨some 88, none, .mv (.t 12)⟩, none), (⟨some 89, none, .mv (.t 0)⟩, none), (⟨some 90, none, .mv (.t 13)⟩, none), (⟨some 91, none, .mv (.t 0)⟩, none), (⟨some 92, none, .mv (.t 13)⟩, none), (⟨some 93, none, .ia 4 (.t 91) (.t 92)⟩, none), (⟨some 94, none, .ld 4 true (.t 93)⟩, none), (⟨some 95, none, .mv (.t 0)⟩, none), (⟨some 96, none, .mv (.t 12)⟩, none), (⟨some 97, none, .ia 4 (.t 95) (.t 96)⟩, none), (⟨some 98, none, .ld 4 true (.t 97)⟩, none), (⟨some 99, none, .ia 4 (.t 87) (.t 88)⟩, none), (⟨none, none, .st 4 (.t 99) (.t 94)⟩, some []), (⟨some 100, none, .ia 4 (.t 89) (.t 90)⟩, none), (⟨none, none, .st 4 (.t 100) (.t 98)⟩, some [])]) (.seq (.rg [⟨some 101, none, .mv (.t 12)⟩, ⟨some 102, none, .bin .add .leaf (.t 101) (.k (.int .i64 1))⟩, ⟨some 12, none, .mv (.t 102)⟩]) (.seq (.rg [⟨some 103, none, .mv (.t 13)⟩, ⟨some 104, none, .bin .sub .leaf (.t 103) (.k (.int .i64 1))⟩, ⟨some 13, none, .mv (.t 104)⟩]) (.seq (.block 4 (.loop (.block 5 (.seq (.block 6 (.loop (.seq (.seq (.rd [(⟨some 105, none, .mv (.t 12)⟩, none), (⟨some 106, none, .mv (.t 13)⟩, none), (⟨some 107, none, .bin .leq .leaf (.t 105) (.t 106)⟩, none), (⟨some 108, none, .mv (.t 107)⟩, none), (⟨some 109, some (108, true), .mv (.t 4)⟩, none), (⟨some 110, some (108, true), .mv (.t 0)⟩, none), (⟨some 111, some (108, true), .mv (.t 12)⟩, none), (⟨some 112, some (108, true), .ia 4 (.t 110) (.t 111)⟩, none), (⟨some 113, some (108, true), .ld 4 true (.t 112)⟩, none), (⟨some 114, some (108, true), .mv (.t 0)⟩, none), (⟨some 115, some (108, true), .mv (.t 1)⟩, none), (⟨some 116, some (108, true), .ia 4 (.t 114) (.t 115)⟩, none), (⟨some 117, some (108, true), .ld 4 true (.t 116)⟩, none), (⟨some 118, some (108, true), .callv (.t 109) [.t 113, .t 117]⟩, some []), (⟨some 119, some (108, true), .bin .lss .leaf (.t 118) (.k (.int .i64 0))⟩, none), (⟨some 120, none, .pick (.t 108) (.t 119) (.k (.bool false))⟩, none)]) (.cond (.t 120) .skip (.exit 6))) (.block 7 (.rg [⟨some 121, none, .mv (.t 12)⟩, ⟨some 122, none, .bin .add .leaf (.t 121) (.k (.int .i64 1))⟩, ⟨some 12, none, .mv (.t 122)⟩]))))) (.seq (.block 8 (.loop (.seq (.seq (.rd [(⟨some 123, none, .mv (.t 12)⟩, none), (⟨some 124, none, .mv (.t 13)⟩, none), (⟨some 125, none, .bin .leq .leaf (.t 123) (.t 124)⟩, none), (⟨some 126, none, .mv (.t 125)⟩, none), (⟨some 127, some (126, true), .mv (.t 4)⟩, none), (⟨some 128, some (126, true), .mv (.t 0)⟩, none), (⟨some 129, some (126, true), .mv (.t 13)⟩, none), (⟨some 130, some (126, true), .ia 4 (.t 128) (.t 129)⟩, none), (⟨some 131, some (126, true), .ld 4 true (.t 130)⟩, none), (⟨some 132, some (126, true), .mv (.t 0)⟩, none), (⟨some 133, some (126, true), .mv (.t 1)⟩, none), (⟨some 134, some (126, true), .ia 4 (.t 132) (.t 133)⟩, none), (⟨some 135, some (126, true), .ld 4 true (.t 134)⟩, none), (⟨some 136, some (126, true), .callv (.t 127) [.t 131, .t 135]⟩, some []), (⟨some 137, some (126, true), .bin .lss .leaf (.t 136) (.k (.int .i64 0))⟩, none), (⟨some 138, some (126, true), .un .not (.t 137)⟩, none), (⟨some 139, none, .pick (.t 126) (.t 138) (.k (.bool false))⟩, none)]) (.cond (.t 139) .skip (.exit 8))) (.block 9 (.rg [⟨some 140, none, .mv (.t 13)⟩, ⟨some 141, none, .bin .sub .leaf (.t 140) (.k (.int .i64 1))⟩, ⟨some 13, none, .mv (.t 141)⟩]))))) (.seq (.seq (.rg [⟨some 142, none, .mv (.t 12)⟩, ⟨some 143, none, .mv (.t 13)⟩, ⟨some 144, none, .bin .gtr .leaf (.t 142) (.t 143)⟩]) (.cond (.t 144) (.exit 4) .skip)) (.seq (.rd [(⟨some 145, none, .mv (.t 0)⟩, none), (⟨some 146, none, .mv (.t 12)⟩, none), (⟨some 147, none, .mv (.t 0)⟩, none), (⟨some 148, none, .mv (.t 13)⟩, none), (⟨some 149, none, .mv (.t 0)⟩, none), (⟨some 150, none, .mv (.t 13)⟩, none), (⟨some 151, none, .ia 4 (.t 149) (.t 150)⟩, none), (⟨some 152, none, .ld 4 true (.t 151)⟩, none), (⟨some 153, none, .mv (.t 0)⟩, none), (⟨some 154, none, .mv (.t 12)⟩, none), (⟨some 155, none, .ia 4 (.t 153) (.t 154)⟩, none), (⟨some 156, none, .ld 4 true (.t 155)⟩, none), (⟨some 157, none, .ia 4 (.t 145) (.t 146)⟩, none), (⟨none, none, .st 4 (.t 157) (.t 152)⟩, some []), (⟨some 158, none, .ia 4 (.t 147) (.t 148)⟩, none), (⟨none, none, .st 4 (.t 158) (.t 156)⟩, some [])]) (.seq (.rg [⟨some 159, none, .mv (.t 12)⟩, ⟨some 160, none, .bin .add .leaf (.t 159) (.k (.int .i64 1))⟩, ⟨some 12, none, .mv (.t 160)⟩]) (.rg [⟨some 161, none, .mv (.t 13)⟩, ⟨some 162, none, .bin .sub .leaf (.t 161) (.k (.int .i64 1))⟩, ⟨some 13, none, .mv (.t 162)⟩]))))))))) (.seq (.rd [(⟨some 163, none, .mv (.t 0)⟩, none), (⟨some 164, none, .mv (.t 13)⟩, none), (⟨some 165, none, .mv (.t 0)⟩, none), (⟨some 166, none, .mv (.t 1)⟩, none), (⟨some 167, none, .mv (.t 0)⟩, none), (⟨some 168, none, .mv (.t 1)⟩, none), (⟨some 169, none, .ia 4 (.t 167) (.t 168)⟩, none), (⟨some 170, none, .ld 4 true (.t 169)⟩, none), (⟨some 171, none, .mv (.t 0)⟩, none), (⟨some 172, none, .mv (.t 13)⟩, none), (⟨some 173, none, .ia 4 (.t 171) (.t 172)⟩, none), (⟨some 174, none, .ld 4 true (.t 173)⟩, none), (⟨some 175, none, .ia 4 (.t 163) (.t 164)⟩, none), (⟨none, none, .st 4 (.t 175) (.t 170)⟩, some []), (⟨some 176, none, .ia 4 (.t 165) (.t 166)⟩, none), (⟨none, none, .st 4 (.t 176) (.t 174)⟩, some [])]) (.seq (.rg [⟨some 177, none, .mv (.t 13)⟩, ⟨some 10, none, .mv (.t 177)⟩, ⟨some 11, none, .mv (.k (.bool false))⟩]) .ret)))))))))))⟩ := by kernel_rfl


set_option maxHeartbeats 1000000 in
theorem choosePivot {Q : List O → Prop} {cf : FuncId} {cmp : Lm → Lm → Int} (id n : Nat) (hC : CmpQ Q id n cf [] cmp) (d : Array Lm) (a b : Nat) (hd : d.size = n) (hab : a < b) (hb : b ≤ n) (hn : n < 4611686018427387904) :
    Turns Q 53 id n [.int .i64 a, .int .i64 b, (.fn cf [])] d (.tup [.int .i64 (choosePivot (ltC cmp) d a b).1, .int .i64 (hintCode (choosePivot (ltC cmp) d a b).2)]) d := by
  intro S0 tk hid hQ
  have m1 := medianAdjacent_mem (ltC cmp) d (a + (b - a) / 4 * 1) 0
  have k1 := medianAdjacent_count (lt := ltC cmp) d (a + (b - a) / 4 * 1) 0
  generalize e1 : Sort.medianAdjacent (ltC cmp) d (a + (b - a) / 4 * 1) 0 = r1 at m1 k1
  have m2 := medianAdjacent_mem (ltC cmp) d (a + (b - a) / 4 * 2) r1.2
  have k2 := medianAdjacent_count (lt := ltC cmp) d (a + (b - a) / 4 * 2) r1.2
  generalize e2 : Sort.medianAdjacent (ltC cmp) d (a + (b - a) / 4 * 2) r1.2 = r2 at m2 k2
  have m3 := medianAdjacent_mem (ltC cmp) d (a + (b - a) / 4 * 3) r2.2
  have k3 := medianAdjacent_count (lt := ltC cmp) d (a + (b - a) / 4 * 3) r2.2
  generalize e3 : Sort.medianAdjacent (ltC cmp) d (a + (b - a) / 4 * 3) r2.2 = r3 at m3 k3
  have c1 : ∀ p, 8 ≤ b - a → Counts Q 73 id p n [.int .i64 (a + (b - a) / 4 * 1 : Nat), .po p 0, (.fn cf [])] d 0 (.int .i64 r1.1) r1.2 := fun p h => by
    have := medianAdjacent id p n hC d (a + (b - a) / 4 * 1) 0 hd (by omega) (by omega) hn (by omega)
    rwa [e1] at this
  have c2 : ∀ p, 8 ≤ b - a → Counts Q 73 id p n [.int .i64 (a + (b - a) / 4 * 2 : Nat), .po p 0, (.fn cf [])] d r1.2 (.int .i64 r2.1) r2.2 := fun p h => by
    have := medianAdjacent id p n hC d (a + (b - a) / 4 * 2) r1.2 hd (by omega) (by omega) hn (by omega)
    rwa [e2] at this
  have c3 : ∀ p, 8 ≤ b - a → Counts Q 73 id p n [.int .i64 (a + (b - a) / 4 * 3 : Nat), .po p 0, (.fn cf [])] d r2.2 (.int .i64 r3.1) r3.2 := fun p h => by
    have := medianAdjacent id p n hC d (a + (b - a) / 4 * 3) r2.2 hd (by omega) (by omega) hn (by omega)
    rwa [e3] at this
  have c4 : ∀ p, 8 ≤ b - a → Counts Q 74 id p n [.int .i64 r1.1, .int .i64 r2.1, .int .i64 r3.1, .po p 0, (.fn cf [])] d r3.2 (.int .i64 (Sort.median (ltC cmp) d r1.1 r2.1 r3.1 r3.2).1) (Sort.median (ltC cmp) d r1.1 r2.1 r3.1 r3.2).2 := fun p h =>
    median id p n hC d r1.1 r2.1 r3.1 r3.2 hd (by omega) (by omega) (by omega) hn (by omega)
  have c5 : ∀ p, 8 ≤ b - a → Counts Q 74 id p n [.int .i64 (a + (b - a) / 4 * 1 : Nat), .int .i64 (a + (b - a) / 4 * 2 : Nat), .int .i64 (a + (b - a) / 4 * 3 : Nat), .po p 0, (.fn cf [])] d 0 _ _ := fun p h =>
    median id p n hC d (a + (b - a) / 4 * 1) (a + (b - a) / 4 * 2) (a + (b - a) / 4 * 3) 0 hd (by omega) (by omega) (by omega) hn (by omega)
  have hraw : rawPivot (ltC cmp) d a b = if b - a ≥ 8 then (if b - a ≥ 50 then Sort.median (ltC cmp) d r1.1 r2.1 r3.1 r3.2 else Sort.median (ltC cmp) d (a + (b - a) / 4 * 1) (a + (b - a) / 4 * 2) (a + (b - a) / 4 * 3) 0) else (a + (b - a) / 4 * 2, 0) := by
    unfold rawPivot
    rw [e1, e2, e3]
  rw [choosePivot_eq]
  refine ACalls.fgo c53 rfl fun hS => ?_
  repeat' first | with_reducible refine fzD_ite (fun q => ?_) (fun q => ?_) | ((try conv => whnf); first | refine bs_d (fun q => ?_) (fun q => ?_) <;> (try simp (disch := ((try unfold I64); omega)) only [wi64_id, td] at q) | refine bs_n ?_ | refine bs_i (fun q => ?_) (fun q => ?_) | refine ckSwNQ (k := 0) hC hid hQ (List.length_set ..).symm rfl (c1 _ (by omega)) (.cons (Sub.refl _) (.cons (Sub.int (by first | rfl | omega | (refine Int.sub_eq_zero.mp ?_; simp (disch := ((try unfold I64); omega)) only [wi64_id, td]; omega))) (SubL.refl _))) ?_ | refine ckSwNQ hC hid hQ (List.length_set ..).symm rfl (c2 _ (by omega)) (.cons (Sub.refl _) (.cons (Sub.int (by first | rfl | omega | (refine Int.sub_eq_zero.mp ?_; simp (disch := ((try unfold I64); omega)) only [wi64_id, td]; omega))) (SubL.refl _))) ?_ | refine ckSwNQ hC hid hQ (List.length_set ..).symm rfl (c3 _ (by omega)) (.cons (Sub.refl _) (.cons (Sub.int (by first | rfl | omega | (refine Int.sub_eq_zero.mp ?_; simp (disch := ((try unfold I64); omega)) only [wi64_id, td]; omega))) (SubL.refl _))) ?_ | refine ckSwNQ hC hid hQ (List.length_set ..).symm rfl (c4 _ (by omega)) (SubL.refl _) ?_ | refine ckSwNQ (k := 0) hC hid hQ (List.length_set ..).symm rfl (c5 _ (by omega)) (.cons (Sub.refl _) (.cons (Sub.int (by first | rfl | omega | (refine Int.sub_eq_zero.mp ?_; simp (disch := ((try unfold I64); omega)) only [wi64_id, td]; omega))) (.cons (Sub.int (by first | rfl | omega | (refine Int.sub_eq_zero.mp ?_; simp (disch := ((try unfold I64); omega)) only [wi64_id, td]; omega))) (.cons (Sub.int (by first | rfl | omega | (refine Int.sub_eq_zero.mp ?_; simp (disch := ((try unfold I64); omega)) only [wi64_id, td]; omega))) (SubL.refl _))))) ?_ | refine ffin _ (by simp) rfl hS (Sub.refl _) rfl ⟨?_, rfl, rfl⟩ | refine eqk rfl ?_ | refine ffin _ rfl rfl hS (Sub.refl _) rfl ⟨?_, rfl, rfl⟩)
  all_goals rw [hraw]
  all_goals first
    | rw [if_pos (by omega), if_pos (by omega)]
    | rw [if_pos (by omega), if_neg (by omega)]
    | rw [if_neg (by omega)]
  all_goals simp only [tupD, hintOf]
  all_goals first
    | (rw [if_pos (by omega)]; first | rfl | (simp only [D.tup.injEq, List.cons.injEq, D.int.injEq, true_and, and_true]; exact ⟨(by first | rfl | omega | (refine Int.sub_eq_zero.mp ?_; simp (disch := ((try unfold I64); omega)) only [wi64_id, td]; omega)), rfl⟩))
    | (rw [if_neg (by omega), if_pos (by omega)]; rfl)
    | (rw [if_neg (by omega), if_neg (by omega)]; rfl)
    | (simp only [D.tup.injEq, List.cons.injEq, D.int.injEq, true_and, and_true, ↓reduceIte]; exact ⟨(by first | rfl | omega | (refine Int.sub_eq_zero.mp ?_; simp (disch := ((try unfold I64); omega)) only [wi64_id, td]; omega)), rfl⟩)

theorem partitionEqual {Q : List O → Prop} {cf : FuncId} {cmp : Lm → Lm → Int} (id n : Nat) (hC : CmpQ Q id n cf [] cmp) (d : Array Lm) (a b p : Nat) (hd : d.size = n) (hap : a ≤ p) (hpb : p < b) (hb : b ≤ n) (hn : n < 4611686018427387904) :
    Turns Q 56 id n [.int .i64 a, .int .i64 b, .int .i64 p, (.fn cf [])] d (.int .i64 (partitionEqual (ltC cmp) d a b p).1) (partitionEqual (ltC cmp) d a b p).2 := by
  intro S0 tk hid hQ
  refine ACalls.fgo c56 rfl fun hS => ?_
  repeat' first | with_reducible refine fzD_ite (fun q => ?_) (fun q => ?_) | ((try conv => whnf); first | refine bs_d (fun q => ?_) (fun q => ?_) <;> (try simp (disch := ((try unfold I64); omega)) only [wi64_id, td] at q) | refine bs_n ?_ | refine bs_i (fun q => ?_) (fun q => ?_) | refine pK_i (iaD_vecN (k := p) (by first | rfl | omega | (refine Int.sub_eq_zero.mp ?_; simp (disch := ((try unfold I64); omega)) only [wi64_id, td]; omega)) (by omega)) ?_ | refine pK_i (iaD_vecN (k := a) (by first | rfl | omega | (refine Int.sub_eq_zero.mp ?_; simp (disch := ((try unfold I64); omega)) only [wi64_id, td]; omega)) (by omega)) ?_ | refine pK_i (ldV_VO eE hid hd (by omega)) ?_ | refine gk_stVO eE hid (List.length_set ..).symm rfl rfl (by simpa using hd) (by omega) rfl ?_ | refine eqk rfl ?_ | refine ffin _ rfl rfl hS (Sub.refl _) rfl ⟨?_, rfl, rfl⟩)
  refine floopS (α := SJ) rfl (fun s => s.d.size = n ∧ a < s.i ∧ s.i ≤ s.j + 1 ∧ s.j < b ∧ partEqLoop (ltC cmp) a s.i s.j s.d = Sort.partitionEqual (ltC cmp) d a b p) (fun s => s.j + 1 - s.i) (fun s => [(11, .d (.int .i64 s.i)), (12, .d (.int .i64 s.j)), (0, .d (vec id n)), (1, .d (.int .i64 a)), (4, .d (.fn cf []))])
    (fun s => S0.set id (VI s.d)) (fun _ => []) (fun _ => []) (fun s _ => ⟨by simp, osc_VO' eE _ hS⟩) ⟨swp d a p, a + 1, b - 1⟩ ⟨by rw [size_swp']; exact hd, by simp, by simp only; omega, by simp only; omega, rfl⟩ rfl (fstep_sub ⟨Sub.int (by first | rfl | omega | (refine Int.sub_eq_zero.mp ?_; simp (disch := ((try unfold I64); omega)) only [wi64_id, td]; omega)), Sub.int (by first | rfl | omega | (refine Int.sub_eq_zero.mp ?_; simp (disch := ((try unfold I64); omega)) only [wi64_id, td]; omega)), Sub.refl _, Sub.refl _, Sub.refl _, trivial⟩) ?_
  rintro s ⟨h1, h2, h3, h4, h5⟩
  refine floopS (α := SI) rfl (fun t => t.d = s.d ∧ s.i ≤ t.i ∧ t.i ≤ s.j + 1 ∧ scanUp (fun x => !(ltC cmp) s.d[a]! x) s.d s.j t.i = scanUp (fun x => !(ltC cmp) s.d[a]! x) s.d s.j s.i) (fun t => s.j + 1 - t.i) (fun t => [(11, .d (.int .i64 t.i)), (12, .d (.int .i64 s.j)), (0, .d (vec id n)), (1, .d (.int .i64 a)), (4, .d (.fn cf []))])
    (fun _ => S0.set id (VI s.d)) (fun _ => []) (fun _ => []) (fun _ _ => ⟨by simp, osc_VO' eE _ hS⟩) ⟨s.d, s.i⟩ ⟨rfl, Nat.le_refl _, h3, rfl⟩ rfl (fstep_sub ⟨Sub.refl _, Sub.refl _, Sub.refl _, Sub.refl _, Sub.refl _, trivial⟩) ?_
  rintro t ⟨-, k2, k3, k4⟩
  repeat' first | with_reducible refine fzD_ite (fun q => ?_) (fun q => ?_) | ((try conv => whnf); first | refine bs_t hC.ok ?_ | refine bs_d (fun q => ?_) (fun q => ?_) <;> (try simp (disch := ((try unfold I64); omega)) only [wi64_id, td] at q) | refine bs_n ?_ | refine bs_i (fun q => ?_) (fun q => ?_) | refine ckc hC hid hQ (by omega) (List.length_set ..).symm rfl ?_ | refine cqc hC hid hQ (by omega) ?_ | refine pK_i (iaD_vecN (k := a) (by first | rfl | omega | (refine Int.sub_eq_zero.mp ?_; simp (disch := ((try unfold I64); omega)) only [wi64_id, td]; omega)) (by omega)) ?_ | refine pK_i (iaD_vecN (k := t.i) (by first | rfl | omega | (refine Int.sub_eq_zero.mp ?_; simp (disch := ((try unfold I64); omega)) only [wi64_id, td]; omega)) (by omega)) ?_ | refine pK_i (ldV_VO eE hid h1 (by omega)) ?_ | refine eqk rfl ?_ | refine ffin _ rfl rfl hS (Sub.refl _) rfl ⟨?_, rfl, rfl⟩)
  case' refine_1.refine_2 =>
    refine fnextS (α := SI) ⟨s.d, t.i + 1⟩ ⟨rfl, by simp only; omega, by simp only; omega, ?_⟩ (by simp only; omega) rfl (fstep_sub ⟨Sub.int (by first | rfl | omega | (refine Int.sub_eq_zero.mp ?_; simp (disch := ((try unfold I64); omega)) only [wi64_id, td]; omega)), Sub.refl _, Sub.refl _, Sub.refl _, Sub.refl _, trivial⟩)
    rw [← k4, scanUp_step (i := t.i) (by omega) (by simp [ltf q])]
  case' refine_1.refine_1 =>
    have fs : t.i ≤ s.j → (ltC cmp) s.d[a]! s.d[t.i]! = true := fun _ => ltt (by assumption)
  case' refine_2 =>
    have fs : t.i ≤ s.j → (ltC cmp) s.d[a]! s.d[t.i]! = true := fun _ => by omega
  all_goals
    have hs : scanUp (fun x => !(ltC cmp) s.d[a]! x) s.d s.j t.i = t.i := scanUp_stop fun h => by simp [fs h]
    rw [hs] at k4
    refine floopS (α := SI) rfl (fun u => u.d = s.d ∧ u.i ≤ s.j ∧ t.i ≤ u.i + 1 ∧ scanDown (fun x => (ltC cmp) s.d[a]! x) s.d t.i u.i = scanDown (fun x => (ltC cmp) s.d[a]! x) s.d t.i s.j) (fun u => u.i) (fun u => [(11, .d (.int .i64 t.i)), (12, .d (.int .i64 u.i)), (0, .d (vec id n)), (1, .d (.int .i64 a)), (4, .d (.fn cf []))])
      (fun _ => S0.set id (VI s.d)) (fun _ => []) (fun _ => []) (fun _ _ => ⟨by simp, osc_VO' eE _ hS⟩) ⟨s.d, s.j⟩ ⟨rfl, Nat.le_refl _, k3, rfl⟩ rfl (fstep_sub ⟨Sub.refl _, Sub.refl _, Sub.refl _, Sub.refl _, Sub.refl _, trivial⟩) ?_
    rintro u ⟨-, l2, l3, l4⟩
    repeat' first | with_reducible refine fzD_ite (fun q => ?_) (fun q => ?_) | ((try conv => whnf); first | refine bs_t hC.ok ?_ | refine bs_d (fun q => ?_) (fun q => ?_) <;> (try simp (disch := ((try unfold I64); omega)) only [wi64_id, td] at q) | refine bs_n ?_ | refine bs_i (fun q => ?_) (fun q => ?_) | refine ckc hC hid hQ (by omega) (List.length_set ..).symm rfl ?_ | refine cqc hC hid hQ (by omega) ?_ | refine pK_i (iaD_vecN (k := a) (by first | rfl | omega | (refine Int.sub_eq_zero.mp ?_; simp (disch := ((try unfold I64); omega)) only [wi64_id, td]; omega)) (by omega)) ?_ | refine pK_i (iaD_vecN (k := u.i) (by first | rfl | omega | (refine Int.sub_eq_zero.mp ?_; simp (disch := ((try unfold I64); omega)) only [wi64_id, td]; omega)) (by omega)) ?_ | refine pK_i (ldV_VO eE hid h1 (by omega)) ?_ | refine eqk rfl ?_ | refine ffin _ rfl rfl hS (Sub.refl _) rfl ⟨?_, rfl, rfl⟩)
    · first
        | (exfalso; omega)
        | (refine fnextS (α := SI) ⟨s.d, u.i - 1⟩ ⟨rfl, by simp only; omega, by simp only; omega, ?_⟩ (by simp only; omega) rfl (fstep_sub ⟨Sub.refl _, Sub.int (by first | rfl | omega | (refine Int.sub_eq_zero.mp ?_; simp (disch := ((try unfold I64); omega)) only [wi64_id, td]; omega)), Sub.refl _, Sub.refl _, Sub.refl _, trivial⟩)
           rw [← l4, scanDown_step (j := u.i) (by omega) (by omega) (ltt q)])
    all_goals
      have fu : t.i ≤ u.i → (ltC cmp) s.d[a]! s.d[u.i]! = false := fun h => by first | (exfalso; omega) | exact ltf (by assumption)
      have hu : scanDown (fun x => (ltC cmp) s.d[a]! x) s.d t.i u.i = u.i := scanDown_stop fun h => by simp [fu h]
      have hne : t.i ≠ u.i := fun e => by
        have x1 := fs (by omega)
        rw [e, fu (by omega)] at x1
        cases x1
      rw [hu] at l4
      have heq := partEqLoop_eq (ltC cmp) a s.i s.j s.d
      rw [← k4, ← l4] at heq
      repeat' first | with_reducible refine fzD_ite (fun q => ?_) (fun q => ?_) | ((try conv => whnf); first | refine bs_d (fun q => ?_) (fun q => ?_) <;> (try simp (disch := ((try unfold I64); omega)) only [wi64_id, td] at q) | refine bs_n ?_ | refine bs_i (fun q => ?_) (fun q => ?_) | refine pK_i (iaD_vecN (k := t.i) (by first | rfl | omega | (refine Int.sub_eq_zero.mp ?_; simp (disch := ((try unfold I64); omega)) only [wi64_id, td]; omega)) (by omega)) ?_ | refine pK_i (iaD_vecN (k := u.i) (by first | rfl | omega | (refine Int.sub_eq_zero.mp ?_; simp (disch := ((try unfold I64); omega)) only [wi64_id, td]; omega)) (by omega)) ?_ | refine pK_i (ldV_VO eE hid h1 (by omega)) ?_ | refine gk_stVO eE hid (List.length_set ..).symm rfl rfl (by simpa using h1) (by omega) rfl ?_ | refine ffin _ (by simp) rfl (osc_VO' eE _ hS) (Sub.refl _) rfl ⟨?_, ?_, rfl⟩ | refine eqk rfl ?_ | refine ffin _ rfl rfl hS (Sub.refl _) rfl ⟨?_, rfl, rfl⟩)
      all_goals first
        | (exfalso; omega)
        | (rw [← h5, heq, if_pos (by omega)]; rfl)
        | rw [← h5, heq, if_pos (by omega)]
        | (refine fnextS (α := SJ) ⟨swp s.d t.i u.i, t.i + 1, u.i - 1⟩ ⟨by rw [size_swp']; exact h1, by simp only; omega, by simp only; omega, by simp only; omega, ?_⟩ (by simp only; omega) rfl (fstep_sub ⟨Sub.int (by first | rfl | omega | (refine Int.sub_eq_zero.mp ?_; simp (disch := ((try unfold I64); omega)) only [wi64_id, td]; omega)), Sub.int (by first | rfl | omega | (refine Int.sub_eq_zero.mp ?_; simp (disch := ((try unfold I64); omega)) only [wi64_id, td]; omega)), Sub.refl _, Sub.refl _, Sub.refl _, trivial⟩)
           rw [← h5, heq, if_neg (by omega)])
set_option maxHeartbeats 4000000 in
theorem partition {Q : List O → Prop} {cf : FuncId} {cmp : Lm → Lm → Int} (id n : Nat) (hC : CmpQ Q id n cf [] cmp) (d : Array Lm) (a b p : Nat) (hd : d.size = n) (hap : a ≤ p) (hpb : p < b) (hb : b ≤ n) (hn : n < 4611686018427387904) :
    Turns Q 57 id n [.int .i64 a, .int .i64 b, .int .i64 p, (.fn cf [])] d (.tup [.int .i64 (partition (ltC cmp) d a b p).1, .bool (partition (ltC cmp) d a b p).2.1]) (partition (ltC cmp) d a b p).2.2 := by
  intro S0 tk hid hQ
  have hs0 : (swp d a p).size = n := by rw [size_swp']; exact hd
  generalize hd0 : swp d a p = d0 at hs0
  refine ACalls.fgo c57 rfl fun hS => ?_
  repeat' first | with_reducible refine fzD_ite (fun q => ?_) (fun q => ?_) | ((try conv => whnf); first | refine bs_d (fun q => ?_) (fun q => ?_) <;> (try simp (disch := ((try unfold I64); omega)) only [wi64_id, td] at q) | refine bs_n ?_ | refine bs_i (fun q => ?_) (fun q => ?_) | refine pK_i (iaD_vecN (k := p) (by first | rfl | omega | (refine Int.sub_eq_zero.mp ?_; simp (disch := ((try unfold I64); omega)) only [wi64_id, td]; omega)) (by omega)) ?_ | refine pK_i (iaD_vecN (k := a) (by first | rfl | omega | (refine Int.sub_eq_zero.mp ?_; simp (disch := ((try unfold I64); omega)) only [wi64_id, td]; omega)) (by omega)) ?_ | refine pK_i (ldV_VO eE hid hd (by omega)) ?_ | refine gk_stVO eE hid (List.length_set ..).symm rfl rfl (by simpa using hd) (by omega) rfl ?_ | refine eqk rfl ?_ | refine ffin _ rfl rfl hS (Sub.refl _) rfl ⟨?_, rfl, rfl⟩)
  refine floopS (α := SI) rfl (fun t => t.d = d0 ∧ a < t.i ∧ t.i ≤ b ∧ scanUp (fun x => (ltC cmp) x d0[a]!) d0 (b - 1) t.i = scanUp (fun x => (ltC cmp) x d0[a]!) d0 (b - 1) (a + 1)) (fun t => b - t.i) (fun t => [(12, .d (.int .i64 t.i)), (13, .d (.int .i64 ((b - 1 : Nat) : Int))), (0, .d (vec id n)), (1, .d (.int .i64 a)), (4, .d (.fn cf []))])
    (fun _ => S0.set id (VI d0)) (fun _ => []) (fun _ => []) (fun _ _ => ⟨by simp, osc_VO' eE _ hS⟩) ⟨d0, a + 1⟩ ⟨rfl, by simp, by simp only; omega, rfl⟩ (by rw [← hd0]; rfl) (fstep_sub ⟨Sub.int (by first | rfl | omega | (refine Int.sub_eq_zero.mp ?_; simp (disch := ((try unfold I64); omega)) only [wi64_id, td]; omega)), Sub.int (by first | rfl | omega | (refine Int.sub_eq_zero.mp ?_; simp (disch := ((try unfold I64); omega)) only [wi64_id, td]; omega)), Sub.refl _, Sub.refl _, Sub.refl _, trivial⟩) ?_
  rintro t ⟨-, k2, k3, k4⟩
  repeat' first | with_reducible refine fzD_ite (fun q => ?_) (fun q => ?_) | ((try conv => whnf); first | refine bs_t hC.ok ?_ | refine bs_d (fun q => ?_) (fun q => ?_) <;> (try simp (disch := ((try unfold I64); omega)) only [wi64_id, td] at q) | refine bs_n ?_ | refine bs_i (fun q => ?_) (fun q => ?_) | refine ckc hC hid hQ (by omega) (List.length_set ..).symm rfl ?_ | refine cqc hC hid hQ (by omega) ?_ | refine pK_i (iaD_vecN (k := a) (by first | rfl | omega | (refine Int.sub_eq_zero.mp ?_; simp (disch := ((try unfold I64); omega)) only [wi64_id, td]; omega)) (by omega)) ?_ | refine pK_i (iaD_vecN (k := t.i) (by first | rfl | omega | (refine Int.sub_eq_zero.mp ?_; simp (disch := ((try unfold I64); omega)) only [wi64_id, td]; omega)) (by omega)) ?_ | refine pK_i (ldV_VO eE hid hs0 (by omega)) ?_ | refine eqk rfl ?_ | refine ffin _ rfl rfl hS (Sub.refl _) rfl ⟨?_, rfl, rfl⟩)
  · refine fnextS (α := SI) ⟨d0, t.i + 1⟩ ⟨rfl, by simp only; omega, by simp only; omega, ?_⟩ (by simp only; omega) rfl (fstep_sub ⟨Sub.int (by first | rfl | omega | (refine Int.sub_eq_zero.mp ?_; simp (disch := ((try unfold I64); omega)) only [wi64_id, td]; omega)), Sub.refl _, Sub.refl _, Sub.refl _, Sub.refl _, trivial⟩)
    rw [← k4, scanUp_step (p := fun x => (ltC cmp) x d0[a]!) (i := t.i) (by omega) (ltt (by assumption))]
  all_goals
    have fs : t.i ≤ b - 1 → (ltC cmp) d0[t.i]! d0[a]! = false := fun h => by first | (exfalso; omega) | exact ltf (by assumption)
    have hs : scanUp (fun x => (ltC cmp) x d0[a]!) d0 (b - 1) t.i = t.i := scanUp_stop fs
    rw [hs] at k4
    refine floopS (α := SI) rfl (fun u => u.d = d0 ∧ u.i ≤ b - 1 ∧ t.i ≤ u.i + 1 ∧ scanDown (fun x => !(ltC cmp) x d0[a]!) d0 t.i u.i = scanDown (fun x => !(ltC cmp) x d0[a]!) d0 t.i (b - 1)) (fun u => u.i) (fun u => [(12, .d (.int .i64 t.i)), (13, .d (.int .i64 u.i)), (0, .d (vec id n)), (1, .d (.int .i64 a)), (4, .d (.fn cf []))])
      (fun _ => S0.set id (VI d0)) (fun _ => []) (fun _ => []) (fun _ _ => ⟨by simp, osc_VO' eE _ hS⟩) ⟨d0, b - 1⟩ ⟨rfl, Nat.le_refl _, by simp only; omega, rfl⟩ rfl (fstep_sub ⟨Sub.refl _, Sub.refl _, Sub.refl _, Sub.refl _, Sub.refl _, trivial⟩) ?_
    rintro u ⟨-, l2, l3, l4⟩
    repeat' first | with_reducible refine fzD_ite (fun q => ?_) (fun q => ?_) | ((try conv => whnf); first | refine bs_t hC.ok ?_ | refine bs_d (fun q => ?_) (fun q => ?_) <;> (try simp (disch := ((try unfold I64); omega)) only [wi64_id, td] at q) | refine bs_n ?_ | refine bs_i (fun q => ?_) (fun q => ?_) | refine ckc hC hid hQ (by omega) (List.length_set ..).symm rfl ?_ | refine cqc hC hid hQ (by omega) ?_ | refine pK_i (iaD_vecN (k := a) (by first | rfl | omega | (refine Int.sub_eq_zero.mp ?_; simp (disch := ((try unfold I64); omega)) only [wi64_id, td]; omega)) (by omega)) ?_ | refine pK_i (iaD_vecN (k := u.i) (by first | rfl | omega | (refine Int.sub_eq_zero.mp ?_; simp (disch := ((try unfold I64); omega)) only [wi64_id, td]; omega)) (by omega)) ?_ | refine pK_i (ldV_VO eE hid hs0 (by omega)) ?_ | refine pK_i (iaD_vecN (k := t.i) (by first | rfl | omega | (refine Int.sub_eq_zero.mp ?_; simp (disch := ((try unfold I64); omega)) only [wi64_id, td]; omega)) (by omega)) ?_ | refine gk_stVO eE hid (List.length_set ..).symm rfl rfl (by simpa using hs0) (by omega) rfl ?_ | refine ffin _ (by simp) rfl (osc_VO' eE _ hS) (Sub.refl _) rfl ⟨?_, ?_, rfl⟩ | refine eqk rfl ?_ | refine ffin _ rfl rfl hS (Sub.refl _) rfl ⟨?_, rfl, rfl⟩)
    all_goals try (exfalso; omega)
    all_goals try
      (refine fnextS (α := SI) ⟨d0, u.i - 1⟩ ⟨rfl, by simp only; omega, by simp only; omega, ?_⟩ (by simp only; omega) rfl (fstep_sub ⟨Sub.refl _, Sub.int (by first | rfl | omega | (refine Int.sub_eq_zero.mp ?_; simp (disch := ((try unfold I64); omega)) only [wi64_id, td]; omega)), Sub.refl _, Sub.refl _, Sub.refl _, trivial⟩)
       rw [← l4, scanDown_step (p := fun x => !(ltC cmp) x d0[a]!) (j := u.i) (by omega) (by omega) (by simp only [ltf (show ¬ cmp d0[u.i]! d0[a]! < 0 by assumption)]; rfl)])
    all_goals
      have fu : t.i ≤ u.i → (ltC cmp) d0[u.i]! d0[a]! = true := fun h => by first | (exfalso; omega) | exact ltt (by assumption)
      have hu : scanDown (fun x => !(ltC cmp) x d0[a]!) d0 t.i u.i = u.i := scanDown_stop fun h => by simp only [fu h]; rfl
      rw [hu] at l4
      have hpt := partition_of (lt := ltC cmp) (d := d) (p := p) (b := b) hd0 k4 l4
    all_goals try (rw [hpt, if_pos (by omega)]; rfl)
    all_goals try rw [hpt, if_pos (by omega)]
    all_goals
      rw [if_neg (by omega)] at hpt
      have hne : t.i ≠ u.i := fun e => by
        have x1 := fs (by omega)
        rw [e, fu (by omega)] at x1
        cases x1
      rw [hpt]
      refine floopS (α := SJ) rfl (fun s => s.d.size = n ∧ a < s.i ∧ s.i ≤ s.j + 1 ∧ s.j < b ∧ partLoop (ltC cmp) a s.i s.j s.d = partLoop (ltC cmp) a (t.i + 1) (u.i - 1) (swp d0 t.i u.i)) (fun s => s.j + 1 - s.i) (fun s => [(12, .d (.int .i64 s.i)), (13, .d (.int .i64 s.j)), (0, .d (vec id n)), (1, .d (.int .i64 a)), (4, .d (.fn cf []))])
        (fun s => S0.set id (VI s.d)) (fun _ => []) (fun _ => []) (fun s _ => ⟨by simp, osc_VO' eE _ hS⟩) ⟨swp d0 t.i u.i, t.i + 1, u.i - 1⟩ ⟨by rw [size_swp']; exact hs0, by simp only; omega, by simp only; omega, by simp only; omega, rfl⟩ rfl (fstep_sub ⟨Sub.int (by first | rfl | omega | (refine Int.sub_eq_zero.mp ?_; simp (disch := ((try unfold I64); omega)) only [wi64_id, td]; omega)), Sub.int (by first | rfl | omega | (refine Int.sub_eq_zero.mp ?_; simp (disch := ((try unfold I64); omega)) only [wi64_id, td]; omega)), Sub.refl _, Sub.refl _, Sub.refl _, trivial⟩) ?_
      clear hpt hu l4 l3 l2 fu hs k4 hne fs k3 k2
      generalize partLoop (ltC cmp) a (t.i + 1) (u.i - 1) (swp d0 t.i u.i) = R
      rintro s ⟨h1, h2, h3, h4, h5⟩
      refine floopS (α := SI) rfl (fun t => t.d = s.d ∧ s.i ≤ t.i ∧ t.i ≤ s.j + 1 ∧ scanUp (fun x => (ltC cmp) x s.d[a]!) s.d s.j t.i = scanUp (fun x => (ltC cmp) x s.d[a]!) s.d s.j s.i) (fun t => s.j + 1 - t.i) (fun t => [(12, .d (.int .i64 t.i)), (13, .d (.int .i64 s.j)), (0, .d (vec id n)), (1, .d (.int .i64 a)), (4, .d (.fn cf []))])
        (fun _ => S0.set id (VI s.d)) (fun _ => []) (fun _ => []) (fun _ _ => ⟨by simp, osc_VO' eE _ hS⟩) ⟨s.d, s.i⟩ ⟨rfl, Nat.le_refl _, h3, rfl⟩ rfl (fstep_sub ⟨Sub.refl _, Sub.refl _, Sub.refl _, Sub.refl _, Sub.refl _, trivial⟩) ?_
      rintro t ⟨-, k2, k3, k4⟩
      repeat' first | with_reducible refine fzD_ite (fun q => ?_) (fun q => ?_) | ((try conv => whnf); first | refine bs_t hC.ok ?_ | refine bs_d (fun q => ?_) (fun q => ?_) <;> (try simp (disch := ((try unfold I64); omega)) only [wi64_id, td] at q) | refine bs_n ?_ | refine bs_i (fun q => ?_) (fun q => ?_) | refine ckc hC hid hQ (by omega) (List.length_set ..).symm rfl ?_ | refine cqc hC hid hQ (by omega) ?_ | refine pK_i (iaD_vecN (k := a) (by first | rfl | omega | (refine Int.sub_eq_zero.mp ?_; simp (disch := ((try unfold I64); omega)) only [wi64_id, td]; omega)) (by omega)) ?_ | refine pK_i (iaD_vecN (k := t.i) (by first | rfl | omega | (refine Int.sub_eq_zero.mp ?_; simp (disch := ((try unfold I64); omega)) only [wi64_id, td]; omega)) (by omega)) ?_ | refine pK_i (ldV_VO eE hid h1 (by omega)) ?_ | refine eqk rfl ?_ | refine ffin _ rfl rfl hS (Sub.refl _) rfl ⟨?_, rfl, rfl⟩)
      · refine fnextS (α := SI) ⟨s.d, t.i + 1⟩ ⟨rfl, by simp only; omega, by simp only; omega, ?_⟩ (by simp only; omega) rfl (fstep_sub ⟨Sub.int (by first | rfl | omega | (refine Int.sub_eq_zero.mp ?_; simp (disch := ((try unfold I64); omega)) only [wi64_id, td]; omega)), Sub.refl _, Sub.refl _, Sub.refl _, Sub.refl _, trivial⟩)
        rw [← k4, scanUp_step (p := fun x => (ltC cmp) x s.d[a]!) (i := t.i) (by omega) (ltt (by assumption))]
      all_goals
        have fs : t.i ≤ s.j → (ltC cmp) s.d[t.i]! s.d[a]! = false := fun h => by first | (exfalso; omega) | exact ltf (by assumption)
        have hs : scanUp (fun x => (ltC cmp) x s.d[a]!) s.d s.j t.i = t.i := scanUp_stop fs
        rw [hs] at k4
        refine floopS (α := SI) rfl (fun u => u.d = s.d ∧ u.i ≤ s.j ∧ t.i ≤ u.i + 1 ∧ scanDown (fun x => !(ltC cmp) x s.d[a]!) s.d t.i u.i = scanDown (fun x => !(ltC cmp) x s.d[a]!) s.d t.i s.j) (fun u => u.i) (fun u => [(12, .d (.int .i64 t.i)), (13, .d (.int .i64 u.i)), (0, .d (vec id n)), (1, .d (.int .i64 a)), (4, .d (.fn cf []))])
          (fun _ => S0.set id (VI s.d)) (fun _ => []) (fun _ => []) (fun _ _ => ⟨by simp, osc_VO' eE _ hS⟩) ⟨s.d, s.j⟩ ⟨rfl, Nat.le_refl _, by simp only; omega, rfl⟩ rfl (fstep_sub ⟨Sub.refl _, Sub.refl _, Sub.refl _, Sub.refl _, Sub.refl _, trivial⟩) ?_
        rintro u ⟨-, l2, l3, l4⟩
        repeat' first | with_reducible refine fzD_ite (fun q => ?_) (fun q => ?_) | ((try conv => whnf); first | refine bs_t hC.ok ?_ | refine bs_d (fun q => ?_) (fun q => ?_) <;> (try simp (disch := ((try unfold I64); omega)) only [wi64_id, td] at q) | refine bs_n ?_ | refine bs_i (fun q => ?_) (fun q => ?_) | refine ckc hC hid hQ (by omega) (List.length_set ..).symm rfl ?_ | refine cqc hC hid hQ (by omega) ?_ | refine pK_i (iaD_vecN (k := a) (by first | rfl | omega | (refine Int.sub_eq_zero.mp ?_; simp (disch := ((try unfold I64); omega)) only [wi64_id, td]; omega)) (by omega)) ?_ | refine pK_i (iaD_vecN (k := u.i) (by first | rfl | omega | (refine Int.sub_eq_zero.mp ?_; simp (disch := ((try unfold I64); omega)) only [wi64_id, td]; omega)) (by omega)) ?_ | refine pK_i (ldV_VO eE hid h1 (by omega)) ?_ | refine pK_i (iaD_vecN (k := t.i) (by first | rfl | omega | (refine Int.sub_eq_zero.mp ?_; simp (disch := ((try unfold I64); omega)) only [wi64_id, td]; omega)) (by omega)) ?_ | refine gk_stVO eE hid (List.length_set ..).symm rfl rfl (by simpa using h1) (by omega) rfl ?_ | refine ffin _ (by simp) rfl (osc_VO' eE _ hS) (Sub.refl _) rfl ⟨?_, ?_, rfl⟩ | refine eqk rfl ?_ | refine ffin _ rfl rfl hS (Sub.refl _) rfl ⟨?_, rfl, rfl⟩)
        all_goals try (exfalso; omega)
        all_goals try
          (refine fnextS (α := SI) ⟨s.d, u.i - 1⟩ ⟨rfl, by simp only; omega, by simp only; omega, ?_⟩ (by simp only; omega) rfl (fstep_sub ⟨Sub.refl _, Sub.int (by first | rfl | omega | (refine Int.sub_eq_zero.mp ?_; simp (disch := ((try unfold I64); omega)) only [wi64_id, td]; omega)), Sub.refl _, Sub.refl _, Sub.refl _, trivial⟩)
           rw [← l4, scanDown_step (p := fun x => !(ltC cmp) x s.d[a]!) (j := u.i) (by omega) (by omega) (by simp only [ltf (show ¬ cmp s.d[u.i]! s.d[a]! < 0 by assumption)]; rfl)])
        all_goals
          have fu : t.i ≤ u.i → (ltC cmp) s.d[u.i]! s.d[a]! = true := fun h => by first | (exfalso; omega) | exact ltt (by assumption)
          have hu : scanDown (fun x => !(ltC cmp) x s.d[a]!) s.d t.i u.i = u.i := scanDown_stop fun h => by simp only [fu h]; rfl
          rw [hu] at l4
          have heq := partLoop_eq (ltC cmp) a s.i s.j s.d
          rw [← k4, ← l4] at heq
        all_goals try (rw [← h5, heq, if_pos (by omega)]; rfl)
        all_goals try rw [← h5, heq, if_pos (by omega)]
        all_goals
          rw [if_neg (by omega)] at heq
          have hne : t.i ≠ u.i := fun e => by
            have x1 := fs (by omega)
            rw [e, fu (by omega)] at x1
            cases x1
          refine fnextS (α := SJ) ⟨swp s.d t.i u.i, t.i + 1, u.i - 1⟩ ⟨by rw [size_swp']; exact h1, by simp only; omega, by simp only; omega, by simp only; omega, ?_⟩ (by simp only; omega) rfl (fstep_sub ⟨Sub.int (by first | rfl | omega | (refine Int.sub_eq_zero.mp ?_; simp (disch := ((try unfold I64); omega)) only [wi64_id, td]; omega)), Sub.int (by first | rfl | omega | (refine Int.sub_eq_zero.mp ?_; simp (disch := ((try unfold I64); omega)) only [wi64_id, td]; omega)), Sub.refl _, Sub.refl _, Sub.refl _, trivial⟩)
          rw [← h5, heq]
theorem c55 : cFun E0.P 55 = some ⟨141, [(8, none)], .seq (.rg [⟨some 8, none, .mv (.k (.bool false))⟩]) (.seq (.rg [⟨some 13, none, .mv (.t 1)⟩, ⟨some 14, none, .bin .add .leaf (.t 13) (.k (.int .i64 1))⟩, ⟨some 9, none, .mv (.t 14)⟩]) (.seq (.seq (.rg [⟨some 10, none, .mv (.k (.int .i64 0))⟩]) (.block 0 (.loop (.seq (.seq (.rg [⟨some 15, none, .mv (.t 10)⟩, ⟨some 16, none, .bin .lss .leaf (.t 15) (.k (.int .i64 5))⟩]) (.cond (.t 16) .skip (.exit 0))) (.seq (.block 1 (.seq (.block 2 (.loop (.seq (.seq (.rd [(⟨some 19, none, .mv (.t 9)⟩, none), (⟨some 20, none, .mv (.t 2)⟩, none), (⟨some 21, none, .bin .lss .leaf (.t 19) (.t 20)⟩, none), (⟨some 22, none, .mv (.t 21)⟩, none), (⟨some 23, some (22, true), .mv (.t 3)⟩, none), (⟨some 24, some (22, true), .mv (.t 0)⟩, none), (⟨some 25, some (22, true), .mv (.t 9)⟩, none), (⟨some 26, some (22, true), .ia 4 (.t 24) (.t 25)⟩, none), (⟨some 27, some (22, true), .ld 4 true (.t 26)⟩, none), (⟨some 28, some (22, true), .mv (.t 0)⟩, none), (⟨some 29, some (22, true), .mv (.t 9)⟩, none), (⟨some 30, some (22, true), .bin .sub .leaf (.t 29) (.k (.int .i64 1))⟩, none), (⟨some 31, some (22, true), .ia 4 (.t 28) (.t 30)⟩, none), (⟨some 32, some (22, true), .ld 4 true (.t 31)⟩, none), (⟨some 33, some (22, true), .callv (.t 23) [.t 27, .t 32]⟩, some []), (⟨some 34, some (22, true), .bin .lss .leaf (.t 33) (.k (.int .i64 0))⟩, none), (⟨some 35, some (22, true), .un .not (.t 34)⟩, none), (⟨some 36, none, .pick (.t 22) (.t 35) (.k (.bool false))⟩, none)]) (.cond (.t 36) .skip (.exit 2))) (.block 3 (.rg [⟨some 37, none, .mv (.t 9)⟩, ⟨some 38, none, .bin .add .leaf (.t 37) (.k (.int .i64 1))⟩, ⟨some 9, none, .mv (.t 38)⟩]))))) (.seq (.seq (.rg [⟨some 39, none, .mv (.t 9)⟩, ⟨some 40, none, .mv (.t 2)⟩, ⟨some 41, none, .bin .eql .leaf (.t 39) (.t 40)⟩]) (.cond (.t 41) (.seq (.rg [⟨some 8, none, .mv (.k (.bool true))⟩]) .ret) .skip)) (.seq (.seq (.rg [⟨some 42, none, .mv (.t 2)⟩, ⟨some 43, none, .mv (.t 1)⟩, ⟨some 44, none, .bin .sub .leaf (.t 42) (.t 43)⟩, ⟨some 45, none, .bin .lss .leaf (.t 44) (.k (.int .i64 50))⟩]) (.cond (.t 45) (.seq (.rg [⟨some 8, none, .mv (.k (.bool false))⟩]) .ret) .skip)) (.seq (.rd [(⟨some 46, none, .mv (.t 0)⟩, none), (⟨some 47, none, .mv (.t 9)⟩, none), (⟨some 48, none, .mv (.t 0)⟩, none), (⟨some 49, none, .mv (.t 9)⟩, none), (⟨some 50, none, .bin .sub .leaf (.t 49) (.k (.int .i64 1))⟩, none), (⟨some 51, none, .mv (.t 0)⟩, none), (⟨some 52, none, .mv (.t 9)⟩, none), (⟨some 53, none, .bin .sub .leaf (.t 52) (.k (.int .i64 1))⟩, none), (⟨some 54, none, .ia 4 (.t 51) (.t 53)⟩, none), (⟨some 55, none, .ld 4 true (.t 54)⟩, none), (⟨some 56, none, .mv (.t 0)⟩, none), (⟨some 57, none, .mv (.t 9)⟩, none), (⟨some 58, none, .ia 4 (.t 56) (.t 57)⟩, none), (⟨some 59, none, .ld 4 true (.t 58)⟩, none), (⟨some 60, none, .ia 4 (.t 46) (.t 47)⟩, none), (⟨none, none, .st 4 (.t 60) (.t 55)⟩, some []), (⟨some 61, none, .ia 4 (.t 48) (.t 50)⟩, none), (⟨none, none, .st 4 (.t 61) (.t 59)⟩, some [])]) (.seq (.seq (.rg [⟨some 62, none, .mv (.t 9)⟩, ⟨some 63, none, .mv (.t 1)⟩, ⟨some 64, none, .bin .sub .leaf (.t 62) (.t 63)⟩, ⟨some 65, none, .bin .geq .leaf (.t 64) (.k (.int .i64 2))⟩]) (.cond (.t 65) (.seq (.rg [⟨some 66, none, .mv (.t 9)⟩, ⟨some 67, none, .bin .sub .leaf (.t 66) (.k (.int .i64 1))⟩, ⟨some 11, none, .mv (.t 67)⟩]) (.block 4 (.loop (.seq (.seq (.rg [⟨some 68, none, .mv (.t 11)⟩, ⟨some 69, none, .bin .geq .leaf (.t 68) (.k (.int .i64 1))⟩]) (.cond (.t 69) .skip (.exit 4))) (.seq (.block 5 (.seq (.seq (.rd [(⟨some 72, none, .mv (.t 3)⟩, none), (⟨some 73, none, .mv (.t 0)⟩, none), (⟨some 74, none, .mv (.t 11)⟩, none), (⟨some 75, none, .ia 4 (.t 73) (.t 74)⟩, none), (⟨some 76, none, .ld 4 true (.t 75)⟩, none), (⟨some 77, none, .mv (.t 0)⟩, none), (⟨some 78, none, .mv (.t 11)⟩, none), (⟨some 79, none, .bin .sub .leaf (.t 78) (.k (.int .i64 1))⟩, none), (⟨some 80, none, .ia 4 (.t 77) (.t 79)⟩, none), (⟨some 81, none, .ld 4 true (.t 80)⟩, none), (⟨some 82, none, .callv (.t 72) [.t 76, .t 81]⟩, some []), (⟨some 83, none, .bin .lss .leaf (.t 82) (.k (.int .i64 0))⟩, none), (⟨some 84, none, .un .not (.t 83)⟩, none)]) (.cond (.t 84) (.exit 4) .skip)) (.rd [(⟨some 85, none, .mv (.t 0)⟩, none), (⟨some 86, none, .mv (.t 11)⟩, none), (⟨some 87, none, .mv (.t 0)⟩, none), (⟨some 88, none, .mv (.t 11)⟩, none), (⟨some 89, none, .bin .sub .leaf (.t 88) (.k (.int .i64 1))⟩, none), (⟨some 90, none, .mv (.t 0)⟩, none), (⟨some 91, none, .mv (.t 11)⟩, none), (⟨some 92, none, .bin .sub .leaf (.t 91) (.k (.int .i64 1))⟩, none), (⟨some 93, none, .ia 4 (.t 90) (.t 92)⟩, none), (⟨some 94, none, .ld 4 true (.t 93)⟩, none), (⟨some 95, none, .mv (.t 0)⟩, none), (⟨some 96, none, .mv (.t 11)⟩, none), (⟨some 97, none, .ia 4 (.t 95) (.t 96)⟩, none), (⟨some 98, none, .ld 4 true (.t 97)⟩, none), (⟨some 99, none, .ia 4 (.t 85) (.t 86)⟩, none), (⟨none, none, .st 4 (.t 99) (.t 94)⟩, some []), (⟨some 100, none, .ia 4 (.t 87) (.t 89)⟩, none), (⟨none, none, .st 4 (.t 100) (.t 98)⟩, some [])]))) (.rg [⟨some 70, none, .mv (.t 11)⟩, ⟨some 71, none, .bin .sub .leaf (.t 70) (.k (.int .i64 1))⟩, ⟨some 11, none, .mv (.t 71)⟩])))))) .skip)) (.seq (.rg [⟨some 101, none, .mv (.t 2)⟩, ⟨some 102, none, .mv (.t 9)⟩, ⟨some 103, none, .bin .sub .leaf (.t 101) (.t 102)⟩, ⟨some 104, none, .bin .geq .leaf (.t 103) (.k (.int .i64 2))⟩]) (.cond (.t 104) (.seq (.rg [⟨some 105, none, .mv (.t 9)⟩, ⟨some 106, none, .bin .add .leaf (.t 105) (.k (.int .i64 1))⟩, ⟨some 12, none, .mv (.t 106)⟩]) (.block 6 (.loop (.seq (.seq (.rg [⟨some 107, none, .mv (.t 12)⟩, ⟨some 108, none, .mv (.t 2)⟩, ⟨some 109, none, .bin .lss .leaf (.t 107) (.t 108)⟩]) (.cond (.t 109) .skip (.exit 6))) (.seq (.block 7 (.seq (.seq (.rd [(⟨some 112, none, .mv (.t 3)⟩, none), (⟨some 113, none, .mv (.t 0)⟩, none), (⟨some 114, none, .mv (.t 12)⟩, none), (⟨some 115, none, .ia 4 (.t 113) (.t 114)⟩, none), (⟨some 116, none, .ld 4 true (.t 115)⟩, none), (⟨some 117, none, .mv (.t 0)⟩, none), (⟨some 118, none, .mv (.t 12)⟩, none), (⟨some 119, none, .bin .sub .leaf (.t 118) (.k (.int .i64 1))⟩, none), (⟨some 120, none, .ia 4 (.t 117) (.t 119)⟩, none), (⟨some 121, none, .ld 4 true (.t 120)⟩, none), (⟨some 122, none, .callv (.t 112) [.t 116, .t 121]⟩, some []), (⟨some 123, none, .bin .lss .leaf (.t 122) (.k (.int .i64 0))⟩, none), (⟨some 124, none, .un .not (.t 123)⟩, none)]) (.cond (.t 124) (.exit 6) .skip)) (.rd [(⟨some 125, none, .mv (.t 0)⟩, none), (⟨some 126, none, .mv (.t 12)⟩, none), (⟨some 127, none, .mv (.t 0)⟩, none), (⟨some 128, none, .mv (.t 12)⟩, none), (⟨some 129, none, .bin .sub .leaf (.t 128) (.k (.int .i64 1))⟩, none), (⟨some 130, none, .mv (.t 0)⟩, none), (⟨some 131, none, .mv (.t 12)⟩, none), (⟨some 132, none, .bin .sub .leaf (.t 131) (.k (.int .i64 1))⟩, none), (⟨some 133, none, .ia 4 (.t 130) (.t 132)⟩, none), (⟨some 134, none, .ld 4 true (.t 133)⟩, none), (⟨some 135, none, .mv (.t 0)⟩, none), (⟨some 136, none, .mv (.t 12)⟩, none), (⟨some 137, none, .ia 4 (.t 135) (.t 136)⟩, none), (⟨some 138, none, .ld 4 true (.t 137)⟩, none), (⟨some 139, none, .ia 4 (.t 125) (.t 126)⟩, none), (⟨none, none, .st 4 (.t 139) (.t 134)⟩, some []), (⟨some 140, none, .ia 4 (.t 127) (.t 129)⟩, none), (⟨none, none, .st 4 (.t 140) (.t 138)⟩, some [])]))) (.rg [⟨some 110, none, .mv (.t 12)⟩, ⟨some 111, none, .bin .add .leaf (.t 110) (.k (.int .i64 1))⟩, ⟨some 12, none, .mv (.t 111)⟩])))))) .skip)))))))) (.rg [⟨some 17, none, .mv (.t 10)⟩, ⟨some 18, none, .bin .add .leaf (.t 17) (.k (.int .i64 1))⟩, ⟨some 10, none, .mv (.t 18)⟩])))))) (.seq (.rg [⟨some 8, none, .mv (.k (.bool false))⟩]) .ret)))⟩ := by kernel_rfl

set_option maxHeartbeats 4000000 in
theorem partialInsertionSort {Q : List O → Prop} {cf : FuncId} {cmp : Lm → Lm → Int} (id n : Nat) (hC : CmpQ Q id n cf [] cmp) (d : Array Lm) (a b : Nat) (hd : d.size = n) (hab : a < b) (hb : b ≤ n) (hn : n < 4611686018427387904) :
    Turns Q 55 id n [.int .i64 a, .int .i64 b, (.fn cf [])] d (.bool (partialInsertionSort (ltC cmp) d a b).2) (partialInsertionSort (ltC cmp) d a b).1 := by
  intro S0 tk hid hQ
  refine ACalls.fgo c55 rfl fun hS => ?_
  repeat' first | with_reducible refine fzD_ite (fun q => ?_) (fun q => ?_) | ((try conv => whnf); first | refine bs_d (fun q => ?_) (fun q => ?_) | refine bs_n ?_ | refine bs_i (fun q => ?_) (fun q => ?_) | refine eqk rfl ?_ | refine ffin _ rfl rfl hS (Sub.refl _) rfl ⟨?_, rfl, rfl⟩)
  refine floopS (α := SJ) rfl (fun s => s.d.size = n ∧ a < s.i ∧ s.i ≤ b ∧ s.j ≤ 5 ∧ partialIns (ltC cmp) a b (5 - s.j) s.i s.d = Sort.partialInsertionSort (ltC cmp) d a b) (fun s => 5 - s.j) (fun s => [(9, .d (.int .i64 s.i)), (10, .d (.int .i64 s.j)), (0, .d (vec id n)), (1, .d (.int .i64 a)), (2, .d (.int .i64 b)), (3, .d (.fn cf []))])
    (fun s => S0.set id (VI s.d)) (fun _ => []) (fun _ => []) (fun s _ => ⟨by simp, osc_VO' eE _ hS⟩) ⟨d, a + 1, 0⟩ ⟨hd, by simp, by simp only; omega, by simp, rfl⟩ rfl (fstep_sub ⟨Sub.int (by first | rfl | omega | (refine Int.sub_eq_zero.mp ?_; simp (disch := ((try unfold I64); omega)) only [wi64_id, td]; omega)), Sub.refl _, Sub.refl _, Sub.refl _, Sub.refl _, Sub.refl _, trivial⟩) ?_
  rintro s ⟨h1, h2, h3, h4, h5⟩
  repeat' first | with_reducible refine fzD_ite (fun q => ?_) (fun q => ?_) | ((try conv => whnf); first | refine bs_d (fun q => ?_) (fun q => ?_) <;> (try simp (disch := ((try unfold I64); omega)) only [wi64_id, td] at q) | refine bs_n ?_ | refine bs_i (fun q => ?_) (fun q => ?_) | refine ffin _ (by simp) rfl (osc_VO' eE _ hS) (Sub.refl _) rfl ⟨?_, ?_, rfl⟩ | refine eqk rfl ?_ | refine ffin _ rfl rfl hS (Sub.refl _) rfl ⟨?_, rfl, rfl⟩)
  case' refine_2.refine_1 =>
    rw [← h5, show 5 - s.j = 0 from by omega]; rfl
  case' refine_2.refine_2 =>
    rw [← h5, show 5 - s.j = 0 from by omega]; rfl
  refine floopS (α := SI) rfl (fun t => t.d = s.d ∧ s.i ≤ t.i ∧ t.i ≤ b ∧ scanSorted (ltC cmp) s.d b t.i = scanSorted (ltC cmp) s.d b s.i) (fun t => b - t.i) (fun t => [(9, .d (.int .i64 t.i)), (10, .d (.int .i64 s.j)), (0, .d (vec id n)), (1, .d (.int .i64 a)), (2, .d (.int .i64 b)), (3, .d (.fn cf []))])
    (fun _ => S0.set id (VI s.d)) (fun _ => []) (fun _ => []) (fun _ _ => ⟨by simp, osc_VO' eE _ hS⟩) ⟨s.d, s.i⟩ ⟨rfl, Nat.le_refl _, h3, rfl⟩ rfl (fstep_sub ⟨Sub.refl _, Sub.refl _, Sub.refl _, Sub.refl _, Sub.refl _, Sub.refl _, trivial⟩) ?_
  rintro t ⟨-, k2, k3, k4⟩
  repeat' first | with_reducible refine fzD_ite (fun q => ?_) (fun q => ?_) | ((try conv => whnf); first | refine bs_t hC.ok ?_ | refine bs_d (fun q => ?_) (fun q => ?_) <;> (try simp (disch := ((try unfold I64); omega)) only [wi64_id, td] at q) | refine bs_n ?_ | refine bs_i (fun q => ?_) (fun q => ?_) | refine ckc hC hid hQ (by omega) (List.length_set ..).symm rfl ?_ | refine cqc hC hid hQ (by omega) ?_ | refine pK_i (iaD_vecN (k := t.i) (by first | rfl | omega | (refine Int.sub_eq_zero.mp ?_; simp (disch := ((try unfold I64); omega)) only [wi64_id, td]; omega)) (by omega)) ?_ | refine pK_i (iaD_vecN (k := t.i - 1) (by first | rfl | omega | (refine Int.sub_eq_zero.mp ?_; simp (disch := ((try unfold I64); omega)) only [wi64_id, td]; omega)) (by omega)) ?_ | refine pK_i (ldV_VO eE hid h1 (by omega)) ?_ | refine gk_stVO eE hid (List.length_set ..).symm rfl rfl (by simpa using h1) (by omega) rfl ?_ | refine ffin _ (by simp) rfl (osc_VO' eE _ hS) (Sub.refl _) rfl ⟨?_, ?_, rfl⟩ | refine eqk rfl ?_ | refine ffin _ rfl rfl hS (Sub.refl _) rfl ⟨?_, rfl, rfl⟩)
  all_goals try
    (refine fnextS (α := SI) ⟨s.d, t.i + 1⟩ ⟨rfl, by simp only; omega, by simp only; omega, ?_⟩ (by simp only; omega) rfl (fstep_sub ⟨Sub.int (by first | rfl | omega | (refine Int.sub_eq_zero.mp ?_; simp (disch := ((try unfold I64); omega)) only [wi64_id, td]; omega)), Sub.refl _, Sub.refl _, Sub.refl _, Sub.refl _, Sub.refl _, trivial⟩)
     rw [← k4, scanSorted_step (i := t.i) (by omega) (ltf (show ¬ cmp s.d[t.i]! s.d[t.i - 1]! < 0 by assumption))])
  all_goals try (exfalso; omega)
  all_goals
    have fs : t.i < b → (ltC cmp) s.d[t.i]! s.d[t.i - 1]! = true := fun h => by first | (exfalso; omega) | exact ltt (by assumption)
    rw [scanSorted_stop fs] at k4
    have hpi := partialIns_of (lt := ltC cmp) (a := a) (s := 5 - (s.j + 1)) k4 rfl rfl
    rw [show 5 - (s.j + 1) + 1 = 5 - s.j from by omega, h5] at hpi
  all_goals try (rw [hpi, if_pos (by omega)]; rfl)
  all_goals try rw [hpi, if_pos (by omega)]
  all_goals try (rw [hpi, if_neg (by omega), if_pos (by omega)]; rfl)
  all_goals try rw [hpi, if_neg (by omega), if_pos (by omega)]
  all_goals clear hpi
  all_goals try
    (refine floopS (α := SI) rfl (fun u => u.d.size = n ∧ u.i ≤ t.i - 1 ∧ Sort.shiftDown (ltC cmp) u.i u.d = Sort.shiftDown (ltC cmp) (t.i - 1) (swp s.d t.i (t.i - 1))) (fun u => u.i) (fun u => [(11, .d (.int .i64 u.i)), (9, .d (.int .i64 t.i)), (10, .d (.int .i64 s.j)), (0, .d (vec id n)), (1, .d (.int .i64 a)), (2, .d (.int .i64 b)), (3, .d (.fn cf []))])
      (fun u => S0.set id (VI u.d)) (fun _ => []) (fun _ => []) (fun u _ => ⟨by simp, osc_VO' eE _ hS⟩) ⟨swp s.d t.i (t.i - 1), t.i - 1⟩ ⟨by rw [size_swp']; exact h1, by simp, rfl⟩ rfl (fstep_sub ⟨Sub.int (by first | rfl | omega | (refine Int.sub_eq_zero.mp ?_; simp (disch := ((try unfold I64); omega)) only [wi64_id, td]; omega)), Sub.refl _, Sub.refl _, Sub.refl _, Sub.refl _, Sub.refl _, Sub.refl _, trivial⟩) ?_
     rintro u ⟨u1, u2, u3⟩
     repeat' first | with_reducible refine fzD_ite (fun q => ?_) (fun q => ?_) | ((try conv => whnf); first | refine bs_t hC.ok ?_ | refine bs_d (fun q => ?_) (fun q => ?_) <;> (try simp (disch := ((try unfold I64); omega)) only [wi64_id, td] at q) | refine bs_n ?_ | refine bs_i (fun q => ?_) (fun q => ?_) | refine ckc hC hid hQ (by omega) (List.length_set ..).symm rfl ?_ | refine cqc hC hid hQ (by omega) ?_ | refine pK_i (iaD_vecN (k := u.i) (by first | rfl | omega | (refine Int.sub_eq_zero.mp ?_; simp (disch := ((try unfold I64); omega)) only [wi64_id, td]; omega)) (by omega)) ?_ | refine pK_i (iaD_vecN (k := u.i - 1) (by first | rfl | omega | (refine Int.sub_eq_zero.mp ?_; simp (disch := ((try unfold I64); omega)) only [wi64_id, td]; omega)) (by omega)) ?_ | refine pK_i (ldV_VO eE hid u1 (by omega)) ?_ | refine gk_stVO eE hid (List.length_set ..).symm rfl rfl (by simpa using u1) (by omega) rfl ?_ | refine eqk rfl ?_ | refine ffin _ rfl rfl hS (Sub.refl _) rfl ⟨?_, rfl, rfl⟩)
     all_goals try
       (refine fnextS (α := SI) ⟨swp u.d u.i (u.i - 1), u.i - 1⟩ ⟨by rw [size_swp']; exact u1, by simp only; omega, ?_⟩ (by simp only; omega) rfl (fstep_sub ⟨Sub.int (by first | rfl | omega | (refine Int.sub_eq_zero.mp ?_; simp (disch := ((try unfold I64); omega)) only [wi64_id, td]; omega)), Sub.refl _, Sub.refl _, Sub.refl _, Sub.refl _, Sub.refl _, Sub.refl _, trivial⟩)
        rw [← u3, shiftDown_step (j := u.i) (by omega) (ltt (by assumption))])
     all_goals
       have fu : 0 < u.i → (ltC cmp) u.d[u.i]! u.d[u.i - 1]! = false := fun h => by first | (exfalso; omega) | exact ltf (by assumption)
       rw [shiftDown_stop fu] at u3
       have hd2 : (if t.i - a ≥ 2 then Sort.shiftDown (ltC cmp) (t.i - 1) (swp s.d t.i (t.i - 1)) else swp s.d t.i (t.i - 1)) = u.d := by rw [if_pos (by omega), ← u3]
       have hD := u1
     all_goals
       have hst : ∀ D', (if b - t.i ≥ 2 then shiftUp (ltC cmp) b (t.i + 1) (u.d) else (u.d)) = D' → partialIns (ltC cmp) a b (5 - (s.j + 1)) t.i D' = Sort.partialInsertionSort (ltC cmp) d a b := fun D' h => by
         have := partialIns_of (lt := ltC cmp) (a := a) (s := 5 - (s.j + 1)) k4 hd2 h
         rw [if_neg (by omega), if_neg (by omega), show 5 - (s.j + 1) + 1 = 5 - s.j from by omega] at this
         rw [← this, h5]
     all_goals try
       (refine fnextS (α := SJ) ⟨u.d, t.i, s.j + 1⟩ ⟨hD, by simp only; omega, by simp only; omega, by simp only; omega, ?_⟩ (by simp only; omega) rfl (fstep_sub ⟨Sub.refl _, Sub.int (by first | rfl | omega | (refine Int.sub_eq_zero.mp ?_; simp (disch := ((try unfold I64); omega)) only [wi64_id, td]; omega)), Sub.refl _, Sub.refl _, Sub.refl _, Sub.refl _, trivial⟩)
        exact hst _ (by rw [if_neg (by omega)]))
     all_goals
       refine floopS (α := SI) rfl (fun v => v.d.size = n ∧ t.i < v.i ∧ v.i ≤ b ∧ shiftUp (ltC cmp) b v.i v.d = shiftUp (ltC cmp) b (t.i + 1) (u.d)) (fun v => b - v.i) (fun v => [(12, .d (.int .i64 v.i)), (9, .d (.int .i64 t.i)), (10, .d (.int .i64 s.j)), (0, .d (vec id n)), (1, .d (.int .i64 a)), (2, .d (.int .i64 b)), (3, .d (.fn cf []))])
         (fun v => S0.set id (VI v.d)) (fun _ => []) (fun _ => []) (fun v _ => ⟨by simp, osc_VO' eE _ hS⟩) ⟨u.d, t.i + 1⟩ ⟨hD, by simp, by simp only; omega, rfl⟩ rfl (fstep_sub ⟨Sub.int (by first | rfl | omega | (refine Int.sub_eq_zero.mp ?_; simp (disch := ((try unfold I64); omega)) only [wi64_id, td]; omega)), Sub.refl _, Sub.refl _, Sub.refl _, Sub.refl _, Sub.refl _, Sub.refl _, trivial⟩) ?_
       rintro v ⟨v1, v2, v3, v4⟩
       repeat' first | with_reducible refine fzD_ite (fun q => ?_) (fun q => ?_) | ((try conv => whnf); first | refine bs_t hC.ok ?_ | refine bs_d (fun q => ?_) (fun q => ?_) <;> (try simp (disch := ((try unfold I64); omega)) only [wi64_id, td] at q) | refine bs_n ?_ | refine bs_i (fun q => ?_) (fun q => ?_) | refine ckc hC hid hQ (by omega) (List.length_set ..).symm rfl ?_ | refine cqc hC hid hQ (by omega) ?_ | refine pK_i (iaD_vecN (k := v.i) (by first | rfl | omega | (refine Int.sub_eq_zero.mp ?_; simp (disch := ((try unfold I64); omega)) only [wi64_id, td]; omega)) (by omega)) ?_ | refine pK_i (iaD_vecN (k := v.i - 1) (by first | rfl | omega | (refine Int.sub_eq_zero.mp ?_; simp (disch := ((try unfold I64); omega)) only [wi64_id, td]; omega)) (by omega)) ?_ | refine pK_i (ldV_VO eE hid v1 (by omega)) ?_ | refine gk_stVO eE hid (List.length_set ..).symm rfl rfl (by simpa using v1) (by omega) rfl ?_ | refine eqk rfl ?_ | refine ffin _ rfl rfl hS (Sub.refl _) rfl ⟨?_, rfl, rfl⟩)
       all_goals try
         (refine fnextS (α := SI) ⟨swp v.d v.i (v.i - 1), v.i + 1⟩ ⟨by rw [size_swp']; exact v1, by simp only; omega, by simp only; omega, ?_⟩ (by simp only; omega) rfl (fstep_sub ⟨Sub.int (by first | rfl | omega | (refine Int.sub_eq_zero.mp ?_; simp (disch := ((try unfold I64); omega)) only [wi64_id, td]; omega)), Sub.refl _, Sub.refl _, Sub.refl _, Sub.refl _, Sub.refl _, Sub.refl _, trivial⟩)
          rw [← v4, shiftUp_step (j := v.i) (by omega) (ltt (by assumption))])
       all_goals
         have fv : v.i < b → (ltC cmp) v.d[v.i]! v.d[v.i - 1]! = false := fun h => by first | (exfalso; omega) | exact ltf (by assumption)
         rw [shiftUp_stop fv] at v4
         refine fnextS (α := SJ) ⟨v.d, t.i, s.j + 1⟩ ⟨v1, by simp only; omega, by simp only; omega, by simp only; omega, ?_⟩ (by simp only; omega) rfl (fstep_sub ⟨Sub.refl _, Sub.int (by first | rfl | omega | (refine Int.sub_eq_zero.mp ?_; simp (disch := ((try unfold I64); omega)) only [wi64_id, td]; omega)), Sub.refl _, Sub.refl _, Sub.refl _, Sub.refl _, trivial⟩)
         exact hst _ (by rw [if_pos (by omega), ← v4]))
  all_goals
    have hd2 : (if t.i - a ≥ 2 then Sort.shiftDown (ltC cmp) (t.i - 1) (swp s.d t.i (t.i - 1)) else swp s.d t.i (t.i - 1)) = swp s.d t.i (t.i - 1) := by rw [if_neg (by omega)]
    have hD : (swp s.d t.i (t.i - 1)).size = n := by rw [size_swp']; exact h1
  all_goals
    have hst : ∀ D', (if b - t.i ≥ 2 then shiftUp (ltC cmp) b (t.i + 1) (swp s.d t.i (t.i - 1)) else (swp s.d t.i (t.i - 1))) = D' → partialIns (ltC cmp) a b (5 - (s.j + 1)) t.i D' = Sort.partialInsertionSort (ltC cmp) d a b := fun D' h => by
      have := partialIns_of (lt := ltC cmp) (a := a) (s := 5 - (s.j + 1)) k4 hd2 h
      rw [if_neg (by omega), if_neg (by omega), show 5 - (s.j + 1) + 1 = 5 - s.j from by omega] at this
      rw [← this, h5]
  all_goals try
    (refine fnextS (α := SJ) ⟨swp s.d t.i (t.i - 1), t.i, s.j + 1⟩ ⟨hD, by simp only; omega, by simp only; omega, by simp only; omega, ?_⟩ (by simp only; omega) rfl (fstep_sub ⟨Sub.refl _, Sub.int (by first | rfl | omega | (refine Int.sub_eq_zero.mp ?_; simp (disch := ((try unfold I64); omega)) only [wi64_id, td]; omega)), Sub.refl _, Sub.refl _, Sub.refl _, Sub.refl _, trivial⟩)
     exact hst _ (by rw [if_neg (by omega)]))
  all_goals
    refine floopS (α := SI) rfl (fun v => v.d.size = n ∧ t.i < v.i ∧ v.i ≤ b ∧ shiftUp (ltC cmp) b v.i v.d = shiftUp (ltC cmp) b (t.i + 1) (swp s.d t.i (t.i - 1))) (fun v => b - v.i) (fun v => [(12, .d (.int .i64 v.i)), (9, .d (.int .i64 t.i)), (10, .d (.int .i64 s.j)), (0, .d (vec id n)), (1, .d (.int .i64 a)), (2, .d (.int .i64 b)), (3, .d (.fn cf []))])
      (fun v => S0.set id (VI v.d)) (fun _ => []) (fun _ => []) (fun v _ => ⟨by simp, osc_VO' eE _ hS⟩) ⟨swp s.d t.i (t.i - 1), t.i + 1⟩ ⟨hD, by simp, by simp only; omega, rfl⟩ rfl (fstep_sub ⟨Sub.int (by first | rfl | omega | (refine Int.sub_eq_zero.mp ?_; simp (disch := ((try unfold I64); omega)) only [wi64_id, td]; omega)), Sub.refl _, Sub.refl _, Sub.refl _, Sub.refl _, Sub.refl _, Sub.refl _, trivial⟩) ?_
    rintro v ⟨v1, v2, v3, v4⟩
    repeat' first | with_reducible refine fzD_ite (fun q => ?_) (fun q => ?_) | ((try conv => whnf); first | refine bs_t hC.ok ?_ | refine bs_d (fun q => ?_) (fun q => ?_) <;> (try simp (disch := ((try unfold I64); omega)) only [wi64_id, td] at q) | refine bs_n ?_ | refine bs_i (fun q => ?_) (fun q => ?_) | refine ckc hC hid hQ (by omega) (List.length_set ..).symm rfl ?_ | refine cqc hC hid hQ (by omega) ?_ | refine pK_i (iaD_vecN (k := v.i) (by first | rfl | omega | (refine Int.sub_eq_zero.mp ?_; simp (disch := ((try unfold I64); omega)) only [wi64_id, td]; omega)) (by omega)) ?_ | refine pK_i (iaD_vecN (k := v.i - 1) (by first | rfl | omega | (refine Int.sub_eq_zero.mp ?_; simp (disch := ((try unfold I64); omega)) only [wi64_id, td]; omega)) (by omega)) ?_ | refine pK_i (ldV_VO eE hid v1 (by omega)) ?_ | refine gk_stVO eE hid (List.length_set ..).symm rfl rfl (by simpa using v1) (by omega) rfl ?_ | refine eqk rfl ?_ | refine ffin _ rfl rfl hS (Sub.refl _) rfl ⟨?_, rfl, rfl⟩)
    all_goals try
      (refine fnextS (α := SI) ⟨swp v.d v.i (v.i - 1), v.i + 1⟩ ⟨by rw [size_swp']; exact v1, by simp only; omega, by simp only; omega, ?_⟩ (by simp only; omega) rfl (fstep_sub ⟨Sub.int (by first | rfl | omega | (refine Int.sub_eq_zero.mp ?_; simp (disch := ((try unfold I64); omega)) only [wi64_id, td]; omega)), Sub.refl _, Sub.refl _, Sub.refl _, Sub.refl _, Sub.refl _, Sub.refl _, trivial⟩)
       rw [← v4, shiftUp_step (j := v.i) (by omega) (ltt (by assumption))])
    all_goals
      have fv : v.i < b → (ltC cmp) v.d[v.i]! v.d[v.i - 1]! = false := fun h => by first | (exfalso; omega) | exact ltf (by assumption)
      rw [shiftUp_stop fv] at v4
      refine fnextS (α := SJ) ⟨v.d, t.i, s.j + 1⟩ ⟨v1, by simp only; omega, by simp only; omega, by simp only; omega, ?_⟩ (by simp only; omega) rfl (fstep_sub ⟨Sub.refl _, Sub.int (by first | rfl | omega | (refine Int.sub_eq_zero.mp ?_; simp (disch := ((try unfold I64); omega)) only [wi64_id, td]; omega)), Sub.refl _, Sub.refl _, Sub.refl _, Sub.refl _, trivial⟩)
      exact hst _ (by rw [if_pos (by omega), ← v4])
theorem c43 : cFun E0.P 43 = some ⟨148, [], .seq (.rg [⟨some 10, none, .mv (.k (.bool true))⟩]) (.seq (.rg [⟨some 11, none, .mv (.k (.bool true))⟩]) (.block 0 (.loop (.block 1 (.seq (.rg [⟨some 21, none, .mv (.t 2)⟩, ⟨some 22, none, .mv (.t 1)⟩, ⟨some 23, none, .bin .sub .leaf (.t 21) (.t 22)⟩, ⟨some 12, none, .mv (.t 23)⟩]) (.seq (.seq (.rg [⟨some 24, none, .mv (.t 12)⟩, ⟨some 25, none, .bin .leq .leaf (.t 24) (.k (.int .i64 12))⟩]) (.cond (.t 25) (.seq (.rg [⟨some 26, none, .mv (.t 0)⟩, ⟨some 27, none, .mv (.t 1)⟩, ⟨some 28, none, .mv (.t 2)⟩, ⟨some 29, none, .mv (.t 4)⟩, ⟨some 30, none, .call 50 [.t 26, .t 27, .t 28, .t 29]⟩]) .ret) .skip)) (.seq (.seq (.rg [⟨some 31, none, .mv (.t 3)⟩, ⟨some 32, none, .bin .eql .leaf (.t 31) (.k (.int .i64 0))⟩]) (.cond (.t 32) (.seq (.rg [⟨some 33, none, .mv (.t 0)⟩, ⟨some 34, none, .mv (.t 1)⟩, ⟨some 35, none, .mv (.t 2)⟩, ⟨some 36, none, .mv (.t 4)⟩, ⟨some 37, none, .call 51 [.t 33, .t 34, .t 35, .t 36]⟩]) .ret) .skip)) (.seq (.seq (.rg [⟨some 38, none, .mv (.t 10)⟩, ⟨some 39, none, .un .not (.t 38)⟩]) (.cond (.t 39) (.seq (.rg [⟨some 40, none, .mv (.t 0)⟩, ⟨some 41, none, .mv (.t 1)⟩, ⟨some 42, none, .mv (.t 2)⟩, ⟨some 43, none, .mv (.t 4)⟩, ⟨some 44, none, .call 52 [.t 40, .t 41, .t 42, .t 43]⟩]) (.rg [⟨some 45, none, .mv (.t 3)⟩, ⟨some 46, none, .bin .sub .leaf (.t 45) (.k (.int .i64 1))⟩, ⟨some 3, none, .mv (.t 46)⟩])) .skip)) (.seq (.rg [⟨some 48, none, .mv (.t 0)⟩, ⟨some 49, none, .mv (.t 1)⟩, ⟨some 50, none, .mv (.t 2)⟩, ⟨some 51, none, .mv (.t 4)⟩, ⟨some 52, none, .call 53 [.t 48, .t 49, .t 50, .t 51]⟩, ⟨some 47, none, .mv (.t 52)⟩, ⟨some 53, none, .ext 0 (.t 47)⟩, ⟨some 54, none, .ext 1 (.t 47)⟩, ⟨some 13, none, .mv (.t 53)⟩, ⟨some 14, none, .mv (.t 54)⟩]) (.seq (.seq (.rg [⟨some 55, none, .mv (.t 14)⟩, ⟨some 56, none, .bin .eql .leaf (.t 55) (.k (.int .i64 2))⟩]) (.cond (.t 56) (.seq (.rg [⟨some 57, none, .mv (.t 0)⟩, ⟨some 58, none, .mv (.t 1)⟩, ⟨some 59, none, .mv (.t 2)⟩, ⟨some 60, none, .mv (.t 4)⟩, ⟨some 61, none, .call 54 [.t 57, .t 58, .t 59, .t 60]⟩]) (.seq (.rg [⟨some 62, none, .mv (.t 2)⟩, ⟨some 63, none, .bin .sub .leaf (.t 62) (.k (.int .i64 1))⟩, ⟨some 64, none, .mv (.t 13)⟩, ⟨some 65, none, .mv (.t 1)⟩, ⟨some 66, none, .bin .sub .leaf (.t 64) (.t 65)⟩, ⟨some 67, none, .bin .sub .leaf (.t 63) (.t 66)⟩, ⟨some 13, none, .mv (.t 67)⟩]) (.rg [⟨some 14, none, .mv (.k (.int .i64 1))⟩]))) .skip)) (.seq (.seq (.rg [⟨some 68, none, .mv (.t 10)⟩, ⟨some 69, none, .mv (.t 68)⟩, ⟨some 70, some (69, true), .mv (.t 11)⟩, ⟨some 71, none, .pick (.t 69) (.t 70) (.k (.bool false))⟩, ⟨some 72, none, .mv (.t 71)⟩, ⟨some 73, some (72, true), .mv (.t 14)⟩, ⟨some 74, some (72, true), .bin .eql .leaf (.t 73) (.k (.int .i64 1))⟩, ⟨some 75, none, .pick (.t 72) (.t 74) (.k (.bool false))⟩]) (.cond (.t 75) (.seq (.rg [⟨some 76, none, .mv (.t 0)⟩, ⟨some 77, none, .mv (.t 1)⟩, ⟨some 78, none, .mv (.t 2)⟩, ⟨some 79, none, .mv (.t 4)⟩, ⟨some 80, none, .call 55 [.t 76, .t 77, .t 78, .t 79]⟩]) (.cond (.t 80) .ret .skip)) .skip)) (.seq (.seq (.rd [(⟨some 81, none, .mv (.t 1)⟩, none), (⟨some 82, none, .bin .gtr .leaf (.t 81) (.k (.int .i64 0))⟩, none), (⟨some 83, none, .mv (.t 82)⟩, none), (⟨some 84, some (83, true), .mv (.t 4)⟩, none), (⟨some 85, some (83, true), .mv (.t 0)⟩, none), (⟨some 86, some (83, true), .mv (.t 1)⟩, none), (⟨some 87, some (83, true), .bin .sub .leaf (.t 86) (.k (.int .i64 1))⟩, none), (⟨some 88, some (83, true), .ia 4 (.t 85) (.t 87)⟩, none), (⟨some 89, some (83, true), .ld 4 true (.t 88)⟩, none), (⟨some 90, some (83, true), .mv (.t 0)⟩, none), (⟨some 91, some (83, true), .mv (.t 13)⟩, none), (⟨some 92, some (83, true), .ia 4 (.t 90) (.t 91)⟩, none), (⟨some 93, some (83, true), .ld 4 true (.t 92)⟩, none), (⟨some 94, some (83, true), .callv (.t 84) [.t 89, .t 93]⟩, some []), (⟨some 95, some (83, true), .bin .lss .leaf (.t 94) (.k (.int .i64 0))⟩, none), (⟨some 96, some (83, true), .un .not (.t 95)⟩, none), (⟨some 97, none, .pick (.t 83) (.t 96) (.k (.bool false))⟩, none)]) (.cond (.t 97) (.seq (.rg [⟨some 98, none, .mv (.t 0)⟩, ⟨some 99, none, .mv (.t 1)⟩, ⟨some 100, none, .mv (.t 2)⟩, ⟨some 101, none, .mv (.t 13)⟩, ⟨some 102, none, .mv (.t 4)⟩, ⟨some 103, none, .call 56 [.t 98, .t 99, .t 100, .t 101, .t 102]⟩, ⟨some 15, none, .mv (.t 103)⟩]) (.seq (.rg [⟨some 104, none, .mv (.t 15)⟩, ⟨some 1, none, .mv (.t 104)⟩]) (.exit 1))) .skip)) (.seq (.rg [⟨some 106, none, .mv (.t 0)⟩, ⟨some 107, none, .mv (.t 1)⟩, ⟨some 108, none, .mv (.t 2)⟩, ⟨some 109, none, .mv (.t 13)⟩, ⟨some 110, none, .mv (.t 4)⟩, ⟨some 111, none, .call 57 [.t 106, .t 107, .t 108, .t 109, .t 110]⟩, ⟨some 105, none, .mv (.t 111)⟩, ⟨some 112, none, .ext 0 (.t 105)⟩, ⟨some 113, none, .ext 1 (.t 105)⟩, ⟨some 16, none, .mv (.t 112)⟩, ⟨some 17, none, .mv (.t 113)⟩]) (.seq (.rg [⟨some 114, none, .mv (.t 17)⟩, ⟨some 11, none, .mv (.t 114)⟩]) (.seq (.rg [⟨some 115, none, .mv (.t 16)⟩, ⟨some 116, none, .mv (.t 1)⟩, ⟨some 117, none, .bin .sub .leaf (.t 115) (.t 116)⟩, ⟨some 118, none, .mv (.t 2)⟩, ⟨some 119, none, .mv (.t 16)⟩, ⟨some 120, none, .bin .sub .leaf (.t 118) (.t 119)⟩, ⟨some 18, none, .mv (.t 117)⟩, ⟨some 19, none, .mv (.t 120)⟩]) (.seq (.rg [⟨some 121, none, .mv (.t 12)⟩, ⟨some 122, none, .bin .quo .leaf (.t 121) (.k (.int .i64 8))⟩, ⟨some 20, none, .mv (.t 122)⟩]) (.seq (.rg [⟨some 123, none, .mv (.t 18)⟩, ⟨some 124, none, .mv (.t 19)⟩, ⟨some 125, none, .bin .lss .leaf (.t 123) (.t 124)⟩]) (.cond (.t 125) (.seq (.rg [⟨some 126, none, .mv (.t 18)⟩, ⟨some 127, none, .mv (.t 20)⟩, ⟨some 128, none, .bin .geq .leaf (.t 126) (.t 127)⟩, ⟨some 10, none, .mv (.t 128)⟩]) (.seq (.rg [⟨some 129, none, .mv (.t 0)⟩, ⟨some 130, none, .mv (.t 1)⟩, ⟨some 131, none, .mv (.t 16)⟩, ⟨some 132, none, .mv (.t 3)⟩, ⟨some 133, none, .mv (.t 4)⟩, ⟨some 134, none, .call 43 [.t 129, .t 130, .t 131, .t 132, .t 133]⟩]) (.rg [⟨some 135, none, .mv (.t 16)⟩, ⟨some 136, none, .bin .add .leaf (.t 135) (.k (.int .i64 1))⟩, ⟨some 1, none, .mv (.t 136)⟩]))) (.seq (.rg [⟨some 137, none, .mv (.t 19)⟩, ⟨some 138, none, .mv (.t 20)⟩, ⟨some 139, none, .bin .geq .leaf (.t 137) (.t 138)⟩, ⟨some 10, none, .mv (.t 139)⟩]) (.seq (.rg [⟨some 140, none, .mv (.t 0)⟩, ⟨some 141, none, .mv (.t 16)⟩, ⟨some 142, none, .bin .add .leaf (.t 141) (.k (.int .i64 1))⟩, ⟨some 143, none, .mv (.t 2)⟩, ⟨some 144, none, .mv (.t 3)⟩, ⟨some 145, none, .mv (.t 4)⟩, ⟨some 146, none, .call 43 [.t 140, .t 142, .t 143, .t 144, .t 145]⟩]) (.rg [⟨some 147, none, .mv (.t 16)⟩, ⟨some 2, none, .mv (.t 147)⟩])))))))))))))))))))))⟩ := by kernel_rfl

def Makes  (Q : List O → Prop) (f : FuncId) (id n : Nat) (ds : List D) (d : Array Lm) (G : D → Array Lm → Prop) : Prop :=
  ∀ (S0 : List O) (tk : Tks), id < S0.length → Q S0 → ACalls E0 f (vec id n :: ds) (S0.set id (VI d)) tk (fun r' S' tk' => ∃ d', G r' d' ∧ S' = S0.set id (VI d') ∧ tk' = tk)
theorem Turns.makes  {Q : List O → Prop} {f : FuncId} {id n : Nat} {ds : List D} {d d' : Array Lm} {r : D} {G : D → Array Lm → Prop} (h : Turns Q f id n ds d r d') (hG : G r d') : Makes Q f id n ds d G :=
  fun S0 tk hid hQ => (h S0 tk hid hQ).mono fun r' S' tk' ⟨h1, h2, h3⟩ => ⟨d', h1 ▸ hG, h2, h3⟩

def Sorts  (cmp : Lm → Lm → Int) (a b : Nat) (d d' : Array Lm) : Prop := PermIn a b d d' ∧ SortedIn (ltC cmp) a b d'

theorem mIns {Q : List O → Prop} {cf : FuncId} {cmp : Lm → Lm → Int} (id n : Nat) (hC : CmpQ Q id n cf [] cmp) (hw : SWO (ltC cmp)) (d : Array Lm) (a b : Nat) (hd : d.size = n) (hab : a ≤ b) (hb : b ≤ n) (hn : n < 4611686018427387904) :
    Makes Q 50 id n [.int .i64 a, .int .i64 b, (.fn cf [])] d (fun r d' => r = .tup [] ∧ Sorts cmp a b d d') :=
  (insertionSort id n hC d a b hd hab hb hn).makes ⟨rfl, insertionSort_holds hw d a b hab (by omega)⟩
theorem mHeap {Q : List O → Prop} {cf : FuncId} {cmp : Lm → Lm → Int} (id n : Nat) (hC : CmpQ Q id n cf [] cmp) (hw : SWO (ltC cmp)) (d : Array Lm) (a b : Nat) (hd : d.size = n) (hab : a ≤ b) (hb : b ≤ n) (hn : n < 4611686018427387904) :
    Makes Q 51 id n [.int .i64 a, .int .i64 b, (.fn cf [])] d (fun r d' => r = .tup [] ∧ Sorts cmp a b d d') :=
  (heapSort id n hC d a b hd hab hb hn).makes ⟨rfl, heapSort_holds hw d a b hab (by omega)⟩
theorem mRev {Q : List O → Prop} {cf : FuncId} {cmp : Lm → Lm → Int} (id n : Nat) (hC : CmpQ Q id n cf [] cmp) (d : Array Lm) (a b : Nat) (hd : d.size = n) (hab : a < b) (hb : b ≤ n) (hn : n < 4611686018427387904) :
    Makes Q 54 id n [.int .i64 a, .int .i64 b, (.fn cf [])] d (fun r d' => r = .tup [] ∧ PermIn a b d d') :=
  (reverseRange id n hC d a b hd hab hb hn).makes ⟨rfl, reverseRange_holds d a b (by omega) (by omega)⟩
theorem mPiv {Q : List O → Prop} {cf : FuncId} {cmp : Lm → Lm → Int} (id n : Nat) (hC : CmpQ Q id n cf [] cmp) (d : Array Lm) (a b : Nat) (hd : d.size = n) (hab : a < b) (hb : b ≤ n) (hn : n < 4611686018427387904) :
    Makes Q 53 id n [.int .i64 a, .int .i64 b, (.fn cf [])] d (fun r d' => ∃ (p : Nat) (h : Int), r = .tup [.int .i64 p, .int .i64 h] ∧ d' = d ∧ a ≤ p ∧ p < b) :=
  (choosePivot id n hC d a b hd hab hb hn).makes ⟨_, _, rfl, rfl, choosePivot_holds (ltC cmp) d a b hab⟩
theorem mPar {Q : List O → Prop} {cf : FuncId} {cmp : Lm → Lm → Int} (id n : Nat) (hC : CmpQ Q id n cf [] cmp) (hw : SWO (ltC cmp)) (d : Array Lm) (a b : Nat) (hd : d.size = n) (hab : a < b) (hb : b ≤ n) (hn : n < 4611686018427387904) (hB : Below (ltC cmp) a b d) :
    Makes Q 55 id n [.int .i64 a, .int .i64 b, (.fn cf [])] d (fun r d' => ∃ ok : Bool, r = .bool ok ∧ PermIn a b d d' ∧ (ok = true → SortedIn (ltC cmp) a b d')) :=
  (partialInsertionSort id n hC d a b hd hab hb hn).makes ⟨_, rfl, partialInsertionSort_holds hw d a b hab (by omega) hB⟩
theorem mEq {Q : List O → Prop} {cf : FuncId} {cmp : Lm → Lm → Int} (id n : Nat) (hC : CmpQ Q id n cf [] cmp) (hw : SWO (ltC cmp)) (d : Array Lm) (a b p : Nat) (hd : d.size = n) (ha0 : 0 < a) (hap : a ≤ p) (hpb : p < b) (hb : b ≤ n) (hn : n < 4611686018427387904) (hB : Below (ltC cmp) a b d) (hnl : (ltC cmp) d[a - 1]! d[p]! = false) :
    Makes Q 56 id n [.int .i64 a, .int .i64 b, .int .i64 p, (.fn cf [])] d (fun r d' => ∃ mid : Nat, r = .int .i64 mid ∧ a < mid ∧ mid ≤ b ∧ d'.size = n ∧ Below (ltC cmp) mid b d' ∧ ∀ R, PermIn mid b d' R → SortedIn (ltC cmp) mid b R → PermIn a b d R ∧ SortedIn (ltC cmp) a b R) := by
  obtain ⟨h1, h2, h3, h4, h5⟩ := round_eq hw (partitionEqual_holds (ltC cmp)) ha0 hap hpb (by omega) hB hnl (mid := (Sort.partitionEqual (ltC cmp) d a b p).1) (d4 := (Sort.partitionEqual (ltC cmp) d a b p).2) rfl
  exact (partitionEqual id n hC d a b p hd hap hpb hb hn).makes ⟨_, rfl, h1, h2, by rw [h3, hd], h4, h5⟩
theorem mPart {Q : List O → Prop} {cf : FuncId} {cmp : Lm → Lm → Int} (id n : Nat) (hC : CmpQ Q id n cf [] cmp) (hw : SWO (ltC cmp)) (d : Array Lm) (a b p : Nat) (hd : d.size = n) (hap : a ≤ p) (hpb : p < b) (hb : b ≤ n) (hn : n < 4611686018427387904) (hB : Below (ltC cmp) a b d) :
    Makes Q 57 id n [.int .i64 a, .int .i64 b, .int .i64 p, (.fn cf [])] d (fun r d' => ∃ (mid : Nat) (ap : Bool), r = .tup [.int .i64 mid, .bool ap] ∧ a ≤ mid ∧ mid < b ∧ d'.size = n ∧ Below (ltC cmp) a mid d' ∧ Below (ltC cmp) (mid + 1) b d' ∧
      (∀ L, PermIn a mid d' L → SortedIn (ltC cmp) a mid L → Below (ltC cmp) (mid + 1) b L ∧ ∀ R, PermIn (mid + 1) b L R → SortedIn (ltC cmp) (mid + 1) b R → PermIn a b d R ∧ SortedIn (ltC cmp) a b R) ∧
      (∀ L, PermIn (mid + 1) b d' L → SortedIn (ltC cmp) (mid + 1) b L → Below (ltC cmp) a mid L ∧ ∀ R, PermIn a mid L R → SortedIn (ltC cmp) a mid R → PermIn a b d R ∧ SortedIn (ltC cmp) a b R)) := by
  obtain ⟨h1, h2, h3, h4, h5, h6, h7⟩ := round_part hw (partition_holds (ltC cmp)) hap hpb (by omega) hB (mid := (Sort.partition (ltC cmp) d a b p).1) (ap := (Sort.partition (ltC cmp) d a b p).2.1) (d4 := (Sort.partition (ltC cmp) d a b p).2.2) rfl
  exact (partition id n hC d a b p hd hap hpb hb hn).makes ⟨_, _, rfl, h1, h2, by rw [h3, hd], h4, h5, h6, h7⟩

structure SP where
  d : Array Lm
  a : Nat
  b : Nat
  l : Nat
  w : Bool
  v : Bool
structure SR where
  d : Array Lm
  w : Bool
  v : Bool
structure SQ where
  d : Array Lm
  l : Nat
  p : Nat
  h : Int

set_option maxHeartbeats 8000000 in
theorem pdqsort_of {Q : List O → Prop} {cf : FuncId} {cmp : Lm → Lm → Int} (id n : Nat) (hC : CmpQ Q id n cf [] cmp) (hw : SWO (ltC cmp)) (hn : n < 4611686018427387904) (hbrk : ∀ (d : Array Lm) (a b : Nat), d.size = n → a < b → b ≤ n → Makes Q 52 id n [.int .i64 a, .int .i64 b, (.fn cf [])] d (fun r d' => r = .tup [] ∧ PermIn a b d d')) :
    ∀ (k : Nat) (d : Array Lm) (a b l : Nat), d.size = n → a ≤ b → b ≤ n → b - a ≤ k → l < 4611686018427387904 → Below (ltC cmp) a b d →
      Makes Q 43 id n [.int .i64 a, .int .i64 b, .int .i64 l, (.fn cf [])] d (fun r d' => r = .tup [] ∧ Sorts cmp a b d d') := by
  intro k
  induction k using Nat.strongRecOn with
  | _ k ih =>
  intro d a b l hd hab hb hk hl hBe S0 tk hid hQ
  refine ACalls.fgoC c43 rfl [9, 13, 17] rfl fun hS => ?_
  repeat' first | with_reducible refine fzD_ite (fun q => ?_) (fun q => ?_) | ((try conv => whnf); first | refine bs_d (fun q => ?_) (fun q => ?_) | refine bs_n ?_ | refine bs_i (fun q => ?_) (fun q => ?_) | refine eqk rfl ?_ | refine ffin _ rfl rfl hS (Sub.refl _) rfl ⟨?_, rfl, rfl⟩)
  refine floopS (α := SP) rfl (fun s => s.d.size = n ∧ s.a ≤ s.b ∧ s.b ≤ n ∧ s.b - s.a ≤ k ∧ s.l < 4611686018427387904 ∧ Below (ltC cmp) s.a s.b s.d ∧ ∀ R, PermIn s.a s.b s.d R → SortedIn (ltC cmp) s.a s.b R → Sorts cmp a b d R) (fun s => s.b - s.a) (fun s => [(0, .d (vec id n)), (1, .d (.int .i64 s.a)), (2, .d (.int .i64 s.b)), (3, .d (.int .i64 s.l)), (10, .d (.bool s.w)), (11, .d (.bool s.v)), (4, .d (.fn cf []))])
    (fun s => S0.set id (VI s.d)) (fun _ => []) (fun _ => []) (fun s _ => ⟨by simp, osc_VO' eE _ hS⟩) ⟨d, a, b, l, true, true⟩ ⟨hd, hab, hb, hk, hl, hBe, fun R h1 h2 => ⟨h1, h2⟩⟩ rfl (fstep_sub ⟨Sub.refl _, Sub.refl _, Sub.refl _, Sub.refl _, Sub.refl _, Sub.refl _, Sub.refl _, trivial⟩) ?_
  rintro s ⟨h1, h2, h3, h4, h5, h6, hcl⟩
  repeat' first | with_reducible refine fzD_ite (fun q => ?_) (fun q => ?_) | ((try conv => whnf); first | refine bs_d (fun q => ?_) (fun q => ?_) <;> (try simp (disch := ((try unfold I64); omega)) only [wi64_id, td] at q) | refine bs_n ?_ | refine bs_i (fun q => ?_) (fun q => ?_) | (refine ckVEQ hC hid hQ (List.length_set ..).symm rfl (mIns id n hC hw s.d s.a s.b h1 h2 h3 hn) (SubL.refl _) (fun r dq hG => ?_); obtain ⟨rfl, hq⟩ := hG; have HF := hq) | (refine ckVEQ hC hid hQ (List.length_set ..).symm rfl (mHeap id n hC hw s.d s.a s.b h1 h2 h3 hn) (SubL.refl _) (fun r dq hG => ?_); obtain ⟨rfl, hq⟩ := hG; have HF := hq) | refine ffin _ (by simp) rfl (osc_VO' eE _ hS) (Sub.refl _) rfl ⟨_, ⟨rfl, ?_⟩, rfl, rfl⟩ | refine eqk rfl ?_ | refine ffin _ rfl rfl hS (Sub.refl _) rfl ⟨?_, rfl, rfl⟩)
  · exact hcl _ HF.1 HF.2
  · exact hcl _ HF.1 HF.2
  refine fcut (α := SQ) rfl (fun u => u.d.size = n ∧ u.l < 4611686018427387904 ∧ Below (ltC cmp) s.a s.b u.d ∧ PermIn s.a s.b s.d u.d) (fun u => [(3, .d (.int .i64 u.l)), (0, .d (vec id n)), (1, .d (.int .i64 s.a)), (2, .d (.int .i64 s.b)), (10, .d (.bool s.w)), (11, .d (.bool s.v)), (12, .d (.int .i64 ((s.b : Int) - s.a))), (4, .d (.fn cf []))]) (fun u => S0.set id (VI u.d)) (fun _ => []) (fun _ => []) (fun u _ => ⟨by simp, osc_VO' eE _ hS⟩) ?_ ?_
  · have HZ := h1
    have HB := h6
    have HP := permIn_refl s.d s.a s.b
    repeat' first | with_reducible refine fzD_ite (fun q => ?_) (fun q => ?_) | ((try conv => whnf); first | refine bs_t (by assumption) ?_ | refine bs_f (by assumption) ?_ | refine bs_d (fun q => ?_) (fun q => ?_) <;> (try simp (disch := ((try unfold I64); omega)) only [wi64_id, td] at q) | refine bs_n ?_ | refine bs_i (fun q => ?_) (fun q => ?_) | (refine ckVEQ hC hid hQ (List.length_set ..).symm rfl (hbrk s.d s.a s.b h1 (by omega) h3) (SubL.refl _) (fun r dq hG => ?_); obtain ⟨rfl, hq⟩ := hG; have HZ := hq.1.trans HZ; have HB := HB.perm (by omega) hq; have HP := permIn_trans _ _ _ _ _ HP hq) | refine eqk rfl ?_ | refine ffin _ rfl rfl hS (Sub.refl _) rfl ⟨?_, rfl, rfl⟩)
    · exact fcnext (α := SQ) ⟨_, s.l, 0, 0⟩ ⟨h1, h5, h6, HP⟩ rfl (fstep_sub ⟨Sub.refl _, Sub.refl _, Sub.refl _, Sub.refl _, Sub.of (by rw [q]; rfl), Sub.refl _, Sub.int (by first | rfl | omega | (refine Int.sub_eq_zero.mp ?_; simp (disch := ((try unfold I64); omega)) only [wi64_id, td]; omega)), Sub.refl _, trivial⟩)
    · exact fcnext (α := SQ) ⟨dq, s.l - 1, 0, 0⟩ ⟨HZ, by simp only; omega, HB, HP⟩ rfl (fstep_sub ⟨Sub.int (by first | rfl | omega | (refine Int.sub_eq_zero.mp ?_; simp (disch := ((try unfold I64); omega)) only [wi64_id, td]; omega)), Sub.refl _, Sub.refl _, Sub.refl _, Sub.of (by rw [q]; rfl), Sub.refl _, Sub.int (by first | rfl | omega | (refine Int.sub_eq_zero.mp ?_; simp (disch := ((try unfold I64); omega)) only [wi64_id, td]; omega)), Sub.refl _, trivial⟩)
  rintro t ⟨HZ, HL, HB, HP⟩
  have hlen : 12 < s.b - s.a := by omega
  repeat' first | with_reducible refine fzD_ite (fun q => ?_) (fun q => ?_) | ((try conv => whnf); first | refine bs_d (fun q => ?_) (fun q => ?_) <;> (try simp (disch := ((try unfold I64); omega)) only [wi64_id, td] at q) | refine bs_n ?_ | refine bs_i (fun q => ?_) (fun q => ?_) | (refine ckVEQ hC hid hQ (List.length_set ..).symm rfl (mPiv id n hC _ s.a s.b HZ (by omega) h3 hn) (SubL.refl _) (fun r dq hG => ?_); obtain ⟨p, h, rfl, rfl, p1, p2⟩ := hG; skip) | refine eqk rfl ?_ | refine ffin _ rfl rfl hS (Sub.refl _) rfl ⟨?_, rfl, rfl⟩)
  refine fcut (α := SQ) rfl (fun u => u.d.size = n ∧ u.l < 4611686018427387904 ∧ Below (ltC cmp) s.a s.b u.d ∧ PermIn s.a s.b s.d u.d ∧ s.a ≤ u.p ∧ u.p < s.b) (fun u => [(3, .d (.int .i64 u.l)), (13, .d (.int .i64 u.p)), (14, .d (.int .i64 u.h)), (0, .d (vec id n)), (1, .d (.int .i64 s.a)), (2, .d (.int .i64 s.b)), (10, .d (.bool s.w)), (11, .d (.bool s.v)), (12, .d (.int .i64 ((s.b : Int) - s.a))), (4, .d (.fn cf []))]) (fun u => S0.set id (VI u.d)) (fun _ => []) (fun _ => []) (fun u _ => ⟨by simp, osc_VO' eE _ hS⟩) ?_ ?_
  · skip
    repeat' first | with_reducible refine fzD_ite (fun q => ?_) (fun q => ?_) | ((try conv => whnf); first | refine bs_d (fun q => ?_) (fun q => ?_) <;> (try simp (disch := ((try unfold I64); omega)) only [wi64_id, td] at q) | refine bs_n ?_ | refine bs_i (fun q => ?_) (fun q => ?_) | (refine ckVEQ hC hid hQ (List.length_set ..).symm rfl (mRev id n hC _ s.a s.b HZ (by omega) h3 hn) (SubL.refl _) (fun r dq hG => ?_); obtain ⟨rfl, hq⟩ := hG; have HZ := hq.1.trans HZ; have HB := HB.perm (by omega) hq; have HP := permIn_trans _ _ _ _ _ HP hq) | refine eqk rfl ?_ | refine ffin _ rfl rfl hS (Sub.refl _) rfl ⟨?_, rfl, rfl⟩)
    · exact fcnext (α := SQ) ⟨dq, t.l, s.b - 1 - (p - s.a), 1⟩ ⟨HZ, HL, HB, HP, by simp only; omega, by simp only; omega⟩ rfl (fstep_sub ⟨Sub.refl _, Sub.int (by first | rfl | omega | (refine Int.sub_eq_zero.mp ?_; simp (disch := ((try unfold I64); omega)) only [wi64_id, td]; omega)), Sub.refl _, Sub.refl _, Sub.refl _, Sub.refl _, Sub.refl _, Sub.refl _, Sub.refl _, Sub.refl _, trivial⟩)
    · exact fcnext (α := SQ) ⟨_, t.l, p, h⟩ ⟨HZ, HL, HB, HP, p1, p2⟩ rfl (fstep_sub ⟨Sub.refl _, Sub.refl _, Sub.refl _, Sub.refl _, Sub.refl _, Sub.refl _, Sub.refl _, Sub.refl _, Sub.refl _, Sub.refl _, trivial⟩)
  rintro u ⟨HZ, HL, HB, HP, p1, p2⟩
  refine fcut (α := SR) rfl (fun e => e.d.size = n ∧ Below (ltC cmp) s.a s.b e.d ∧ PermIn s.a s.b s.d e.d) (fun e => [(3, .d (.int .i64 u.l)), (13, .d (.int .i64 u.p)), (0, .d (vec id n)), (1, .d (.int .i64 s.a)), (2, .d (.int .i64 s.b)), (10, .d (.bool e.w)), (11, .d (.bool e.v)), (12, .d (.int .i64 ((s.b : Int) - s.a))), (4, .d (.fn cf []))]) (fun e => S0.set id (VI e.d)) (fun _ => []) (fun _ => []) (fun e _ => ⟨by simp, osc_VO' eE _ hS⟩) ?_ ?_
  · skip
    repeat' first | with_reducible refine fzD_ite (fun q => ?_) (fun q => ?_) | ((try conv => whnf); first | refine bs_d (fun q => ?_) (fun q => ?_) <;> (try simp (disch := ((try unfold I64); omega)) only [wi64_id, td] at q) | refine bs_n ?_ | refine bs_i (fun q => ?_) (fun q => ?_) | (refine ckVEQ hC hid hQ (List.length_set ..).symm rfl (mPar id n hC hw _ s.a s.b HZ (by omega) h3 hn HB) (SubL.refl _) (fun r dq hG => ?_); obtain ⟨ok, rfl, hq, hs⟩ := hG; have HZ := hq.1.trans HZ; have HB := HB.perm (by omega) hq; have HP := permIn_trans _ _ _ _ _ HP hq) | refine ffin _ (by simp) rfl (osc_VO' eE _ hS) (Sub.refl _) rfl ⟨_, ⟨rfl, hcl _ HP (hs (by assumption))⟩, rfl, rfl⟩ | refine eqk rfl ?_ | refine ffin _ rfl rfl hS (Sub.refl _) rfl ⟨?_, rfl, rfl⟩)
    all_goals exact fcnext (α := SR) ⟨_, _, _⟩ ⟨HZ, HB, HP⟩ rfl (fstep_sub ⟨Sub.refl _, Sub.refl _, Sub.refl _, Sub.refl _, Sub.refl _, Sub.refl _, Sub.refl _, Sub.refl _, Sub.refl _, trivial⟩)
  rintro e ⟨HZ, HB, HP⟩
  repeat' first | with_reducible refine fzD_ite (fun q => ?_) (fun q => ?_) | ((try conv => whnf); first | refine bs_t hC.ok ?_ | refine bs_d (fun q => ?_) (fun q => ?_) <;> (try simp (disch := ((try unfold I64); omega)) only [wi64_id, td] at q) | refine bs_n ?_ | refine bs_i (fun q => ?_) (fun q => ?_) | refine ckc hC hid hQ (by omega) (List.length_set ..).symm rfl ?_ | refine cqc hC hid hQ (by omega) ?_ | refine pK_i (iaD_vecN (k := s.a - 1) (by first | rfl | omega | (refine Int.sub_eq_zero.mp ?_; simp (disch := ((try unfold I64); omega)) only [wi64_id, td]; omega)) (by omega)) ?_ | refine pK_i (iaD_vecN (k := u.p) (by first | rfl | omega | (refine Int.sub_eq_zero.mp ?_; simp (disch := ((try unfold I64); omega)) only [wi64_id, td]; omega)) (by omega)) ?_ | refine pK_i (ldV_VO eE hid HZ (by omega)) ?_ | (refine ckVEQ hC hid hQ (List.length_set ..).symm rfl (mEq id n hC hw _ s.a s.b u.p HZ (by omega) p1 p2 h3 hn HB (ltf (by omega))) (SubL.refl _) (fun r dq hG => ?_); obtain ⟨mid, rfl, m1, m2, HZ, HB, cc⟩ := hG; skip) | (refine ckVEQ hC hid hQ (List.length_set ..).symm rfl (mPart id n hC hw _ s.a s.b u.p HZ p1 p2 h3 hn HB) (SubL.refl _) (fun r dq hG => ?_); obtain ⟨mid, ap, rfl, m1, m2, HZ, B1, B2, c1, c2⟩ := hG; skip) | (refine ckVEQ hC hid hQ (List.length_set ..).symm rfl (ih (mid - s.a) (by omega) _ s.a mid u.l HZ m1 (by omega) (Nat.le_refl _) (by omega) B1) (SubL.refl _) (fun r dr hG => ?_); obtain ⟨rfl, hq⟩ := hG; have HZ := hq.1.1.trans HZ; have cc := (c1 _ hq.1 hq.2).2; have HB := (c1 _ hq.1 hq.2).1) | (refine ckVEQ hC hid hQ (List.length_set ..).symm rfl (ih (s.b - (mid + 1)) (by omega) _ (mid + 1) s.b u.l HZ (by omega) (by omega) (Nat.le_refl _) (by omega) B2) (.cons (Sub.refl _) (.cons (Sub.int (by first | rfl | omega | (refine Int.sub_eq_zero.mp ?_; simp (disch := ((try unfold I64); omega)) only [wi64_id, td]; omega))) (SubL.refl _))) (fun r dr hG => ?_); obtain ⟨rfl, hq⟩ := hG; have HZ := hq.1.1.trans HZ; have cc := (c2 _ hq.1 hq.2).2; have HB := (c2 _ hq.1 hq.2).1) | refine eqk rfl ?_ | refine ffin _ rfl rfl hS (Sub.refl _) rfl ⟨?_, rfl, rfl⟩)
  all_goals first
    | exact fnextS (α := SP) ⟨dr, mid + 1, s.b, u.l, _, _⟩ ⟨HZ, by simp only; omega, h3, by simp only; omega, HL, HB, fun R r1 r2 => hcl R (permIn_trans _ _ _ _ _ HP (cc R r1 r2).1) (cc R r1 r2).2⟩ (by simp only; omega) rfl (fstep_sub ⟨Sub.refl _, Sub.int (by first | rfl | omega | (refine Int.sub_eq_zero.mp ?_; simp (disch := ((try unfold I64); omega)) only [wi64_id, td]; omega)), Sub.refl _, Sub.refl _, Sub.refl _, Sub.refl _, Sub.refl _, trivial⟩)
    | exact fnextS (α := SP) ⟨dr, s.a, mid, u.l, _, _⟩ ⟨HZ, m1, by simp only; omega, by simp only; omega, HL, HB, fun R r1 r2 => hcl R (permIn_trans _ _ _ _ _ HP (cc R r1 r2).1) (cc R r1 r2).2⟩ (by simp only; omega) rfl (fstep_sub ⟨Sub.refl _, Sub.refl _, Sub.refl _, Sub.refl _, Sub.refl _, Sub.refl _, Sub.refl _, trivial⟩)
    | exact fnextS (α := SP) ⟨dq, mid, s.b, u.l, _, _⟩ ⟨HZ, m2, h3, by simp only; omega, HL, HB, fun R r1 r2 => hcl R (permIn_trans _ _ _ _ _ HP (cc R r1 r2).1) (cc R r1 r2).2⟩ (by simp only; omega) rfl (fstep_sub ⟨Sub.refl _, Sub.refl _, Sub.refl _, Sub.refl _, Sub.refl _, Sub.refl _, Sub.refl _, trivial⟩)
theorem c52 : cFun E0.P 52 = some ⟨67, [], .seq (.rg [⟨some 13, none, .mv (.t 2)⟩, ⟨some 14, none, .mv (.t 1)⟩, ⟨some 15, none, .bin .sub .leaf (.t 13) (.t 14)⟩, ⟨some 8, none, .mv (.t 15)⟩]) (.seq (.rg [⟨some 16, none, .mv (.t 8)⟩, ⟨some 17, none, .bin .geq .leaf (.t 16) (.k (.int .i64 8))⟩]) (.cond (.t 17) (.seq (.rg [⟨some 18, none, .mv (.t 8)⟩, ⟨some 19, none, .conv .u64 (.t 18)⟩, ⟨some 9, none, .alloc [.int .u64 0] 132⟩, ⟨none, none, .st 1 (.t 9) (.t 19)⟩]) (.seq (.rg [⟨some 20, none, .mv (.t 8)⟩, ⟨some 21, none, .call 71 [.t 20]⟩, ⟨some 10, none, .mv (.t 21)⟩]) (.seq (.rg [⟨some 22, none, .mv (.t 1)⟩, ⟨some 23, none, .mv (.t 8)⟩, ⟨some 24, none, .bin .quo .leaf (.t 23) (.k (.int .i64 4))⟩, ⟨some 25, none, .bin .mul .leaf (.t 24) (.k (.int .i64 2))⟩, ⟨some 26, none, .bin .add .leaf (.t 22) (.t 25)⟩, ⟨some 27, none, .bin .sub .leaf (.t 26) (.k (.int .i64 1))⟩, ⟨some 11, none, .mv (.t 27)⟩]) (.block 0 (.loop (.seq (.seq (.rg [⟨some 28, none, .mv (.t 11)⟩, ⟨some 29, none, .mv (.t 1)⟩, ⟨some 30, none, .mv (.t 8)⟩, ⟨some 31, none, .bin .quo .leaf (.t 30) (.k (.int .i64 4))⟩, ⟨some 32, none, .bin .mul .leaf (.t 31) (.k (.int .i64 2))⟩, ⟨some 33, none, .bin .add .leaf (.t 29) (.t 32)⟩, ⟨some 34, none, .bin .add .leaf (.t 33) (.k (.int .i64 1))⟩, ⟨some 35, none, .bin .leq .leaf (.t 28) (.t 34)⟩]) (.cond (.t 35) .skip (.exit 0))) (.seq (.block 1 (.seq (.rg [⟨some 38, none, .call 72 [.t 9]⟩, ⟨some 39, none, .mv (.t 10)⟩, ⟨some 40, none, .bin .sub .leaf (.t 39) (.k (.int .u64 1))⟩, ⟨some 41, none, .bin .and .leaf (.t 38) (.t 40)⟩, ⟨some 42, none, .conv .i64 (.t 41)⟩, ⟨some 12, none, .mv (.t 42)⟩]) (.seq (.seq (.rg [⟨some 43, none, .mv (.t 12)⟩, ⟨some 44, none, .mv (.t 8)⟩, ⟨some 45, none, .bin .geq .leaf (.t 43) (.t 44)⟩]) (.cond (.t 45) (.rg [⟨some 46, none, .mv (.t 12)⟩, ⟨some 47, none, .mv (.t 8)⟩, ⟨some 48, none, .bin .sub .leaf (.t 46) (.t 47)⟩, ⟨some 12, none, .mv (.t 48)⟩]) .skip)) (.rd [(⟨some 49, none, .mv (.t 0)⟩, none), (⟨some 50, none, .mv (.t 11)⟩, none), (⟨some 51, none, .mv (.t 0)⟩, none), (⟨some 52, none, .mv (.t 1)⟩, none), (⟨some 53, none, .mv (.t 12)⟩, none), (⟨some 54, none, .bin .add .leaf (.t 52) (.t 53)⟩, none), (⟨some 55, none, .mv (.t 0)⟩, none), (⟨some 56, none, .mv (.t 1)⟩, none), (⟨some 57, none, .mv (.t 12)⟩, none), (⟨some 58, none, .bin .add .leaf (.t 56) (.t 57)⟩, none), (⟨some 59, none, .ia 4 (.t 55) (.t 58)⟩, none), (⟨some 60, none, .ld 4 true (.t 59)⟩, none), (⟨some 61, none, .mv (.t 0)⟩, none), (⟨some 62, none, .mv (.t 11)⟩, none), (⟨some 63, none, .ia 4 (.t 61) (.t 62)⟩, none), (⟨some 64, none, .ld 4 true (.t 63)⟩, none), (⟨some 65, none, .ia 4 (.t 49) (.t 50)⟩, none), (⟨none, none, .st 4 (.t 65) (.t 60)⟩, some []), (⟨some 66, none, .ia 4 (.t 51) (.t 54)⟩, none), (⟨none, none, .st 4 (.t 66) (.t 64)⟩, some [])])))) (.rg [⟨some 36, none, .mv (.t 11)⟩, ⟨some 37, none, .bin .add .leaf (.t 36) (.k (.int .i64 1))⟩, ⟨some 11, none, .mv (.t 37)⟩])))))))) .skip))⟩ := by kernel_rfl
theorem c34 : cFun E0.P 34 = some ⟨14, [], .seq (.rg [⟨some 5, none, .mv (.t 0)⟩, ⟨some 6, none, .len 1 (.t 5)⟩, ⟨some 4, none, .mv (.t 6)⟩]) (.rg [⟨some 7, none, .mv (.t 0)⟩, ⟨some 8, none, .mv (.t 4)⟩, ⟨some 9, none, .mv (.t 4)⟩, ⟨some 10, none, .conv .u64 (.t 9)⟩, ⟨some 11, none, .call 44 [.t 10]⟩, ⟨some 12, none, .mv (.t 1)⟩, ⟨some 13, none, .call 43 [.t 7, .k (.int .i64 0), .t 8, .t 11, .t 12]⟩])⟩ := by kernel_rfl

structure SX where
  d : Array Lm
  i : Nat
  x : Int
set_option maxHeartbeats 4000000 in
theorem breakP {Q : List O → Prop} {cf : FuncId} {cmp : Lm → Lm → Int} (id n : Nat) (hC : CmpQ Q id n cf [] cmp) (d : Array Lm) (a b : Nat) (hd : d.size = n) (hab : a < b) (hb : b ≤ n) (hn : n < 4611686018427387904) :
    Makes Q 52 id n [.int .i64 a, .int .i64 b, (.fn cf [])] d (fun r d' => r = .tup [] ∧ PermIn a b d d') := by
  intro S0 tk hid hQ
  refine ACalls.fgo c52 rfl fun hS => ?_
  have hp2 := two_pow_bitsLen_le (n := b - a) (by omega)
  have hp0 : 0 < 2 ^ bitsLen (b - a) := Nat.two_pow_pos _
  have hpow := nextPow (b - a) (by omega)
  obtain ⟨M, hM⟩ : ∃ M : Nat, M = 2 ^ bitsLen (b - a) := ⟨_, rfl⟩
  rw [← hM] at hp2 hp0 hpow
  have hl : (S0.set id (VI d)).length = S0.length := List.length_set ..
  repeat' first | with_reducible refine fzD_ite (fun q => ?_) (fun q => ?_) | ((try conv => whnf); first | refine bs_d (fun q => ?_) (fun q => ?_) <;> (try simp (disch := ((try unfold I64); omega)) only [wi64_id, td] at q) | refine bs_n ?_ | refine bs_i (fun q => ?_) (fun q => ?_) | refine ckS (by first | rfl | simp) rfl hpow (.cons (Sub.int (by first | rfl | omega | (refine Int.sub_eq_zero.mp ?_; simp (disch := ((try unfold I64); omega)) only [wi64_id, td]; omega))) .nil) ?_ | refine ffin _ (by simp) rfl (osc_VO' eE _ hS) (Sub.refl _) rfl ⟨_, ⟨rfl, permIn_refl _ _ _⟩, rfl, rfl⟩ | refine eqk rfl ?_ | refine ffin _ rfl rfl hS (Sub.refl _) rfl ⟨?_, rfl, rfl⟩)
  refine floopS (α := SX) rfl (fun s => s.d.size = n ∧ PermIn a b d s.d ∧ a + (b - a) / 4 * 2 ≤ s.i + 1 ∧ s.i ≤ a + (b - a) / 4 * 2 + 2) (fun s => b + 2 - s.i) (fun s => [(11, .d (.int .i64 s.i)), (1, .d (.int .i64 a)), (8, .d (.int .i64 ((b - a : Nat) : Int))), (0, .d (vec id n)), (9, .lp 0 0), (10, .d (.int .u64 M))])
    (fun s => S0.set id (VI s.d)) (fun s => [.arr [.int .u64 s.x]]) (fun _ => []) (fun s _ => ⟨by simp, osc_VO' eE _ hS⟩) ⟨d, a + (b - a) / 4 * 2 - 1, _⟩ ⟨hd, permIn_refl _ _ _, by simp only; omega, by simp only; omega⟩ rfl (fstep_sub ⟨Sub.int (by first | rfl | omega | (refine Int.sub_eq_zero.mp ?_; simp (disch := ((try unfold I64); omega)) only [wi64_id, td]; omega)), Sub.refl _, Sub.int (by first | rfl | omega | (refine Int.sub_eq_zero.mp ?_; simp (disch := ((try unfold I64); omega)) only [wi64_id, td]; omega)), Sub.refl _, Sub.refl _, Sub.refl _, trivial⟩) ?_
  rintro s ⟨h1, h2, h3, h4⟩
  repeat' first | with_reducible refine fzD_ite (fun q => ?_) (fun q => ?_) | ((try conv => whnf); first | (refine bs_d (fun q => ?_) (fun q => ?_) <;> (rw [hz] at q; try simp (disch := ((try unfold I64); omega)) only [wi64_id, td] at q)) | refine bs_d (fun q => ?_) (fun q => ?_) <;> (try simp (disch := ((try unfold I64); omega)) only [wi64_id, td] at q) | refine bs_n ?_ | refine bs_i (fun q => ?_) (fun q => ?_) | (refine ckJE (k := 0) (by simp) rfl (next s.x _ _ _ (at_own (by simp) rfl)) (SubL.refl _) (fun r o' hG => ?_); obtain ⟨y, y0, y1, rfl, rfl⟩ := hG; obtain ⟨z, hz, hzM⟩ := andz y0 y1 hp0 (by omega)) | refine pK_i (iaD_vecN (k := s.i) (by first | rfl | omega | (refine Int.sub_eq_zero.mp ?_; simp (disch := ((try unfold I64); omega)) only [wi64_id, td]; omega)) (by omega)) ?_ | refine pK_i (iaD_vecN (k := a + z) (by rw [hz]; simp (disch := ((try unfold I64); omega)) only [wi64_id, td]; omega) (by omega)) ?_ | refine pK_i (iaD_vecN (k := a + (z - (b - a))) (by rw [hz]; simp (disch := ((try unfold I64); omega)) only [wi64_id, td]; omega) (by omega)) ?_ | refine pK_i (ldV_VO eE hid h1 (by omega)) ?_ | refine gk_stVO eE hid (List.length_set ..).symm rfl rfl (by simpa using h1) (by omega) rfl ?_ | refine ffin _ (by simp) rfl (osc_VO' eE _ hS) (Sub.refl _) rfl ⟨_, ⟨rfl, h2⟩, rfl, rfl⟩ | refine eqk rfl ?_ | refine ffin _ rfl rfl hS (Sub.refl _) rfl ⟨?_, rfl, rfl⟩)
  · exact fnextS (α := SX) ⟨swp s.d s.i (a + (z - (b - a))), s.i + 1, y⟩ ⟨by rw [size_swp']; exact h1, permIn_trans _ _ _ _ _ h2 (swp_permIn s.d a b s.i _ (by omega) (by omega) (by omega) (by omega) (by omega)), by simp only; omega, by simp only; omega⟩ (by simp only; omega) rfl (fstep_sub ⟨Sub.int (by first | rfl | omega | (refine Int.sub_eq_zero.mp ?_; simp (disch := ((try unfold I64); omega)) only [wi64_id, td]; omega)), Sub.refl _, Sub.refl _, Sub.refl _, Sub.refl _, Sub.refl _, trivial⟩)
  · exact fnextS (α := SX) ⟨swp s.d s.i (a + z), s.i + 1, y⟩ ⟨by rw [size_swp']; exact h1, permIn_trans _ _ _ _ _ h2 (swp_permIn s.d a b s.i _ (by omega) (by omega) (by omega) (by omega) (by omega)), by simp only; omega, by simp only; omega⟩ (by simp only; omega) rfl (fstep_sub ⟨Sub.int (by first | rfl | omega | (refine Int.sub_eq_zero.mp ?_; simp (disch := ((try unfold I64); omega)) only [wi64_id, td]; omega)), Sub.refl _, Sub.refl _, Sub.refl _, Sub.refl _, Sub.refl _, trivial⟩)

theorem sortV {Q : List O → Prop} {cf : FuncId} {cmp : Lm → Lm → Int} (id n : Nat) (hC : CmpQ Q id n cf [] cmp) (hw : SWO (ltC cmp)) (d : Array Lm) (hd : d.size = n) (hn : n < 4611686018427387904) : Makes Q 34 id n [(.fn cf [])] d (fun r d' => r = .tup [] ∧ Sorts cmp 0 n d d') := by
  intro S0 tk hid hQ
  have hk : bitsLen n ≤ 62 := (bitsLen_le_iff n 62).2 (by omega)
  refine ACalls.fgo c34 rfl fun hS => ?_
  repeat' first | with_reducible refine fzD_ite (fun q => ?_) (fun q => ?_) | ((try conv => whnf); first | refine bs_d (fun q => ?_) (fun q => ?_) <;> (try simp (disch := ((try unfold I64); omega)) only [wi64_id, td] at q) | refine bs_n ?_ | refine bs_i (fun q => ?_) (fun q => ?_) | refine ckS (by first | rfl | simp) rfl (len n hn) (.cons (Sub.int (by rw [wu64_id]; unfold U64; omega)) .nil) ?_ | (refine ckVEQ hC hid hQ (List.length_set ..).symm rfl (pdqsort_of id n hC hw hn (fun d a b h1 h2 h3 => breakP id n hC d a b h1 h2 h3 hn) n d 0 n (bitsLen n) hd (Nat.zero_le _) (Nat.le_refl _) (Nat.le_refl _) (by omega) (Or.inl rfl)) (.cons (Sub.refl _) (.cons (Sub.int (by first | rfl | omega | (refine Int.sub_eq_zero.mp ?_; simp (disch := ((try unfold I64); omega)) only [wi64_id, td]; omega))) (.cons (Sub.int (by first | rfl | omega | (refine Int.sub_eq_zero.mp ?_; simp (disch := ((try unfold I64); omega)) only [wi64_id, td]; omega))) (SubL.refl _)))) (fun r dq hG => ?_); obtain ⟨rfl, hq⟩ := hG; skip) | refine ffin _ (by simp) rfl (osc_VO' eE _ hS) (Sub.refl _) rfl ⟨_, ⟨rfl, hq⟩, rfl, rfl⟩ | refine eqk rfl ?_ | refine ffin _ rfl rfl hS (Sub.refl _) rfl ⟨?_, rfl, rfl⟩)
end Go.KL.YtjjdfplonbgpbaaDoor.CL
namespace Go.KL.YtjjdfplonbgpbaaDoor
open Go Go.KL Go.RowKit Go.Proofs
theorem c60 : cFun E0.P 60 = some ⟨6, [(2, none)], .seq (.rg [⟨some 2, none, .mv (.k (.bool false))⟩]) (.seq (.rg [⟨some 3, none, .mv (.t 0)⟩, ⟨some 4, none, .mv (.t 0)⟩, ⟨some 5, none, .bin .neq .leaf (.t 3) (.t 4)⟩, ⟨some 2, none, .mv (.t 5)⟩]) .ret)⟩ := by kernel_rfl
theorem c46 : cFun E0.P 46 = some ⟨20, [(4, none)], .seq (.rg [⟨some 4, none, .mv (.k (.int .i64 0))⟩]) (.seq (.rg [⟨some 7, none, .mv (.t 0)⟩, ⟨some 8, none, .call 60 [.t 7]⟩, ⟨some 5, none, .mv (.t 8)⟩]) (.seq (.rg [⟨some 9, none, .mv (.t 1)⟩, ⟨some 10, none, .call 60 [.t 9]⟩, ⟨some 6, none, .mv (.t 10)⟩]) (.seq (.seq (.rg [⟨some 11, none, .mv (.t 5)⟩]) (.cond (.t 11) (.seq (.seq (.rg [⟨some 12, none, .mv (.t 6)⟩]) (.cond (.t 12) (.seq (.rg [⟨some 4, none, .mv (.k (.int .i64 0))⟩]) .ret) .skip)) (.seq (.rg [⟨some 4, none, .mv (.k (.int .i64 (-1)))⟩]) .ret)) .skip)) (.seq (.seq (.rg [⟨some 13, none, .mv (.t 6)⟩]) (.cond (.t 13) (.seq (.rg [⟨some 4, none, .mv (.k (.int .i64 1))⟩]) .ret) .skip)) (.seq (.seq (.rg [⟨some 14, none, .mv (.t 0)⟩, ⟨some 15, none, .mv (.t 1)⟩, ⟨some 16, none, .bin .lss .leaf (.t 14) (.t 15)⟩]) (.cond (.t 16) (.seq (.rg [⟨some 4, none, .mv (.k (.int .i64 (-1)))⟩]) .ret) .skip)) (.seq (.seq (.rg [⟨some 17, none, .mv (.t 0)⟩, ⟨some 18, none, .mv (.t 1)⟩, ⟨some 19, none, .bin .gtr .leaf (.t 17) (.t 18)⟩]) (.cond (.t 19) (.seq (.rg [⟨some 4, none, .mv (.k (.int .i64 1))⟩]) .ret) .skip)) (.seq (.rg [⟨some 4, none, .mv (.k (.int .i64 0))⟩]) .ret)))))))⟩ := by kernel_rfl
theorem c45 : cFun E0.P 45 = some ⟨15, [(2, none)], .seq (.rg [⟨some 2, none, .mv (.k (.int .i64 0))⟩]) (.seq (.seq (.rg [⟨some 5, none, .mv (.t 0)⟩, ⟨some 6, none, .len 1 (.t 5)⟩, ⟨some 7, none, .mv (.k (.int .i64 0))⟩]) (.block 0 (.loop (.seq (.rg [⟨some 8, none, .bin .lss .leaf (.t 7) (.t 6)⟩]) (.seq (.cond (.t 8) .skip (.exit 0)) (.seq (.block 1 (.seq (.rg [⟨some 9, none, .ia 1 (.t 5) (.t 7)⟩, ⟨some 10, none, .ld 1 false (.t 9)⟩, ⟨some 4, none, .mv (.t 10)⟩]) (.seq (.rg [⟨some 11, none, .mv (.t 4)⟩, ⟨some 12, none, .bin .neq .leaf (.t 11) (.k (.int .i64 0))⟩]) (.cond (.t 12) (.seq (.rg [⟨some 13, none, .mv (.t 4)⟩, ⟨some 2, none, .mv (.t 13)⟩]) .ret) .skip)))) (.rg [⟨some 14, none, .bin .add .leaf (.t 7) (.k (.int .i64 1))⟩, ⟨some 7, none, .mv (.t 14)⟩]))))))) (.seq (.rg [⟨some 2, none, .mv (.k (.int .i64 0))⟩]) .ret))⟩ := by kernel_rfl
theorem c35 : cFun E0.P 35 = some ⟨22, [(4, none)], .seq (.rg [⟨some 2, none, .box (.t 0) 67⟩, ⟨some 3, none, .box (.t 1) 67⟩, ⟨some 4, none, .mv (.k (.int .i64 0))⟩]) (.seq (.rd [(⟨some 5, none, .fa 0 (.t 2)⟩, none), (⟨some 6, none, .ld 1 false (.t 5)⟩, none), (⟨some 7, none, .fa 0 (.t 3)⟩, none), (⟨some 8, none, .ld 1 false (.t 7)⟩, none), (⟨some 9, none, .bin .sub .leaf (.t 6) (.t 8)⟩, none), (⟨some 10, none, .fa 1 (.t 2)⟩, none), (⟨some 11, none, .ld 1 false (.t 10)⟩, none), (⟨some 12, none, .fa 1 (.t 3)⟩, none), (⟨some 13, none, .ld 1 false (.t 12)⟩, none), (⟨some 14, none, .call 46 [.t 11, .t 13]⟩, none), (⟨some 15, none, .fa 2 (.t 2)⟩, none), (⟨some 16, none, .ld 1 false (.t 15)⟩, none), (⟨some 17, none, .fa 2 (.t 3)⟩, none), (⟨some 18, none, .ld 1 false (.t 17)⟩, none), (⟨some 19, none, .call 46 [.t 16, .t 18]⟩, none), (⟨some 20, none, .buildS 3 1 [.int .i64 0] [(0, .t 9), (1, .t 14), (2, .t 19)] 3⟩, none), (⟨some 21, none, .call 45 [.t 20]⟩, some []), (⟨some 4, none, .mv (.t 21)⟩, none)]) .ret)⟩ := by kernel_rfl
theorem c23 : cFun E0.P 23 = some ⟨26, [(2, none)], .seq (.rg [⟨some 1, none, .box (.t 0) 67⟩, ⟨some 2, none, .mv (.k (.bool false))⟩]) (.seq (.rg [⟨some 3, none, .fa 0 (.t 1)⟩, ⟨some 4, none, .ld 1 false (.t 3)⟩, ⟨some 5, none, .bin .geq .leaf (.t 4) (.k (.int .i64 1))⟩, ⟨some 6, none, .mv (.t 5)⟩, ⟨some 7, some (6, true), .fa 0 (.t 1)⟩, ⟨some 8, some (6, true), .ld 1 false (.t 7)⟩, ⟨some 9, some (6, true), .bin .leq .leaf (.t 8) (.k (.int .i64 9999))⟩, ⟨some 10, none, .pick (.t 6) (.t 9) (.k (.bool false))⟩, ⟨some 11, none, .mv (.t 10)⟩, ⟨some 12, some (11, true), .fa 3 (.t 1)⟩, ⟨some 13, some (11, true), .ld 1 false (.t 12)⟩, ⟨some 14, some (11, true), .bin .neq .leaf (.t 13) (.k (.int .i64 0))⟩, ⟨some 15, none, .pick (.t 11) (.t 14) (.k (.bool false))⟩, ⟨some 16, none, .mv (.t 15)⟩, ⟨some 17, some (16, true), .fa 3 (.t 1)⟩, ⟨some 18, some (16, true), .ld 1 false (.t 17)⟩, ⟨some 19, some (16, true), .bin .geq .leaf (.t 18) (.k (.int .i64 (-4611686018427387904)))⟩, ⟨some 20, none, .pick (.t 16) (.t 19) (.k (.bool false))⟩, ⟨some 21, none, .mv (.t 20)⟩, ⟨some 22, some (21, true), .fa 3 (.t 1)⟩, ⟨some 23, some (21, true), .ld 1 false (.t 22)⟩, ⟨some 24, some (21, true), .bin .leq .leaf (.t 23) (.k (.int .i64 4611686018427387904))⟩, ⟨some 25, none, .pick (.t 21) (.t 24) (.k (.bool false))⟩, ⟨some 2, none, .mv (.t 25)⟩]) .ret)⟩ := by kernel_rfl
theorem c32 : cFun E0.P 32 = some ⟨10, [(2, some (3, true))], .seq (.rg [⟨some 1, none, .box (.t 0) 67⟩, ⟨some 2, none, .alloc [.int .i64 0, .int .u64 0, .int .u64 0] 91⟩]) (.seq (.rg [⟨some 3, none, .fa 0 (.t 1)⟩, ⟨some 4, none, .ld 1 false (.t 3)⟩, ⟨some 5, none, .fa 1 (.t 1)⟩, ⟨some 6, none, .ld 1 false (.t 5)⟩, ⟨some 7, none, .fa 2 (.t 1)⟩, ⟨some 8, none, .ld 1 false (.t 7)⟩, ⟨some 9, none, .build [.int .i64 0, .int .u64 0, .int .u64 0] [(0, 1, .t 4), (1, 1, .t 6), (2, 1, .t 8)]⟩, ⟨none, none, .st 3 (.t 2) (.t 9)⟩]) .ret)⟩ := by kernel_rfl

def cmpI (a b : Int) : Int := if a < b then -1 else if b < a then 1 else 0
def ordI : List Int → Int
  | [] => 0
  | n :: r => if n ≠ 0 then n else ordI r
theorem isNaNU (x : Int) : Pure 60 [.int .u64 x] (.bool false) := by
  intro S tk
  refine ACalls.fgo c60 rfl fun hS => ?_
  repeat' first | with_reducible refine fzD_ite (fun q => ?_) (fun q => ?_) | ((try conv => whnf); first | refine bs_d (fun q => ?_) (fun q => ?_) | refine bs_n ?_ | refine bs_i (fun q => ?_) (fun q => ?_) | refine eqk rfl ?_ | refine ffin _ rfl rfl hS (Sub.refl _) rfl ⟨?_, rfl, rfl⟩)
  all_goals first | rfl | omega
theorem compareU (a b : Int) : Pure 46 [.int .u64 a, .int .u64 b] (.int .i64 (cmpI a b)) := by
  intro S tk
  refine ACalls.fgo c46 rfl fun hS => ?_
  repeat' first | with_reducible refine fzD_ite (fun q => ?_) (fun q => ?_) | ((try conv => whnf); first | refine bs_d (fun q => ?_) (fun q => ?_) | refine bs_n ?_ | refine bs_i (fun q => ?_) (fun q => ?_) | refine ckz (isNaNU _) ?_ | refine cq (isNaNU _) ?_ | refine eqk rfl ?_ | refine ffin _ rfl rfl hS (Sub.refl _) rfl ⟨?_, rfl, rfl⟩)
  all_goals simp [tupD, cmpI, *]
theorem order3 (a b c : Int) : Pure 45 [.sl (i64s [a, b, c])] (.int .i64 (ordI [a, b, c])) := by
  intro S tk
  refine ACalls.fgo c45 rfl fun hS => ?_
  repeat' first | with_reducible refine fzD_ite (fun q => ?_) (fun q => ?_) | ((try conv => whnf); first | refine bs_d (fun q => ?_) (fun q => ?_) | refine bs_n ?_ | refine bs_i (fun q => ?_) (fun q => ?_) | refine eqk rfl ?_ | refine ffin _ rfl rfl hS (Sub.refl _) rfl ⟨?_, rfl, rfl⟩)
  refine floop (α := Nat) rfl rfl hS (fun i => i ≤ 3 ∧ ordI ([a, b, c].drop i) = ordI [a, b, c]) (fun i => 3 - i) (fun i => [(7, .d (.int .i64 i)), (5, .d (.sl (i64s [a, b, c]))), (6, .d (.int .i64 ((3 : Nat) : Int)))]) (fun _ => []) (fun _ => []) 0 ⟨by omega, rfl⟩ (fstep_sub ⟨Sub.refl _, Sub.refl _, Sub.refl _, trivial⟩) ?_
  rintro i ⟨hi, hp⟩
  have : i = 0 ∨ i = 1 ∨ i = 2 ∨ i = 3 := by omega
  rcases this with rfl | rfl | rfl | rfl
  · skip
    repeat' first | with_reducible refine fzD_ite (fun q => ?_) (fun q => ?_) | ((try conv => whnf); first | refine bs_d (fun q => ?_) (fun q => ?_) | refine bs_n ?_ | refine bs_i (fun q => ?_) (fun q => ?_) | refine pK_i (iaD_i64s (a := a) (by omega) rfl) ?_ | refine eqk rfl ?_ | refine ffin _ rfl rfl hS (Sub.refl _) rfl ⟨?_, rfl, rfl⟩)
    · have hq : a = 0 := q
      conv => whnf
      refine fnext (α := Nat) 1 ⟨by omega, by simp [ordI, hq]⟩ (by omega) (fstep_sub ⟨Sub.int (by first | rfl | omega | (refine Int.sub_eq_zero.mp ?_; simp (disch := ((try unfold I64); omega)) only [wi64_id, td]; omega)), Sub.refl _, Sub.refl _, trivial⟩)
    · have hq : a ≠ 0 := q
      simp [tupD, ordI, hq]
  · skip
    repeat' first | with_reducible refine fzD_ite (fun q => ?_) (fun q => ?_) | ((try conv => whnf); first | refine bs_d (fun q => ?_) (fun q => ?_) | refine bs_n ?_ | refine bs_i (fun q => ?_) (fun q => ?_) | refine pK_i (iaD_i64s (a := b) (by omega) rfl) ?_ | refine eqk rfl ?_ | refine ffin _ rfl rfl hS (Sub.refl _) rfl ⟨?_, rfl, rfl⟩)
    · have hq : b = 0 := q
      conv => whnf
      refine fnext (α := Nat) 2 ⟨by omega, by rw [← hp]; simp [ordI, hq]⟩ (by omega) (fstep_sub ⟨Sub.int (by first | rfl | omega | (refine Int.sub_eq_zero.mp ?_; simp (disch := ((try unfold I64); omega)) only [wi64_id, td]; omega)), Sub.refl _, Sub.refl _, trivial⟩)
    · have hq : b ≠ 0 := q
      rw [← hp]
      simp [tupD, ordI, hq]
  · skip
    repeat' first | with_reducible refine fzD_ite (fun q => ?_) (fun q => ?_) | ((try conv => whnf); first | refine bs_d (fun q => ?_) (fun q => ?_) | refine bs_n ?_ | refine bs_i (fun q => ?_) (fun q => ?_) | refine pK_i (iaD_i64s (a := c) (by omega) rfl) ?_ | refine eqk rfl ?_ | refine ffin _ rfl rfl hS (Sub.refl _) rfl ⟨?_, rfl, rfl⟩)
    · have hq : c = 0 := q
      conv => whnf
      refine fnext (α := Nat) 3 ⟨by omega, by rw [← hp]; simp [ordI, hq]⟩ (by omega) (fstep_sub ⟨Sub.int (by first | rfl | omega | (refine Int.sub_eq_zero.mp ?_; simp (disch := ((try unfold I64); omega)) only [wi64_id, td]; omega)), Sub.refl _, Sub.refl _, trivial⟩)
    · have hq : c ≠ 0 := q
      rw [← hp]
      simp [tupD, ordI, hq]
  · skip
    repeat' first | with_reducible refine fzD_ite (fun q => ?_) (fun q => ?_) | ((try conv => whnf); first | refine bs_d (fun q => ?_) (fun q => ?_) | refine bs_n ?_ | refine bs_i (fun q => ?_) (fun q => ?_) | refine eqk rfl ?_ | refine ffin _ rfl rfl hS (Sub.refl _) rfl ⟨?_, rfl, rfl⟩)
    rw [← hp]; rfl
def aheadI (x y : CL.Lm) : Int := ordI [x.acc - y.acc, cmpI x.cus y.cus, cmpI x.con y.con]
theorem ahead (x y : CL.Lm) : Pure 35 [CL.eD x, CL.eD y] (.int .i64 (aheadI x y)) := by
  intro S tk
  have h1 := x.ok
  have h2 := y.ok
  have hw : IntKind.wrap .i64 (x.acc - y.acc) = x.acc - y.acc := wi64_id (by unfold I64; omega)
  refine ACalls.fgo c35 rfl fun hS => ?_
  repeat' first | with_reducible refine fzD_ite (fun q => ?_) (fun q => ?_) | ((try conv => whnf); first | refine bs_d (fun q => ?_) (fun q => ?_) | refine bs_n ?_ | refine bs_i (fun q => ?_) (fun q => ?_) | refine ckz (compareU _ _) ?_ | refine cq (compareU _ _) ?_ | refine ckz (order3 _ _ _) ?_ | refine cq (order3 _ _ _) ?_ | refine eqk rfl ?_ | refine ffin _ rfl rfl hS (Sub.refl _) rfl ⟨?_, rfl, rfl⟩)
  rw [hw]; rfl
theorem may (x : Ln) : Pure 23 [x.d] (.bool (decide x.may)) := by
  intro S tk
  refine ACalls.fgo c23 rfl fun hS => ?_
  repeat' first | with_reducible refine fzD_ite (fun q => ?_) (fun q => ?_) | ((try conv => whnf); first | refine bs_d (fun q => ?_) (fun q => ?_) | refine bs_n ?_ | refine bs_i (fun q => ?_) (fun q => ?_) | refine eqk rfl ?_ | refine ffin _ rfl rfl hS (Sub.refl _) rfl ⟨?_, rfl, rfl⟩)
  all_goals
    simp only [tupD, D.bool.injEq, Ln.may, Bool.true_eq, Bool.false_eq, decide_eq_true_eq, decide_eq_false_iff_not, decide_eq_decide]
    first
      | exact decide_eq_true (by omega)
      | exact decide_eq_false (by omega)
def tD (t : Ti) : D := .agg [.int .i64 t.1, .int .u64 t.2.1, .int .u64 t.2.2]
theorem titleOf (x : Ln) : Pure 32 [x.d] (tD x.t) := by
  intro S tk
  refine ACalls.fgo c32 rfl fun hS => ?_
  repeat' first | with_reducible refine fzD_ite (fun q => ?_) (fun q => ?_) | ((try conv => whnf); first | refine bs_d (fun q => ?_) (fun q => ?_) | refine bs_n ?_ | refine bs_i (fun q => ?_) (fun q => ?_) | refine eqk rfl ?_ | refine ffin _ rfl rfl hS (Sub.refl _) rfl ⟨?_, rfl, rfl⟩)
  all_goals rfl
theorem ordI3 (a b c : Int) : ordI [a, b, c] = if a ≠ 0 then a else if b ≠ 0 then b else if c ≠ 0 then c else 0 := rfl
theorem cmpI_neg (a b : Int) : cmpI a b < 0 ↔ a < b := by unfold cmpI; split <;> (try split) <;> omega
theorem cmpI_zero (a b : Int) : cmpI a b = 0 ↔ a = b := by unfold cmpI; split <;> (try split) <;> omega
def CL.Lm.n (x : CL.Lm) : Ln := ⟨x.acc, x.cus, x.con, x.amt⟩
theorem ahead_lt (x y : CL.Lm) : aheadI x y < 0 ↔ x.n.lt y.n := by
  have h1 := cmpI_neg x.cus y.cus
  have h2 := cmpI_zero x.cus y.cus
  have h3 := cmpI_neg x.con y.con
  rw [aheadI, ordI3]
  simp only [Ln.lt, Ti.lt, Ln.t, CL.Lm.n]
  split
  · omega
  · split
    · omega
    · split <;> omega
theorem swo_ahead : Go.Sort.SWO (CL.ltC aheadI) where
  irrefl x := by
    simp only [CL.ltC, decide_eq_false_iff_not, ahead_lt]
    exact Ti.lt_irrefl _
  trans x y z h1 h2 := by
    simp only [CL.ltC, decide_eq_true_eq, ahead_lt] at *
    exact Ti.lt_trans h1 h2
  ntrans x y z h1 h2 := by
    simp only [CL.ltC, decide_eq_false_iff_not, ahead_lt] at *
    intro h
    unfold Ln.lt at *
    rcases Ti.tri x.n.t y.n.t with h3 | h3 | h3
    · exact h1 h3
    · rw [h3] at h; exact h2 h
    · exact h2 (Ti.lt_trans h3 h)
theorem aheadQ (id n : Nat) : CL.CmpQ (fun _ => True) id n 35 [] aheadI where
  ok := rfl
  app _ _ _ := trivial
  call _ S d tk x y _ _ := ahead x y _ _
theorem sorts_lt {d d' : Array CL.Lm} (h : CL.Sorts aheadI 0 d.size d d') (hn : (d.toList.map fun x => x.n.t).Nodup) : d'.toList.Perm d.toList ∧ (d'.toList.map CL.Lm.n).Pairwise Ln.lt := by
  obtain ⟨⟨h1, h2, h3⟩, h4⟩ := h
  have e1 : d'.extract 0 d.size = d' := by rw [← h1]; simp
  have e2 : d.extract 0 d.size = d := by simp
  rw [e1, e2] at h3
  refine ⟨h3, ?_⟩
  rw [List.pairwise_map]
  have hn' : (d'.toList.map fun x => x.n.t).Nodup := (h3.map _).nodup_iff.2 hn
  rw [List.Nodup, List.pairwise_map] at hn'
  refine (hn'.and (List.pairwise_iff_getElem (R := fun a b => ¬ b.n.lt a.n).2 ?_)).imp fun {a b} hab => ?_
  · intro i j hi hj hij
    have := h4 i j (Nat.zero_le _) hij (by rw [← h1]; simpa using hj)
    rw [Array.length_toList] at hi hj
    rw [getElem!_pos d' i hi, getElem!_pos d' j hj] at this
    simp only [CL.ltC, decide_eq_false_iff_not, ahead_lt] at this
    simpa using this
  · rcases Ti.tri a.n.t b.n.t with h | h | h
    · exact h
    · exact absurd h hab.1
    · exact absurd h hab.2
abbrev kTi : KT := .agg [.i .i64, .i .u64, .i .u64]
theorem keyB_tD (a b : Ti) : keyB (tD a) (tD b) = decide (a = b) := by
  obtain ⟨a1, a2, a3⟩ := a
  obtain ⟨b1, b2, b3⟩ := b
  simp only [keyB, tD, lfsB, lfB, Prod.mk.injEq, Bool.and_true, Bool.decide_and]
theorem kOK_tD (t : Ti) : kOK kTi (tD t) = true := rfl
theorem snoc_ind {α : Type} {p : List α → Prop} (h0 : p []) (hs : ∀ l x, p l → p (l ++ [x])) (l : List α) : p l := by
  have : ∀ r : List α, p r.reverse := fun r => by
    induction r with
    | nil => exact h0
    | cons x r ih => rw [List.reverse_cons]; exact hs _ _ ih
  have h := this l.reverse
  rwa [List.reverse_reverse] at h
def tts (l : List Ln) : List Ti := l.foldl (fun ts x => if x.t ∈ ts then ts else ts ++ [x.t]) []
theorem tts_snoc (l : List Ln) (x : Ln) : tts (l ++ [x]) = if x.t ∈ tts l then tts l else tts l ++ [x.t] := by
  unfold tts; rw [List.foldl_append]; rfl
theorem mem_tts (l : List Ln) : ∀ t, t ∈ tts l ↔ t ∈ l.map Ln.t := by
  refine snoc_ind (p := fun l => ∀ t, t ∈ tts l ↔ t ∈ l.map Ln.t) ?_ ?_ l
  · simp [tts]
  · intro l x ih t
    rw [tts_snoc]
    simp only [List.map_append, List.map_cons, List.map_nil, List.mem_append, List.mem_singleton, ← ih]
    split
    · constructor
      · exact .inl
      · rintro (h | rfl)
        · exact h
        · assumption
    · simp
theorem nd_tts (l : List Ln) : (tts l).Nodup := by
  refine snoc_ind (p := fun l => (tts l).Nodup) List.nodup_nil ?_ l
  · intro l x ih
    rw [tts_snoc]
    split
    · exact ih
    · rename_i h
      exact List.nodup_append.2 ⟨ih, by simp, fun a ha b hb hab => h (by rw [List.mem_singleton.1 hb] at hab; exact hab ▸ ha)⟩
theorem tts_len (l : List Ln) : (tts l).length ≤ l.length := by
  refine snoc_ind (p := fun l => (tts l).length ≤ l.length) (by simp [tts]) ?_ l
  · intro l x ih
    rw [tts_snoc, List.length_append]
    split <;> simp <;> omega
theorem amtsT_snoc (l : List Ln) (x : Ln) (t : Ti) : amtsT (l ++ [x]) t = amtsT l t ++ if x.t = t then [x.amt] else [] := by
  rw [amtsT_app]
  by_cases h : x.t = t <;> simp [amtsT, h]

def kvT (m0 : Nat) (l : List Ln) : List Ti → Nat → Kv
  | [], _ => []
  | t :: r, n => (tD t, .gsl (i64s (amtsT l t)) (m0 + n), n) :: kvT m0 l r (n + 1)
def tksT (l : List Ln) (e : TypeId) (ts : List Ti) : Tks := ts.map fun t => ((amtsT l t).length, e, 1)
theorem mfind_some' (m0 : Nat) (l : List Ln) (t : Ti) : ∀ (ts : List Ti) (n : Nat), t ∈ ts → ∃ i, ts[i]? = some t ∧ mfind (kvT m0 l ts n) (tD t) = some (tD t, .gsl (i64s (amtsT l t)) (m0 + (n + i)), n + i)
  | [], n, h => by cases h
  | s :: r, n, h => by
    by_cases hs : t = s
    · subst hs
      exact ⟨0, rfl, by simp [mfind, kvT, keyB_tD]⟩
    · obtain ⟨i, h1, h2⟩ := mfind_some' m0 l t r (n + 1) ((List.mem_cons.1 h).resolve_left hs)
      refine ⟨i + 1, by simpa using h1, ?_⟩
      rw [show n + (i + 1) = n + 1 + i from by omega, ← h2]
      simp [mfind, kvT, keyB_tD, hs]
theorem mfind_none' (m0 : Nat) (l : List Ln) (t : Ti) : ∀ (ts : List Ti) (n : Nat), t ∉ ts → mfind (kvT m0 l ts n) (tD t) = none
  | [], n, h => rfl
  | s :: r, n, h => by
    simp only [List.mem_cons, not_or] at h
    have := mfind_none' m0 l t r (n + 1) h.2
    simp only [mfind] at this
    simp [mfind, kvT, keyB_tD, h.1, this]
theorem kvT_other {m0 : Nat} {l : List Ln} {x : Ln} : ∀ (ts : List Ti) (n : Nat), x.t ∉ ts → kvT m0 (l ++ [x]) ts n = kvT m0 l ts n
  | [], n, h => rfl
  | s :: r, n, h => by
    simp only [List.mem_cons, not_or] at h
    rw [kvT, kvT, kvT_other r (n + 1) h.2, amtsT_snoc, if_neg h.1, List.append_nil]
theorem mrepl_kvT (m0 : Nat) (l : List Ln) (x : Ln) : ∀ (ts : List Ti) (n i : Nat), ts.Nodup → ts[i]? = some x.t →
    mrepl (kvT m0 l ts n) (tD x.t) (.gsl (i64s (amtsT l x.t) ++ i64s [x.amt]) (m0 + (n + i))) = kvT m0 (l ++ [x]) ts n
  | [], n, i, _, h => by simp at h
  | s :: r, n, i, hn, h => by
    simp only [List.nodup_cons] at hn
    cases i with
    | zero =>
      simp only [List.getElem?_cons_zero, Option.some.injEq] at h
      subst h
      rw [kvT, kvT, mrepl, keyB_tD, decide_eq_true rfl, if_pos rfl, kvT_other r (n + 1) hn.1, amtsT_snoc, if_pos rfl]
      simp [i64s]
    | succ i =>
      simp only [List.getElem?_cons_succ] at h
      have hm : x.t ∈ r := List.mem_of_getElem? h
      have hne : ¬ x.t = s := fun e => hn.1 (e ▸ hm)
      have ih := mrepl_kvT m0 l x r (n + 1) i hn.2 h
      rw [show n + 1 + i = n + (i + 1) from by omega] at ih
      rw [kvT, kvT, mrepl, keyB_tD, decide_eq_false hne, if_neg (by simp), ih, amtsT_snoc, if_neg hne, List.append_nil]
theorem kvT_app (m0 : Nat) (l : List Ln) : ∀ (ts : List Ti) (t : Ti) (n : Nat), kvT m0 l (ts ++ [t]) n = kvT m0 l ts n ++ [(tD t, .gsl (i64s (amtsT l t)) (m0 + (n + ts.length)), n + ts.length)]
  | [], t, n => rfl
  | s :: r, t, n => by
    rw [List.cons_append, kvT, kvT_app m0 l r t (n + 1), kvT, List.length_cons, show n + 1 + r.length = n + (r.length + 1) from by omega]; rfl
theorem tksT_set {l : List Ln} {x : Ln} {e : TypeId} {ts : List Ti} {i : Nat} (hn : ts.Nodup) (h : ts[i]? = some x.t) : (tksT l e ts).set i ((amtsT l x.t).length + 1, e, 1) = tksT (l ++ [x]) e ts := by
  refine List.ext_getElem? fun j => ?_
  rw [tksT, tksT, List.getElem?_map]
  by_cases hj : i = j
  · subst hj
    rw [List.getElem?_set_self (by rw [List.length_map]; exact (List.getElem?_eq_some_iff.1 h).1), h]
    simp [amtsT_snoc]
  · rw [List.getElem?_set_ne hj, List.getElem?_map]
    cases hs : ts[j]? with
    | none => rfl
    | some s =>
      have hne : ¬ x.t = s := fun e => hj (by
        have h1 := (List.getElem?_eq_some_iff.1 h).1
        exact (List.getElem?_inj h1 hn).1 (by rw [h, hs, e]))
      simp [amtsT_snoc, hne]
theorem tksT_other {l : List Ln} {x : Ln} {e : TypeId} {ts : List Ti} (h : x.t ∉ ts) : tksT (l ++ [x]) e ts = tksT l e ts := by
  refine List.map_congr_left fun t ht => ?_
  have hne : ¬ x.t = t := fun e => h (e ▸ ht)
  rw [amtsT_snoc, if_neg hne, List.append_nil]

theorem tidy_old (m0 : Nat) (l : List Ln) (x : Ln) (e : TypeId) (h : x.t ∈ tts l) : ∃ i, (tksT l e (tts l))[i]? = some ((i64s (amtsT l x.t)).length, e, 1) ∧
    mget .nilsl (kvT m0 l (tts l) 0) (tD x.t) = .gsl (i64s (amtsT l x.t)) (m0 + i) ∧
    mset (kvT m0 l (tts l) 0) (tts l).length (tD x.t) (.gsl (i64s (amtsT l x.t) ++ i64s [x.amt]) (m0 + i)) = kvT m0 (l ++ [x]) (tts (l ++ [x])) 0 ∧
    mclk (kvT m0 l (tts l) 0) (tts l).length (tD x.t) = (tts (l ++ [x])).length ∧
    (tksT l e (tts l)).set i ((i64s (amtsT l x.t) ++ i64s [x.amt]).length, e, 1) = tksT (l ++ [x]) e (tts (l ++ [x])) := by
  obtain ⟨i, h1, h2⟩ := mfind_some' m0 l x.t (tts l) 0 h
  rw [Nat.zero_add] at h2
  refine ⟨i, by rw [tksT, List.getElem?_map, h1, i64s_len]; rfl, by rw [mget, h2], ?_, by rw [mclk, h2, tts_snoc, if_pos h], ?_⟩
  · rw [mset, h2, tts_snoc, if_pos h]
    have := mrepl_kvT m0 l x (tts l) 0 i (nd_tts l) h1
    rwa [Nat.zero_add] at this
  · rw [tts_snoc, if_pos h, ← tksT_set (nd_tts l) h1, List.length_append, i64s_len, i64s_len]; rfl
theorem tidy_new (m0 : Nat) (l : List Ln) (x : Ln) (e : TypeId) (h : x.t ∉ tts l) :
    mget .nilsl (kvT m0 l (tts l) 0) (tD x.t) = .nilsl ∧
    mset (kvT m0 l (tts l) 0) (tts l).length (tD x.t) (.gsl (i64s [x.amt]) (m0 + (tksT l e (tts l)).length)) = kvT m0 (l ++ [x]) (tts (l ++ [x])) 0 ∧
    mclk (kvT m0 l (tts l) 0) (tts l).length (tD x.t) = (tts (l ++ [x])).length ∧
    tksT l e (tts l) ++ [((i64s [x.amt]).length, e, 1)] = tksT (l ++ [x]) e (tts (l ++ [x])) := by
  have h2 := mfind_none' m0 l x.t (tts l) 0 h
  have h3 : amtsT (l ++ [x]) x.t = [x.amt] := by rw [amtsT_snoc, if_pos rfl, amtsT_none (fun hm => h ((mem_tts l _).2 hm))]; rfl
  refine ⟨by rw [mget, h2], ?_, by rw [mclk, h2, tts_snoc, if_neg h]; simp, ?_⟩
  · rw [mset, h2, tts_snoc, if_neg h, kvT_app, kvT_other _ _ h, h3, Nat.zero_add, tksT, List.length_map]
  · rw [tts_snoc, if_neg h]
    have : tksT (l ++ [x]) e (tts l ++ [x.t]) = tksT (l ++ [x]) e (tts l) ++ tksT (l ++ [x]) e [x.t] := by simp [tksT]
    rw [this, tksT_other h]
    simp [tksT, h3, i64s]
theorem mem_kvT (m0 : Nat) (l : List Ln) (p : D × D × Nat) : ∀ (ts : List Ti) (n : Nat), p ∈ kvT m0 l ts n ↔ ∃ i t, ts[i]? = some t ∧ p = (tD t, .gsl (i64s (amtsT l t)) (m0 + (n + i)), n + i)
  | [], n => by simp [kvT]
  | s :: r, n => by
    rw [kvT, List.mem_cons, mem_kvT m0 l p r (n + 1)]
    constructor
    · rintro (rfl | ⟨i, t, h1, rfl⟩)
      · exact ⟨0, s, rfl, rfl⟩
      · exact ⟨i + 1, t, by simpa using h1, by rw [show n + (i + 1) = n + 1 + i from by omega]⟩
    · rintro ⟨i, t, h1, rfl⟩
      cases i with
      | zero =>
        simp only [List.getElem?_cons_zero, Option.some.injEq] at h1
        subst h1; exact .inl rfl
      | succ i => exact .inr ⟨i, t, by simpa using h1, by rw [show n + (i + 1) = n + 1 + i from by omega]⟩
theorem kvT_in {m0 : Nat} {l : List Ln} {p : D × D × Nat} {ts : List Ti} (h : p ∈ kvT m0 l ts 0) : ∃ i t, ts[i]? = some t ∧ p = (tD t, .gsl (i64s (amtsT l t)) (m0 + i), i) := by
  obtain ⟨i, t, h1, rfl⟩ := (mem_kvT m0 l p ts 0).1 h
  exact ⟨i, t, h1, by rw [Nat.zero_add]⟩
theorem kvT_eq {m0 : Nat} {l : List Ln} {ts : List Ti} {i : Nat} {t : Ti} (h : ts[i]? = some t) : (tD t, .gsl (i64s (amtsT l t)) (m0 + i), i) ∈ kvT m0 l ts 0 ∧ ∀ q ∈ kvT m0 l ts 0, q.2.2 = i → q = (tD t, .gsl (i64s (amtsT l t)) (m0 + i), i) := by
  refine ⟨(mem_kvT m0 l _ ts 0).2 ⟨i, t, h, by rw [Nat.zero_add]⟩, fun q hq he => ?_⟩
  obtain ⟨j, s, h1, rfl⟩ := kvT_in hq
  simp only at he
  subst he
  rw [h, Option.some.injEq] at h1
  rw [h1]
theorem full_range {vs : List Nat} {n : Nat} (hn : vs.Nodup) (hb : ∀ i ∈ vs, i < n) : vs.length ≤ n := by
  have := List.Nodup.length_le_of_subset hn (l₂ := List.range n) (fun i hi => List.mem_range.2 (hb i hi))
  rwa [List.length_range] at this
theorem c19 : cFun E0.P 19 = some ⟨76, [(2, none), (3, none)], .seq (.rg [⟨some 2, none, .mv (.k .nilsl)⟩, ⟨some 3, none, .mv (.k (.int .i64 0))⟩]) (.seq (.rg [⟨some 13, none, .mkmap (KT.agg [KLf.i .i64, KLf.i .u64, KLf.i .u64])⟩, ⟨some 4, none, .mv (.t 13)⟩]) (.seq (.seq (.rg [⟨some 14, none, .mv (.t 0)⟩, ⟨some 15, none, .len 1 (.t 14)⟩, ⟨some 16, none, .mv (.k (.int .i64 0))⟩]) (.block 0 (.loop (.seq (.rg [⟨some 17, none, .bin .lss .leaf (.t 16) (.t 15)⟩]) (.seq (.cond (.t 17) .skip (.exit 0)) (.seq (.block 1 (.seq (.rg [⟨some 18, none, .ia 4 (.t 14) (.t 16)⟩, ⟨some 19, none, .ld 4 true (.t 18)⟩, ⟨some 6, none, .alloc [.int .i64 0, .int .u64 0, .int .u64 0, .int .i64 0] 67⟩, ⟨none, none, .st 4 (.t 6) (.t 19)⟩]) (.seq (.seq (.rg [⟨some 20, none, .ld 4 true (.t 6)⟩, ⟨some 21, none, .call 23 [.t 20]⟩, ⟨some 22, none, .un .not (.t 21)⟩]) (.cond (.t 22) (.seq (.rg [⟨some 2, none, .mv (.k .nilsl)⟩, ⟨some 3, none, .mv (.k (.int .i64 2))⟩]) .ret) .skip)) (.rd [(⟨some 23, none, .mv (.t 4)⟩, none), (⟨some 24, none, .ld 4 true (.t 6)⟩, none), (⟨some 25, none, .call 32 [.t 24]⟩, none), (⟨some 26, none, .mv (.t 4)⟩, none), (⟨some 27, none, .ld 4 true (.t 6)⟩, none), (⟨some 28, none, .call 32 [.t 27]⟩, none), (⟨some 29, none, .mget (KT.agg [KLf.i .i64, KLf.i .u64, KLf.i .u64]) .nilsl false (.t 26) (.t 28)⟩, none), (⟨some 30, none, .fa 3 (.t 6)⟩, none), (⟨some 31, none, .ld 1 false (.t 30)⟩, none), (⟨some 32, none, .buildS 1 1 [.int .i64 0] [(0, .t 31)] 2⟩, none), (⟨some 33, none, .app 89 2 1 8 [.int .i64 0] (.t 29) (.t 32)⟩, some []), (⟨none, none, .mset (KT.agg [KLf.i .i64, KLf.i .u64, KLf.i .u64]) (.t 23) (.t 25) (.t 33)⟩, some [])])))) (.rg [⟨some 34, none, .bin .add .leaf (.t 16) (.k (.int .i64 1))⟩, ⟨some 16, none, .mv (.t 34)⟩]))))))) (.seq (.rg [⟨some 7, none, .mv (.k .nilsl)⟩]) (.seq (.seq (.rg [⟨some 35, none, .mv (.t 4)⟩, ⟨some 36, none, .rngM (.t 35)⟩]) (.block 2 (.loop (.seq (.rg [⟨some 37, none, .nxt (.t 36)⟩, ⟨some 38, none, .ext 0 (.t 37)⟩]) (.seq (.cond (.t 38) .skip (.exit 2)) (.block 3 (.seq (.rg [⟨some 39, none, .ent (.t 36)⟩, ⟨some 40, none, .ext 0 (.t 39)⟩, ⟨some 41, none, .ext 1 (.t 39)⟩, ⟨some 8, none, .alloc [.int .i64 0, .int .u64 0, .int .u64 0] 91⟩, ⟨none, none, .st 3 (.t 8) (.t 40)⟩, ⟨some 9, none, .mv (.t 41)⟩]) (.seq (.rg [⟨some 43, none, .mv (.t 9)⟩, ⟨some 44, none, .call 33 [.t 43]⟩, ⟨some 42, none, .mv (.t 44)⟩, ⟨some 45, none, .ext 0 (.t 42)⟩, ⟨some 46, none, .ext 1 (.t 42)⟩, ⟨some 10, none, .mv (.t 45)⟩, ⟨some 11, none, .mv (.t 46)⟩]) (.seq (.rg [⟨some 47, none, .fa 0 (.t 8)⟩, ⟨some 48, none, .ld 1 false (.t 47)⟩, ⟨some 49, none, .fa 1 (.t 8)⟩, ⟨some 50, none, .ld 1 false (.t 49)⟩, ⟨some 51, none, .fa 2 (.t 8)⟩, ⟨some 52, none, .ld 1 false (.t 51)⟩, ⟨some 53, none, .mv (.t 10)⟩, ⟨some 54, none, .build [.int .i64 0, .int .u64 0, .int .u64 0, .int .i64 0] [(0, 1, .t 48), (1, 1, .t 50), (2, 1, .t 52), (3, 1, .t 53)]⟩, ⟨some 12, none, .alloc [.int .i64 0, .int .u64 0, .int .u64 0, .int .i64 0] 67⟩, ⟨none, none, .st 4 (.t 12) (.t 54)⟩]) (.block 4 (.seq (.rg [⟨some 60, none, .mv (.t 11)⟩, ⟨some 61, none, .mv (.t 60)⟩, ⟨some 62, some (61, true), .mv (.t 10)⟩, ⟨some 63, some (61, true), .bin .eql .leaf (.t 62) (.k (.int .i64 0))⟩, ⟨some 64, none, .pick (.t 61) (.t 63) (.k (.bool false))⟩, ⟨some 59, none, .mv (.t 64)⟩]) (.cond (.t 59) .skip (.seq (.rg [⟨some 66, none, .mv (.t 11)⟩, ⟨some 67, none, .un .not (.t 66)⟩, ⟨some 68, none, .mv (.t 67)⟩, ⟨some 69, some (68, false), .ld 4 true (.t 12)⟩, ⟨some 70, some (68, false), .call 23 [.t 69]⟩, ⟨some 71, some (68, false), .un .not (.t 70)⟩, ⟨some 72, none, .pick (.t 68) (.k (.bool true)) (.t 71)⟩, ⟨some 65, none, .mv (.t 72)⟩]) (.cond (.t 65) (.seq (.rg [⟨some 2, none, .mv (.k .nilsl)⟩, ⟨some 3, none, .mv (.k (.int .i64 2))⟩]) .ret) (.rg [⟨some 55, none, .mv (.t 7)⟩, ⟨some 56, none, .ld 4 true (.t 12)⟩, ⟨some 57, none, .buildS 1 4 [.int .i64 0, .int .u64 0, .int .u64 0, .int .i64 0] [(0, .t 56)] 67⟩, ⟨some 58, none, .app 34 67 4 32 [.int .i64 0, .int .u64 0, .int .u64 0, .int .i64 0] (.t 55) (.t 57)⟩, ⟨some 7, none, .mv (.t 58)⟩]))))))))))))))) (.seq (.rg [⟨some 73, none, .mv (.t 7)⟩, ⟨some 74, none, .call 34 [.t 73, .k (.fn 35 [])]⟩]) (.seq (.rg [⟨some 75, none, .mv (.t 7)⟩, ⟨some 2, none, .mv (.t 75)⟩, ⟨some 3, none, .mv (.k (.int .i64 0))⟩]) .ret))))))⟩ := by kernel_rfl

theorem ffinVP {E : Env} {n0 m0 : Nat} {S J : List O} {T TK : Tks} {d d' : D} {k sz : Nat} {es : List (List D)} {e : TypeId} {Post : D → List O → Tks → Prop} (hn : S.length = n0) (hm : T.length = m0) (hS : OSc n0 m0 S) (hJ : J[k]? = some (.vec es e sz)) (hf : VFrz (n0 + k) es d d') (hsc : d'.sc n0 m0 = true) (hp : Post d' S T) : FFin E n0 m0 S J T TK d Post := by
  refine ⟨d', _, _, ?_, hp⟩
  have h1 := Shift.vfreeze (E := E) (n0 := n0) (m0 := m0) (fr := [(0, d)]) (fr' := [(0, d')]) (S := S ++ J) (tk := T ++ TK) (at_own hn hJ) (t := 0) (d' := d') hf ⟨by simp [KL.get]; exact Sub.refl _, trivial⟩
  rw [set_own hn] at h1
  refine h1.trans ?_
  exact Shift.drop ⟨by simp [KL.get]; exact Sub.refl _, trivial⟩ (Nat.le_of_eq hn.symm) (Nat.le_of_eq hm.symm) (by rw [hn, hm]; simp [frSc, hsc]) (by rw [hn, hm]; exact hS)
theorem vfrzP {id sz : Nat} {es : List (List D)} {x : D} : VFrz id es (.tup [.vec id es.length sz, x]) (.tup [.sl es, x]) := by
  refine .tup rfl fun j d d' h1 h2 => ?_
  match j with
  | 0 => simp at h1 h2; subst h1; subst h2; exact .vec sz
  | 1 => simp at h1 h2; subst h1; subst h2; exact .refl _
  | j + 2 => simp at h1

theorem scL_i64s (n m : Nat) : ∀ l : List Int, scLL n m (i64s l) = true
  | [] => rfl
  | x :: l => by
    have h := scL_i64s n m l
    unfold i64s at h ⊢
    simp only [List.map_cons, scLL, h, Bool.and_true]; rfl
theorem sc_kvT {n m m0 clk : Nat} {l : List Ln} : ∀ (ts : List Ti) (k : Nat), m0 + (k + ts.length) ≤ m → oSc n m (.map kTi (kvT m0 l ts k) clk) = true
  | [], k, h => rfl
  | s :: r, k, h => by
    rw [List.length_cons] at h
    have ih := sc_kvT (n := n) (m := m) (m0 := m0) (clk := clk) (l := l) r (k + 1) (by omega)
    have h1 : m0 + k < m := by omega
    simp only [oSc] at ih ⊢
    simp only [kvT, List.all_cons, ih, Bool.and_true, tD, D.sc, scL, scL_i64s, h1, decide_true]
structure TyS where
  vs : List Nat
  out : Array CL.Lm
def lineT (l : List Ln) (t : Ti) : Ln := ⟨t.1, t.2.1, t.2.2, sumT l t⟩
def madeT (l : List Ln) (vs : List Nat) : List Ln := (vs.map fun i => lineT l ((tts l)[i]!)).filter fun x => decide (x.amt ≠ 0)
structure TyS.P (l : List Ln) (s : TyS) : Prop where
  nd : s.vs.Nodup
  lt : ∀ i ∈ s.vs, i < (tts l).length
  ok : ∀ i ∈ s.vs, ¬ big (sumT l ((tts l)[i]!))
  out : s.out.toList.map CL.Lm.n = madeT l s.vs
theorem madeT_snoc (l : List Ln) (vs : List Nat) (i : Nat) : madeT l (vs ++ [i]) = madeT l vs ++ if sumT l ((tts l)[i]!) ≠ 0 then [lineT l ((tts l)[i]!)] else [] := by
  rw [madeT, List.map_append, List.filter_append, ← madeT]
  rw [List.map_cons, List.map_nil]
  generalize (tts l)[i]! = t
  by_cases h : sumT l t ≠ 0
  · rw [if_pos h, List.filter_cons, if_pos (decide_eq_true (show (lineT l t).amt ≠ 0 from h))]; rfl
  · rw [if_neg h, List.filter_cons, if_neg (by rw [decide_eq_false (show ¬ (lineT l t).amt ≠ 0 from h)]; simp)]; rfl
theorem TyS.P.more {l : List Ln} {s : TyS} (h : s.P l) {i : Nat} (hi : i < (tts l).length) (hn : i ∉ s.vs) (hb : ¬ big (sumT l ((tts l)[i]!))) {o : Array CL.Lm} (ho : o.toList.map CL.Lm.n = madeT l (s.vs ++ [i])) : TyS.P l ⟨s.vs ++ [i], o⟩ ∧ s.vs.length < (tts l).length := by
  have hnd : (s.vs ++ [i]).Nodup := List.nodup_append.2 ⟨h.nd, by simp, fun a ha b hb hab => hn (by rw [List.mem_singleton.1 hb] at hab; exact hab ▸ ha)⟩
  have hlt : ∀ j ∈ s.vs ++ [i], j < (tts l).length := fun j hj => by
    rcases List.mem_append.1 hj with hj | hj
    · exact h.lt j hj
    · rw [List.mem_singleton.1 hj]; exact hi
  have := full_range hnd hlt
  rw [List.length_append, List.length_singleton] at this
  refine ⟨⟨hnd, hlt, fun j hj => ?_, ho⟩, by omega⟩
  rcases List.mem_append.1 hj with hj | hj
  · exact h.ok j hj
  · rw [List.mem_singleton.1 hj]; exact hb
theorem nd_of_map' {α β : Type} {f : α → β} : ∀ {l : List α}, (∀ a ∈ l, ∀ b ∈ l, f a = f b → a = b) → l.Nodup → (l.map f).Nodup
  | [], _, _ => List.nodup_nil
  | a :: l, hf, hn => by
    rw [List.nodup_cons] at hn
    rw [List.map_cons, List.nodup_cons]
    refine ⟨fun hm => ?_, nd_of_map' (fun x hx y hy => hf x (List.mem_cons_of_mem _ hx) y (List.mem_cons_of_mem _ hy)) hn.2⟩
    obtain ⟨b, hb, hab⟩ := List.mem_map.1 hm
    exact hn.1 (hf b (List.mem_cons_of_mem _ hb) a (List.mem_cons_self ..) hab ▸ hb)
theorem madeT_nd {l : List Ln} {vs : List Nat} (hn : vs.Nodup) (hlt : ∀ i ∈ vs, i < (tts l).length) : ((madeT l vs).map Ln.t).Nodup := by
  have h1 : ((vs.map fun i => lineT l ((tts l)[i]!)).map Ln.t) = vs.map fun i => (tts l)[i]! := by rw [List.map_map]; rfl
  have h2 : (vs.map fun i => (tts l)[i]!).Nodup := nd_of_map' (fun a ha b hb hab => by
    have ha' := hlt a ha
    have hb' := hlt b hb
    simp only [getElem!_pos (tts l) a ha', getElem!_pos (tts l) b hb'] at hab
    exact (List.getElem_inj (nd_tts l)).1 hab) hn
  rw [← h1] at h2
  exact h2.sublist ((List.filter_sublist ..).map _)
theorem tid_of {l : List Ln} {vs : List Nat} {out : List Ln} (hall : ∀ i, i < (tts l).length → i ∈ vs) (hlt : ∀ i ∈ vs, i < (tts l).length) (hm : ∀ x, x ∈ out ↔ x ∈ madeT l vs) (hs : out.Pairwise Ln.lt) : Tid l out := by
  refine ⟨hs, fun x => (hm x).trans ?_⟩
  simp only [madeT, List.mem_filter, List.mem_map, decide_eq_true_eq]
  constructor
  · rintro ⟨⟨i, hi, rfl⟩, h0⟩
    have hi' := hlt i hi
    refine ⟨h0, rfl, ?_⟩
    rw [← List.mem_map (f := Ln.t), ← mem_tts, getElem!_pos (tts l) i hi']
    exact List.getElem_mem hi'
  · rintro ⟨h1, h2, y, hy, hyt⟩
    have : x.t ∈ tts l := (mem_tts l _).2 (hyt ▸ List.mem_map_of_mem hy)
    obtain ⟨i, hi, he⟩ := List.mem_iff_getElem.1 this
    refine ⟨⟨i, hall i hi, ?_⟩, h1⟩
    rw [getElem!_pos (tts l) i hi, he]
    cases x
    simp only [lineT, Ln.t] at *
    rw [h2]
theorem bad_not {l : List Ln} (hm : ∀ x ∈ l, x.may) (hb : ∀ i, i < (tts l).length → ¬ big (sumT l ((tts l)[i]!))) : ¬ BadL l := by
  rintro ⟨x, hx, h | h⟩
  · exact h (hm x hx)
  · obtain ⟨i, hi, he⟩ := List.mem_iff_getElem.1 ((mem_tts l x.t).2 (List.mem_map_of_mem hx))
    have := hb i hi
    rw [getElem!_pos (tts l) i hi, he] at this
    exact this h
set_option maxHeartbeats 4000000 in
theorem Tidy (l : List Ln) (hl : l.length < 1099511627776) (hR : ∀ x ∈ l, x.R) (S : List O) (tk : Tks) :
    ACalls E0 19 [.sl (lns l)] S tk (fun r S' tk' => ((BadL l ∧ r = .tup [.nilsl, .int .i64 2]) ∨ (¬ BadL l ∧ ∃ out, Tid l out ∧ r = .tup [.sl (lns out), .int .i64 0])) ∧ S' = S ∧ tk' = tk) := by
  refine ACalls.fgo c19 rfl fun hS => ?_
  repeat' first | with_reducible refine fzD_ite (fun q => ?_) (fun q => ?_) | ((try conv => whnf); first | refine bs_d (fun q => ?_) (fun q => ?_) | refine bs_n ?_ | refine bs_i (fun q => ?_) (fun q => ?_) | refine eqk rfl ?_ | refine ffin _ rfl rfl hS (Sub.refl _) rfl ⟨?_, rfl, rfl⟩)
  refine floopS (α := Nat) rfl (fun i => i ≤ l.length ∧ ∀ x ∈ l.take i, x.may) (fun i => l.length - i) (fun i => [(16, .d (.int .i64 i)), (14, .d (.sl (lns l))), (15, .d (.int .i64 (lns l).length)), (4, .d (.map S.length))])
    (fun _ => S) (fun i => [.map kTi (kvT tk.length (l.take i) (tts (l.take i)) 0) (tts (l.take i)).length]) (fun i => tksT (l.take i) 2 (tts (l.take i))) (fun _ _ => ⟨rfl, hS⟩) 0 ⟨Nat.zero_le _, by simp⟩ rfl (fstep_sub ⟨Sub.refl _, Sub.refl _, Sub.refl _, Sub.refl _, trivial⟩) ?_
  have hfr : ∀ i m : Nat, frSc (S.length + 1) m (frD S.length [(16, .d (.int .i64 i)), (14, .d (.sl (lns l))), (15, .d (.int .i64 (lns l).length)), (4, .d (.map S.length))]) = true := fun i m => by
    simp [frD, FD.to, frSc, D.sc, scLL_lns]
  rintro i ⟨hi, hm⟩
  refine bs_d (fun (h : (i : Int) < ((lns l).length : Int)) => ?_) (fun (h : ¬ (i : Int) < ((lns l).length : Int)) => ?_)
  · rw [lns_len] at h
    have hi2 : i < l.length := by omega
    have hxi : l[i]? = some l[i] := List.getElem?_eq_getElem hi2
    have hxR := hR l[i] (List.getElem_mem hi2)
    have htk : l.take (i + 1) = l.take i ++ [l[i]] := by rw [List.take_add_one, hxi]; rfl
    have hxm := may l[i]
    have hxl : l[i] ∈ l := List.getElem_mem hi2
    have hle : (amtsT (l.take i) l[i].t).length ≤ i := by have := amtsT_len (l.take i) l[i].t; rw [List.length_take] at this; omega
    generalize l[i] = x at hxi hxR htk hxm hxl hle
    by_cases hy : x.may
    · rw [decide_eq_true hy] at hxm
      have hm' : ∀ y ∈ l.take (i + 1), y.may := by
        intro y hyl
        rw [htk, List.mem_append, List.mem_singleton] at hyl
        rcases hyl with hyl | rfl
        · exact hm y hyl
        · exact hy
      by_cases ht : x.t ∈ tts (l.take i)
      · obtain ⟨k, k1, k2, k3, k4, k5⟩ := tidy_old tk.length (l.take i) x 2 ht
        repeat' first | with_reducible refine fzD_ite (fun q => ?_) (fun q => ?_) | ((try conv => whnf); first | refine bs_d (fun q => ?_) (fun q => ?_) | refine bs_n ?_ | refine bs_i (fun q => ?_) (fun q => ?_) | refine ckz (hxm) ?_ | refine cq (hxm) ?_ | refine ckz (titleOf x) ?_ | refine cq (titleOf x) ?_ | refine pK_i (iaD_lns (x := x) (by omega) (by simpa using hxi)) ?_ | refine pK_i ((mgD_own (j := 0) rfl rfl rfl).trans (congrArg some k2)) ?_ | refine gk_app (t := k) (src := i64s [x.amt]) rfl rfl rfl rfl k1 (by simp [i64s]) (by simp [maxLen, i64s_len]; omega) ?_ | refine gk_mset_own (j := 0) rfl rfl (by rfl) (by rfl) (by rfl) ?_ | refine eqk rfl ?_ | refine ffin _ rfl rfl hS (Sub.refl _) rfl ⟨?_, rfl, rfl⟩)
        conv => whnf
        refine fnextS (α := Nat) (i + 1) ⟨hi2, hm'⟩ (by omega) rfl ?_
        show FStep _ _ _ _ _ _ _ [.map kTi (kvT tk.length (l.take (i + 1)) (tts (l.take (i + 1))) 0) (tts (l.take (i + 1))).length] (tksT (l.take (i + 1)) 2 (tts (l.take (i + 1))))
        rw [htk]
        exact fstep_drop (Jx := [_]) (TKx := []) (by rw [← k3, ← k4]; rfl) (by rw [← k5, List.append_nil]) ⟨Sub.int (by first | rfl | omega | (refine Int.sub_eq_zero.mp ?_; simp (disch := ((try unfold I64); omega)) only [wi64_id, td]; omega)), Sub.refl _, Sub.refl _, Sub.refl _, trivial⟩ (hfr _ _) (by simp only [oScL, Bool.and_true]; exact sc_kvT _ _ (by simp [tksT]))
      · obtain ⟨k2, k3, k4, k5⟩ := tidy_new tk.length (l.take i) x 2 ht
        repeat' first | with_reducible refine fzD_ite (fun q => ?_) (fun q => ?_) | ((try conv => whnf); first | refine bs_d (fun q => ?_) (fun q => ?_) | refine bs_n ?_ | refine bs_i (fun q => ?_) (fun q => ?_) | refine ckz (hxm) ?_ | refine cq (hxm) ?_ | refine ckz (titleOf x) ?_ | refine cq (titleOf x) ?_ | refine pK_i (iaD_lns (x := x) (by omega) (by simpa using hxi)) ?_ | refine pK_i ((mgD_own (j := 0) rfl rfl rfl).trans (congrArg some k2)) ?_ | refine gk_app0 (src := i64s [x.amt]) rfl rfl (.inl rfl) rfl (by simp [i64s]) (by simp [maxLen, i64s_len]) ?_ | refine gk_mset_own (j := 0) rfl rfl (by rfl) (by rfl) (by rfl) ?_ | refine eqk rfl ?_ | refine ffin _ rfl rfl hS (Sub.refl _) rfl ⟨?_, rfl, rfl⟩)
        conv => whnf
        refine fnextS (α := Nat) (i + 1) ⟨hi2, hm'⟩ (by omega) rfl ?_
        show FStep _ _ _ _ _ _ _ [.map kTi (kvT tk.length (l.take (i + 1)) (tts (l.take (i + 1))) 0) (tts (l.take (i + 1))).length] (tksT (l.take (i + 1)) 2 (tts (l.take (i + 1))))
        rw [htk]
        exact fstep_drop (Jx := [_]) (TKx := []) (by rw [← k3, ← k4]; rfl) (by rw [← k5, List.append_nil]) ⟨Sub.int (by first | rfl | omega | (refine Int.sub_eq_zero.mp ?_; simp (disch := ((try unfold I64); omega)) only [wi64_id, td]; omega)), Sub.refl _, Sub.refl _, Sub.refl _, trivial⟩ (hfr _ _) (by simp only [oScL, Bool.and_true]; exact sc_kvT _ _ (by simp [tksT]))
    · rw [decide_eq_false hy] at hxm
      repeat' first | with_reducible refine fzD_ite (fun q => ?_) (fun q => ?_) | ((try conv => whnf); first | refine bs_d (fun q => ?_) (fun q => ?_) | refine bs_n ?_ | refine bs_i (fun q => ?_) (fun q => ?_) | refine ckz (hxm) ?_ | refine cq (hxm) ?_ | refine pK_i (iaD_lns (x := x) (by omega) (by simpa using hxi)) ?_ | refine eqk rfl ?_ | refine ffin _ rfl rfl hS (Sub.refl _) rfl ⟨?_, rfl, rfl⟩)
      exact .inl ⟨⟨x, hxl, .inl hy⟩, rfl⟩
  · rw [lns_len] at h
    obtain rfl : i = l.length := by omega
    rw [List.take_length] at hm ⊢
    repeat' first | with_reducible refine fzD_ite (fun q => ?_) (fun q => ?_) | ((try conv => whnf); first | refine bs_d (fun q => ?_) (fun q => ?_) | refine bs_n ?_ | refine bs_i (fun q => ?_) (fun q => ?_) | refine gk_rng_own (j := 0) rfl rfl (by rfl) (by rfl) ?_ | refine eqk rfl ?_ | refine ffin _ rfl rfl hS (Sub.refl _) rfl ⟨?_, rfl, rfl⟩)
    obtain ⟨ts, hts⟩ : ∃ ts, ts = tts l := ⟨_, rfl⟩
    rw [← hts]
    obtain ⟨kv, hkv⟩ : ∃ kv, kv = kvT tk.length l ts 0 := ⟨_, rfl⟩
    rw [← hkv]
    have hkin : ∀ p ∈ kv, ∃ i t, ts[i]? = some t ∧ p = (tD t, .gsl (i64s (amtsT l t)) (tk.length + i), i) := fun p hp => kvT_in (hkv ▸ hp)
    have hkv0 : kv = [] ∨ ∃ p ∈ kv, p.2.2 < ts.length := by
      cases hc : ts with
      | nil => left; rw [hkv, hc]; rfl
      | cons t r => right; refine ⟨_, hkv ▸ (kvT_eq (i := 0) (t := t) (by rw [hc]; rfl)).1, by simp⟩
    refine floopS (α := TyS) rfl (fun s => s.P l) (fun s => ts.length - s.vs.length) (fun s => [(36, .d (.po (S.length + 1) 0)), (7, .d (.vec (S.length + 2) s.out.size 4))])
      (fun _ => S) (fun s => [.map kTi kv ts.length, .iter (S.length + 0) ts.length s.vs ts.length, CL.VI s.out]) (fun _ => tksT l 2 ts) (fun _ _ => ⟨rfl, hS⟩) ⟨[], #[]⟩ ⟨List.nodup_nil, by simp, by simp, rfl⟩ rfl (fstep_vec 67 4 (t := 7) (.inl rfl) ⟨Sub.refl _, Sub.refl _, trivial⟩) ?_
    have hfr2 : ∀ (n m : Nat), frSc (S.length + 3) m (frD S.length [(36, .d (.po (S.length + 1) 0)), (7, .d (.vec (S.length + 2) n 4))]) = true := fun n m => by
      simp [frD, FD.to, frSc, D.sc]
    have hoc2 : ∀ (vs : List Nat) (o : Array CL.Lm), oScL (S.length + 3) (tk.length + (tksT l 2 ts).length) [.map kTi kv ts.length, .iter (S.length + 0) ts.length vs ts.length, CL.VI o] = true := fun vs o => by
      have h1 := sc_kvT (n := S.length + 3) (m := tk.length + (tksT l 2 ts).length) (m0 := tk.length) (clk := ts.length) (l := l) ts 0 (by simp [tksT])
      rw [← hkv] at h1
      have h2 : oSc (S.length + 3) (tk.length + (tksT l 2 ts).length) (CL.VI o) = true := scLL_rows CL.eE _ _ _
      show (oSc _ _ (.map kTi kv ts.length) && (decide (S.length + 0 < S.length + 3) && (oSc _ _ (CL.VI o) && true))) = true
      rw [h1, h2]
      simp
    rintro s hs
    repeat' first | with_reducible refine fzD_ite (fun q => ?_) (fun q => ?_) | ((try conv => whnf); first | refine bs_d (fun q => ?_) (fun q => ?_) | refine bs_n ?_ | refine bs_i (fun q => ?_) (fun q => ?_) | (refine gk_nxt (it := 1) rfl rfl (by rfl) (by rfl) (at_own rfl (by rfl)) (.inr hkv0) ?_ ?_; (rintro p hp hns; obtain ⟨k, t, hkt, rfl⟩ := hkin p hp; skip); rotate_left; intro hall; rotate_left) | refine eqk rfl ?_ | refine ffin _ rfl rfl hS (Sub.refl _) rfl ⟨?_, rfl, rfl⟩)
    · have hk : k < ts.length := (List.getElem?_eq_some_iff.1 hkt).1
      have hkt' : ts[k]! = t := by rw [getElem!_pos ts k hk]; exact (List.getElem?_eq_some_iff.1 hkt).2
      have hkd : ∀ q ∈ kv, q.2.2 = k → q = (tD t, .gsl (i64s (amtsT l t)) (tk.length + k), k) := fun q hq hqk => (kvT_eq hkt).2 q (hkv ▸ hq) hqk
      have hns' : k ∉ s.vs := hns
      obtain ⟨x, hx, hxt⟩ : ∃ x ∈ l, x.t = t := by
        have : t ∈ tts l := by rw [← hts]; exact List.mem_of_getElem? hkt
        simpa using (mem_tts l t).1 this
      have hxm := hm x hx
      have hacc : 1 ≤ t.1 ∧ t.1 ≤ 9999 := by rw [← hxt]; exact ⟨hxm.1, hxm.2.1⟩
      have hsum := Sum (amtsT l t) (by have := amtsT_len l t; omega) (amtsT_R hR t)
      have hsn := madeT_snoc l s.vs k
      rw [← hts, hkt'] at hsn
      have hmore := fun hb o ho => hs.more (i := k) (by rw [← hts]; exact hk) hns' hb (o := o) ho
      rw [← hts, hkt'] at hmore
      have hlen : s.out.size ≤ l.length := by
        have h1 := congrArg List.length hs.out
        have h2 : (madeT l s.vs).length ≤ s.vs.length := by rw [madeT]; refine Nat.le_trans (List.length_filter_le ..) ?_; simp
        have h3 := full_range hs.nd hs.lt
        have h4 := tts_len l
        rw [List.length_map, Array.length_toList] at h1
        omega
      by_cases hfit : -9223372036854775808 ≤ (amtsT l t).sum ∧ (amtsT l t).sum < 9223372036854775808
      · rw [sumS, if_pos hfit] at hsum
        by_cases h0 : (amtsT l t).sum = 0
        · skip
          repeat' first | with_reducible refine fzD_ite (fun q => ?_) (fun q => ?_) | ((try conv => whnf); first | refine bs_t (decide_eq_true h0) ?_ | refine bs_d (fun q => ?_) (fun q => ?_) | refine bs_n ?_ | refine bs_i (fun q => ?_) (fun q => ?_) | refine ckS (by first | rfl | simp) rfl hsum (.cons (Sub.rd rfl) .nil) ?_ | refine pK_i (entD_own (k := 1) rfl (by rfl) (at_own rfl (by rfl)) hp hkd) ?_ | refine eqk rfl ?_ | refine ffin _ rfl rfl hS (Sub.refl _) rfl ⟨?_, rfl, rfl⟩)
          conv => whnf
          have hm1 := hmore (by unfold big sumT; omega) s.out (by rw [hsn, hs.out, if_neg (by unfold sumT; simpa using h0), List.append_nil])
          refine fnextS (α := TyS) ⟨s.vs ++ [k], s.out⟩ hm1.1 (by simp only [List.length_append, List.length_singleton]; omega) rfl (fstep_drop (J' := [.map kTi kv ts.length, .iter (S.length + 0) ts.length (s.vs ++ [k]) ts.length, CL.VI s.out]) (Jx := [_, _]) (TK' := tksT l 2 ts) (TKx := []) rfl (List.append_nil _).symm ⟨Sub.refl _, Sub.refl _, trivial⟩ (hfr2 _ _) (hoc2 _ _))
        · have hmy := may (lineT l t)
          by_cases hb : (lineT l t).may
          · rw [decide_eq_true hb] at hmy
            repeat' first | with_reducible refine fzD_ite (fun q => ?_) (fun q => ?_) | ((try conv => whnf); first | refine bs_f (decide_eq_false h0) ?_ | refine bs_d (fun q => ?_) (fun q => ?_) | refine bs_n ?_ | refine bs_i (fun q => ?_) (fun q => ?_) | refine ckS (by first | rfl | simp) rfl hsum (.cons (Sub.rd rfl) .nil) ?_ | refine pK_i (entD_own (k := 1) rfl (by rfl) (at_own rfl (by rfl)) hp hkd) ?_ | refine ckz (hmy) ?_ | refine cq (hmy) ?_ | refine gk_appv (k := 2) (es := rowsV CL.eD s.out.toList) (src := [(lineT l t).cs]) rfl rfl (by rfl) (by rfl) (by rw [rowsV_len, Array.length_toList]) (by rfl) (by simp [Ln.cs]) (by rw [rowsV_len, Array.length_toList]; simp [maxLen]; omega) ?_ | refine eqk rfl ?_ | refine ffin _ rfl rfl hS (Sub.refl _) rfl ⟨?_, rfl, rfl⟩)
            conv => whnf
            have hrow : rowsV CL.eD s.out.toList ++ [(lineT l t).cs] = rowsV CL.eD (s.out.push ⟨t.1, t.2.1, t.2.2, sumT l t, by omega⟩).toList := by
              simp [rowsV, CL.eD, D.cs, lineT, Ln.cs]
            have hm1 := hmore (by have := hb.2.2.2; unfold big; simp only [lineT] at this; omega) (s.out.push ⟨t.1, t.2.1, t.2.2, sumT l t, by omega⟩) (by rw [hsn, if_pos (by unfold sumT; simpa using h0), Array.toList_push, List.map_append, hs.out]; rfl)
            rw [hrow]
            refine fnextS (α := TyS) ⟨s.vs ++ [k], _⟩ hm1.1 (by simp only [List.length_append, List.length_singleton]; omega) rfl (fstep_drop (J' := [.map kTi kv ts.length, .iter (S.length + 0) ts.length (s.vs ++ [k]) ts.length, CL.VI _]) (Jx := [_, _]) (TK' := tksT l 2 ts) (TKx := []) rfl (List.append_nil _).symm ⟨Sub.refl _, Sub.of (congrArg (fun n => D.vec (S.length + 2) n 4) (by rw [rowsV_len, Array.length_toList])), trivial⟩ (hfr2 _ _) (hoc2 _ _))
          · rw [decide_eq_false hb] at hmy
            repeat' first | with_reducible refine fzD_ite (fun q => ?_) (fun q => ?_) | ((try conv => whnf); first | refine bs_f (decide_eq_false h0) ?_ | refine bs_d (fun q => ?_) (fun q => ?_) | refine bs_n ?_ | refine bs_i (fun q => ?_) (fun q => ?_) | refine ckS (by first | rfl | simp) rfl hsum (.cons (Sub.rd rfl) .nil) ?_ | refine pK_i (entD_own (k := 1) rfl (by rfl) (at_own rfl (by rfl)) hp hkd) ?_ | refine ckz (hmy) ?_ | refine cq (hmy) ?_ | refine eqk rfl ?_ | refine ffin _ rfl rfl hS (Sub.refl _) rfl ⟨?_, rfl, rfl⟩)
            refine .inl ⟨⟨x, hx, .inr ?_⟩, rfl⟩
            rw [hxt]
            unfold big
            simp only [Ln.may, lineT, sumT] at hb ⊢
            omega
      · rw [sumS, if_neg hfit] at hsum
        repeat' first | with_reducible refine fzD_ite (fun q => ?_) (fun q => ?_) | ((try conv => whnf); first | refine bs_d (fun q => ?_) (fun q => ?_) | refine bs_n ?_ | refine bs_i (fun q => ?_) (fun q => ?_) | refine ckS (by first | rfl | simp) rfl hsum (.cons (Sub.rd rfl) .nil) ?_ | refine pK_i (entD_own (k := 1) rfl (by rfl) (at_own rfl (by rfl)) hp hkd) ?_ | refine eqk rfl ?_ | refine ffin _ rfl rfl hS (Sub.refl _) rfl ⟨?_, rfl, rfl⟩)
        exact .inl ⟨⟨x, hx, .inr (by unfold big; rw [hxt]; unfold sumT; omega)⟩, rfl⟩
    · have hall2 : ∀ i, i < ts.length → i ∈ s.vs := fun i hi => by
        have := kvT_eq (m0 := tk.length) (l := l) (ts := ts) (i := i) (t := ts[i]) (List.getElem?_eq_getElem hi)
        exact hall _ (hkv ▸ this.1) hi
      have hlt2 := hs.lt
      rw [hts] at hall2
      have hlen : s.out.size ≤ l.length := by
        have h1 := congrArg List.length hs.out
        have h2 : (madeT l s.vs).length ≤ s.vs.length := by rw [madeT]; refine Nat.le_trans (List.length_filter_le ..) ?_; simp
        have h3 := full_range hs.nd hs.lt
        have h4 := tts_len l
        rw [List.length_map, Array.length_toList] at h1
        omega
      have hnd := madeT_nd hs.nd hs.lt
      rw [← hs.out, List.map_map] at hnd
      have hsrt := CL.sortV (S.length + 2) s.out.size (aheadQ _ _) swo_ahead s.out rfl (by omega)
      repeat' first | with_reducible refine fzD_ite (fun q => ?_) (fun q => ?_) | ((try conv => whnf); first | refine bs_d (fun q => ?_) (fun q => ?_) | refine bs_n ?_ | refine bs_i (fun q => ?_) (fun q => ?_) | (refine ckVEJ (k := 2) rfl rfl (by rfl) (fun S0 tk h => hsrt S0 tk h trivial) (SubL.refl _) ?_; rintro r d' ⟨rfl, hq⟩; skip) | refine eqk rfl ?_ | refine ffin _ rfl rfl hS (Sub.refl _) rfl ⟨?_, rfl, rfl⟩)
      have e : s.out.size = (rowsV CL.eD d'.toList).length := by rw [rowsV_len, Array.length_toList, hq.1.1]
      have e2 : rowsV CL.eD d'.toList = lns (d'.toList.map CL.Lm.n) := by simp only [rowsV, lns, List.map_map]; rfl
      obtain ⟨hp1, hp2⟩ := sorts_lt hq hnd
      conv => whnf
      show FFin _ _ _ _ _ _ _ (.tup [.vec (S.length + 2) s.out.size 4, .int .i64 0]) _
      rw [e]
      refine ffinVP (k := 2) rfl rfl hS (by rfl) vfrzP ?_ ⟨.inr ⟨?_, d'.toList.map CL.Lm.n, ?_, by rw [e2]⟩, rfl, rfl⟩
      · rw [e2]; simp [D.sc, scL, scLL_lns]
      · exact bad_not hm fun i hi => hs.ok i (hall2 i hi)
      · refine tid_of hall2 hs.lt (fun x => ?_) hp2
        rw [← hs.out]
        exact (hp1.map _).mem_iff
theorem tidy_is {l out : List Ln} (hl : l.length < 1099511627776) (hR : ∀ x ∈ l, x.R) (hn : (l.map Ln.t).Nodup) (hm : ∀ x ∈ l, x.may) (hs : out.Pairwise Ln.lt) (ho : ∀ x, x ∈ out ↔ x ∈ l) : Pure 19 [.sl (lns l)] (.tup [.sl (lns out), .int .i64 0]) := by
  intro S tk
  have hT : Tid l out := Tid.of_st hn (fun x hx => by have := hm x hx; unfold Ln.may at this; exact this.2.2.1) hs ho
  have hb : ¬ BadL l := by
    rintro ⟨x, hx, h | h⟩
    · exact h (hm x hx)
    · have := hm x hx
      rw [sumT_own hn hx] at h
      unfold Ln.may at this
      unfold big at h
      omega
  refine (Tidy l hl hR S tk).mono ?_
  rintro r S' tk' ⟨h1, h2, h3⟩
  rcases h1 with ⟨hbad, _⟩ | ⟨_, o, ho, rfl⟩
  · exact absurd hbad hb
  · rw [ho.uniq hT]; exact ⟨rfl, h2, h3⟩
theorem tidy2 {a b : Ln} (ha : a.may) (hb : b.may) (hlt : a.acc < b.acc) (hRa : a.R) (hRb : b.R) :
    Pure 19 [.sl (lns [a, b])] (.tup [.sl (lns [a, b]), .int .i64 0]) ∧ Pure 19 [.sl (lns [b, a])] (.tup [.sl (lns [a, b]), .int .i64 0]) := by
  have ht : a.t ≠ b.t := fun h => by have : a.acc = b.acc := congrArg (·.1) h; omega
  have hs : ([a, b] : List Ln).Pairwise Ln.lt := by
    refine List.pairwise_cons.2 ⟨fun y hy => ?_, List.pairwise_cons.2 ⟨fun y hy => (by cases hy), List.Pairwise.nil⟩⟩
    rw [List.mem_singleton.1 hy]
    exact .inl hlt
  refine ⟨tidy_is (by simp) (by simp [hRa, hRb]) (by simp [ht]) (by simp [ha, hb]) hs (by simp), tidy_is (by simp) (by simp [hRa, hRb]) (by simp [Ne.symm ht]) (by simp [ha, hb]) hs (fun x => by simp [or_comm])⟩
end Go.KL.YtjjdfplonbgpbaaDoor
