/- dunning: policies and stages -/
import Derived.Test.YtjjdfplonbgpbaaDoorDa
import Derived.Test.YtjjdfplonbgpbaaDoorKL33
import Derived.Test.YtjjdfplonbgpbaaDoorKL37
import Derived.Test.YtjjdfplonbgpbaaDoorDb
import Derived.Test.YtjjdfplonbgpbaaDoorKy
set_option linter.unusedVariables false
set_option linter.unusedSimpArgs false
set_option linter.unusedSectionVars false
set_option maxRecDepth 4000
namespace Go.KL.YtjjdfplonbgpbaaDoor
open Go Go.KL Go.RowKit Go.Proofs
theorem c15 : cFun E0.P 15 = some ⟨53, [(2, none)], .seq (.rg [⟨some 1, none, .box (.t 0) 24⟩, ⟨some 2, none, .mv (.k (.int .i64 0))⟩]) (.seq (.seq (.rg [⟨some 6, none, .fa 0 (.t 1)⟩, ⟨some 7, none, .ld 1 false (.t 6)⟩, ⟨some 8, none, .len 1 (.t 7)⟩, ⟨some 9, none, .bin .lss .leaf (.t 8) (.k (.int .i64 1))⟩, ⟨some 10, none, .mv (.t 9)⟩, ⟨some 11, some (10, false), .fa 0 (.t 1)⟩, ⟨some 12, some (10, false), .ld 1 false (.t 11)⟩, ⟨some 13, some (10, false), .len 1 (.t 12)⟩, ⟨some 14, some (10, false), .bin .gtr .leaf (.t 13) (.k (.int .i64 8))⟩, ⟨some 15, none, .pick (.t 10) (.k (.bool true)) (.t 14)⟩, ⟨some 16, none, .mv (.t 15)⟩, ⟨some 17, some (16, false), .fa 0 (.t 1)⟩, ⟨some 18, some (16, false), .ld 1 false (.t 17)⟩, ⟨some 19, some (16, false), .ia 1 (.t 18) (.k (.int .i64 0))⟩, ⟨some 20, some (16, false), .ld 1 false (.t 19)⟩, ⟨some 21, some (16, false), .bin .lss .leaf (.t 20) (.k (.int .i64 1))⟩, ⟨some 22, none, .pick (.t 16) (.k (.bool true)) (.t 21)⟩]) (.cond (.t 22) (.seq (.rg [⟨some 2, none, .mv (.k (.int .i64 2))⟩]) .ret) .skip)) (.seq (.rg [⟨some 3, none, .mv (.k (.int .i64 0))⟩]) (.seq (.seq (.rg [⟨some 23, none, .fa 0 (.t 1)⟩, ⟨some 24, none, .ld 1 false (.t 23)⟩, ⟨some 25, none, .len 1 (.t 24)⟩, ⟨some 26, none, .mv (.k (.int .i64 0))⟩]) (.block 0 (.loop (.seq (.rg [⟨some 27, none, .bin .lss .leaf (.t 26) (.t 25)⟩]) (.seq (.cond (.t 27) .skip (.exit 0)) (.seq (.block 1 (.seq (.rg [⟨some 28, none, .ia 1 (.t 24) (.t 26)⟩, ⟨some 29, none, .ld 1 false (.t 28)⟩, ⟨some 5, none, .mv (.t 29)⟩]) (.seq (.seq (.rg [⟨some 30, none, .mv (.t 5)⟩, ⟨some 31, none, .mv (.t 3)⟩, ⟨some 32, none, .bin .leq .leaf (.t 30) (.t 31)⟩]) (.cond (.t 32) (.seq (.rg [⟨some 2, none, .mv (.k (.int .i64 2))⟩]) .ret) .skip)) (.rg [⟨some 33, none, .mv (.t 5)⟩, ⟨some 3, none, .mv (.t 33)⟩])))) (.rg [⟨some 34, none, .bin .add .leaf (.t 26) (.k (.int .i64 1))⟩, ⟨some 26, none, .mv (.t 34)⟩]))))))) (.seq (.seq (.rg [⟨some 35, none, .mv (.t 3)⟩, ⟨some 36, none, .bin .gtr .leaf (.t 35) (.k (.int .i64 3650))⟩, ⟨some 37, none, .mv (.t 36)⟩, ⟨some 38, some (37, false), .fa 1 (.t 1)⟩, ⟨some 39, some (37, false), .ld 1 false (.t 38)⟩, ⟨some 40, some (37, false), .bin .neq .leaf (.t 39) (.k (.int .i64 0))⟩, ⟨some 41, some (37, false), .mv (.t 40)⟩, ⟨some 42, some (41, true), .fa 1 (.t 1)⟩, ⟨some 43, some (41, true), .ld 1 false (.t 42)⟩, ⟨some 44, some (41, true), .mv (.t 3)⟩, ⟨some 45, some (41, true), .bin .leq .leaf (.t 43) (.t 44)⟩, ⟨some 46, some (41, true), .mv (.t 45)⟩, ⟨some 47, some (46, false), .fa 1 (.t 1)⟩, ⟨some 48, some (46, false), .ld 1 false (.t 47)⟩, ⟨some 49, some (46, false), .bin .gtr .leaf (.t 48) (.k (.int .i64 3650))⟩, ⟨some 50, some (41, true), .pick (.t 46) (.k (.bool true)) (.t 49)⟩, ⟨some 51, some (37, false), .pick (.t 41) (.t 50) (.k (.bool false))⟩, ⟨some 52, none, .pick (.t 37) (.k (.bool true)) (.t 51)⟩]) (.cond (.t 52) (.seq (.rg [⟨some 2, none, .mv (.k (.int .i64 2))⟩]) .ret) .skip)) (.seq (.rg [⟨some 2, none, .mv (.k (.int .i64 0))⟩]) .ret)))))⟩ := by kernel_rfl
theorem c16 : cFun E0.P 16 = some ⟨74, [(2, none)], .seq (.rg [⟨some 1, none, .box (.t 0) 24⟩, ⟨some 2, none, .mv (.k (.int .i64 0))⟩]) (.seq (.seq (.rg [⟨some 4, none, .fa 0 (.t 1)⟩, ⟨some 5, none, .ld 1 false (.t 4)⟩, ⟨some 6, none, .len 1 (.t 5)⟩, ⟨some 7, none, .bin .lss .leaf (.t 6) (.k (.int .i64 1))⟩, ⟨some 8, none, .mv (.t 7)⟩, ⟨some 9, some (8, false), .fa 0 (.t 1)⟩, ⟨some 10, some (8, false), .ld 1 false (.t 9)⟩, ⟨some 11, some (8, false), .len 1 (.t 10)⟩, ⟨some 12, some (8, false), .bin .gtr .leaf (.t 11) (.k (.int .i64 8))⟩, ⟨some 13, none, .pick (.t 8) (.k (.bool true)) (.t 12)⟩]) (.cond (.t 13) (.seq (.rg [⟨some 2, none, .mv (.k (.int .i64 2))⟩]) .ret) .skip)) (.seq (.seq (.rg [⟨some 3, none, .mv (.k (.int .i64 0))⟩]) (.block 0 (.loop (.seq (.seq (.rg [⟨some 14, none, .mv (.t 3)⟩, ⟨some 15, none, .fa 0 (.t 1)⟩, ⟨some 16, none, .ld 1 false (.t 15)⟩, ⟨some 17, none, .len 1 (.t 16)⟩, ⟨some 18, none, .bin .lss .leaf (.t 14) (.t 17)⟩]) (.cond (.t 18) .skip (.exit 0))) (.seq (.block 1 (.seq (.rd [(⟨some 21, none, .fa 0 (.t 1)⟩, none), (⟨some 22, none, .ld 1 false (.t 21)⟩, none), (⟨some 23, none, .mv (.t 3)⟩, none), (⟨some 24, none, .ia 1 (.t 22) (.t 23)⟩, none), (⟨some 25, none, .ld 1 false (.t 24)⟩, none), (⟨some 26, none, .bin .lss .leaf (.t 25) (.k (.int .i64 1))⟩, none), (⟨some 27, none, .mv (.t 26)⟩, none), (⟨some 28, some (27, false), .fa 0 (.t 1)⟩, none), (⟨some 29, some (27, false), .ld 1 false (.t 28)⟩, none), (⟨some 30, some (27, false), .mv (.t 3)⟩, none), (⟨some 31, some (27, false), .ia 1 (.t 29) (.t 30)⟩, none), (⟨some 32, some (27, false), .ld 1 false (.t 31)⟩, none), (⟨some 33, some (27, false), .bin .gtr .leaf (.t 32) (.k (.int .i64 3650))⟩, none), (⟨some 34, none, .pick (.t 27) (.k (.bool true)) (.t 33)⟩, none), (⟨some 35, none, .mv (.t 34)⟩, none), (⟨some 36, some (35, false), .mv (.t 3)⟩, none), (⟨some 37, some (35, false), .bin .gtr .leaf (.t 36) (.k (.int .i64 0))⟩, none), (⟨some 38, some (35, false), .mv (.t 37)⟩, none), (⟨some 39, some (38, true), .fa 0 (.t 1)⟩, none), (⟨some 40, some (38, true), .ld 1 false (.t 39)⟩, none), (⟨some 41, some (38, true), .mv (.t 3)⟩, none), (⟨some 42, some (38, true), .ia 1 (.t 40) (.t 41)⟩, none), (⟨some 43, some (38, true), .ld 1 false (.t 42)⟩, none), (⟨some 44, some (38, true), .fa 0 (.t 1)⟩, none), (⟨some 45, some (38, true), .ld 1 false (.t 44)⟩, none), (⟨some 46, some (38, true), .mv (.t 3)⟩, none), (⟨some 47, some (38, true), .bin .sub .leaf (.t 46) (.k (.int .i64 1))⟩, none), (⟨some 48, some (38, true), .ia 1 (.t 45) (.t 47)⟩, none), (⟨some 49, some (38, true), .ld 1 false (.t 48)⟩, none), (⟨some 50, some (38, true), .bin .leq .leaf (.t 43) (.t 49)⟩, none), (⟨some 51, some (35, false), .pick (.t 38) (.t 50) (.k (.bool false))⟩, none), (⟨some 52, none, .pick (.t 35) (.k (.bool true)) (.t 51)⟩, none)]) (.cond (.t 52) (.seq (.rg [⟨some 2, none, .mv (.k (.int .i64 2))⟩]) .ret) .skip))) (.rg [⟨some 19, none, .mv (.t 3)⟩, ⟨some 20, none, .bin .add .leaf (.t 19) (.k (.int .i64 1))⟩, ⟨some 3, none, .mv (.t 20)⟩])))))) (.seq (.seq (.rd [(⟨some 53, none, .fa 1 (.t 1)⟩, none), (⟨some 54, none, .ld 1 false (.t 53)⟩, none), (⟨some 55, none, .bin .neq .leaf (.t 54) (.k (.int .i64 0))⟩, none), (⟨some 56, none, .mv (.t 55)⟩, none), (⟨some 57, some (56, true), .fa 1 (.t 1)⟩, none), (⟨some 58, some (56, true), .ld 1 false (.t 57)⟩, none), (⟨some 59, some (56, true), .fa 0 (.t 1)⟩, none), (⟨some 60, some (56, true), .ld 1 false (.t 59)⟩, none), (⟨some 61, some (56, true), .fa 0 (.t 1)⟩, none), (⟨some 62, some (56, true), .ld 1 false (.t 61)⟩, none), (⟨some 63, some (56, true), .len 1 (.t 62)⟩, none), (⟨some 64, some (56, true), .bin .sub .leaf (.t 63) (.k (.int .i64 1))⟩, none), (⟨some 65, some (56, true), .ia 1 (.t 60) (.t 64)⟩, none), (⟨some 66, some (56, true), .ld 1 false (.t 65)⟩, none), (⟨some 67, some (56, true), .bin .leq .leaf (.t 58) (.t 66)⟩, none), (⟨some 68, some (56, true), .mv (.t 67)⟩, none), (⟨some 69, some (68, false), .fa 1 (.t 1)⟩, none), (⟨some 70, some (68, false), .ld 1 false (.t 69)⟩, none), (⟨some 71, some (68, false), .bin .gtr .leaf (.t 70) (.k (.int .i64 3650))⟩, none), (⟨some 72, some (56, true), .pick (.t 68) (.k (.bool true)) (.t 71)⟩, none), (⟨some 73, none, .pick (.t 56) (.t 72) (.k (.bool false))⟩, none)]) (.cond (.t 73) (.seq (.rg [⟨some 2, none, .mv (.k (.int .i64 2))⟩]) .ret) .skip)) (.seq (.rg [⟨some 2, none, .mv (.k (.int .i64 0))⟩]) .ret))))⟩ := by kernel_rfl
theorem c5 : cFun E0.P 5 = some ⟨39, [(4, none), (5, none), (6, none)], .seq (.rg [⟨some 2, none, .box (.t 0) 24⟩, ⟨some 4, none, .mv (.k (.int .i64 0))⟩, ⟨some 5, none, .mv (.k (.bool false))⟩, ⟨some 6, none, .mv (.k (.int .i64 0))⟩]) (.seq (.seq (.rg [⟨some 9, none, .ld 2 true (.t 2)⟩, ⟨some 10, none, .call 15 [.t 9]⟩, ⟨some 11, none, .bin .neq .leaf (.t 10) (.k (.int .i64 0))⟩, ⟨some 12, none, .mv (.t 11)⟩, ⟨some 13, some (12, false), .mv (.t 1)⟩, ⟨some 14, some (12, false), .bin .lss .leaf (.t 13) (.k (.int .i64 0))⟩, ⟨some 15, none, .pick (.t 12) (.k (.bool true)) (.t 14)⟩]) (.cond (.t 15) (.seq (.rg [⟨some 4, none, .mv (.k (.int .i64 0))⟩, ⟨some 5, none, .mv (.k (.bool false))⟩, ⟨some 6, none, .mv (.k (.int .i64 2))⟩]) .ret) .skip)) (.seq (.seq (.rg [⟨some 16, none, .fa 0 (.t 2)⟩, ⟨some 17, none, .ld 1 false (.t 16)⟩, ⟨some 18, none, .len 1 (.t 17)⟩, ⟨some 19, none, .mv (.k (.int .i64 0))⟩]) (.block 0 (.loop (.seq (.rg [⟨some 20, none, .bin .lss .leaf (.t 19) (.t 18)⟩]) (.seq (.cond (.t 20) .skip (.exit 0)) (.seq (.block 1 (.seq (.rg [⟨some 21, none, .ia 1 (.t 17) (.t 19)⟩, ⟨some 22, none, .ld 1 false (.t 21)⟩, ⟨some 8, none, .mv (.t 22)⟩]) (.seq (.rg [⟨some 23, none, .mv (.t 8)⟩, ⟨some 24, none, .mv (.t 1)⟩, ⟨some 25, none, .bin .leq .leaf (.t 23) (.t 24)⟩]) (.cond (.t 25) (.rg [⟨some 26, none, .mv (.t 4)⟩, ⟨some 27, none, .bin .add .leaf (.t 26) (.k (.int .i64 1))⟩, ⟨some 4, none, .mv (.t 27)⟩]) .skip)))) (.rg [⟨some 28, none, .bin .add .leaf (.t 19) (.k (.int .i64 1))⟩, ⟨some 19, none, .mv (.t 28)⟩]))))))) (.seq (.rd [(⟨some 29, none, .mv (.t 4)⟩, none), (⟨some 30, none, .fa 1 (.t 2)⟩, none), (⟨some 31, none, .ld 1 false (.t 30)⟩, none), (⟨some 32, none, .bin .neq .leaf (.t 31) (.k (.int .i64 0))⟩, none), (⟨some 33, none, .mv (.t 32)⟩, none), (⟨some 34, some (33, true), .fa 1 (.t 2)⟩, none), (⟨some 35, some (33, true), .ld 1 false (.t 34)⟩, none), (⟨some 36, some (33, true), .mv (.t 1)⟩, none), (⟨some 37, some (33, true), .bin .leq .leaf (.t 35) (.t 36)⟩, none), (⟨some 38, none, .pick (.t 33) (.t 37) (.k (.bool false))⟩, none), (⟨some 4, none, .mv (.t 29)⟩, none), (⟨some 5, none, .mv (.t 38)⟩, none), (⟨some 6, none, .mv (.k (.int .i64 0))⟩, none)]) .ret)))⟩ := by kernel_rfl
theorem c6 : cFun E0.P 6 = some ⟨41, [(4, none), (5, none), (6, none)], .seq (.rg [⟨some 2, none, .box (.t 0) 24⟩, ⟨some 4, none, .mv (.k (.int .i64 0))⟩, ⟨some 5, none, .mv (.k (.bool false))⟩, ⟨some 6, none, .mv (.k (.int .i64 0))⟩]) (.seq (.seq (.rg [⟨some 8, none, .ld 2 true (.t 2)⟩, ⟨some 9, none, .call 16 [.t 8]⟩, ⟨some 10, none, .bin .neq .leaf (.t 9) (.k (.int .i64 0))⟩, ⟨some 11, none, .mv (.t 10)⟩, ⟨some 12, some (11, false), .mv (.t 1)⟩, ⟨some 13, some (11, false), .bin .lss .leaf (.t 12) (.k (.int .i64 0))⟩, ⟨some 14, none, .pick (.t 11) (.k (.bool true)) (.t 13)⟩]) (.cond (.t 14) (.seq (.rg [⟨some 4, none, .mv (.k (.int .i64 0))⟩, ⟨some 5, none, .mv (.k (.bool false))⟩, ⟨some 6, none, .mv (.k (.int .i64 2))⟩]) .ret) .skip)) (.seq (.rg [⟨some 7, none, .mv (.k (.int .i64 0))⟩]) (.seq (.block 0 (.loop (.seq (.seq (.rg [⟨some 15, none, .mv (.t 7)⟩, ⟨some 16, none, .fa 0 (.t 2)⟩, ⟨some 17, none, .ld 1 false (.t 16)⟩, ⟨some 18, none, .len 1 (.t 17)⟩, ⟨some 19, none, .bin .lss .leaf (.t 15) (.t 18)⟩, ⟨some 20, none, .mv (.t 19)⟩, ⟨some 21, some (20, true), .fa 0 (.t 2)⟩, ⟨some 22, some (20, true), .ld 1 false (.t 21)⟩, ⟨some 23, some (20, true), .mv (.t 7)⟩, ⟨some 24, some (20, true), .ia 1 (.t 22) (.t 23)⟩, ⟨some 25, some (20, true), .ld 1 false (.t 24)⟩, ⟨some 26, some (20, true), .mv (.t 1)⟩, ⟨some 27, some (20, true), .bin .leq .leaf (.t 25) (.t 26)⟩, ⟨some 28, none, .pick (.t 20) (.t 27) (.k (.bool false))⟩]) (.cond (.t 28) .skip (.exit 0))) (.block 1 (.rg [⟨some 29, none, .mv (.t 7)⟩, ⟨some 30, none, .bin .add .leaf (.t 29) (.k (.int .i64 1))⟩, ⟨some 7, none, .mv (.t 30)⟩]))))) (.seq (.rd [(⟨some 31, none, .mv (.t 7)⟩, none), (⟨some 32, none, .fa 1 (.t 2)⟩, none), (⟨some 33, none, .ld 1 false (.t 32)⟩, none), (⟨some 34, none, .bin .neq .leaf (.t 33) (.k (.int .i64 0))⟩, none), (⟨some 35, none, .mv (.t 34)⟩, none), (⟨some 36, some (35, true), .fa 1 (.t 2)⟩, none), (⟨some 37, some (35, true), .ld 1 false (.t 36)⟩, none), (⟨some 38, some (35, true), .mv (.t 1)⟩, none), (⟨some 39, some (35, true), .bin .leq .leaf (.t 37) (.t 38)⟩, none), (⟨some 40, none, .pick (.t 35) (.t 39) (.k (.bool false))⟩, none), (⟨some 4, none, .mv (.t 31)⟩, none), (⟨some 5, none, .mv (.t 40)⟩, none), (⟨some 6, none, .mv (.k (.int .i64 0))⟩, none)]) .ret))))⟩ := by kernel_rfl
theorem c17 : cFun E0.P 17 = some ⟨9, [(2, none)], .seq (.rg [⟨some 2, none, .mv (.k (.bool false))⟩]) (.seq (.rg [⟨some 3, none, .mv (.t 0)⟩, ⟨some 4, none, .bin .geq .leaf (.t 3) (.k (.int .i64 1))⟩, ⟨some 5, none, .mv (.t 4)⟩, ⟨some 6, some (5, true), .mv (.t 0)⟩, ⟨some 7, some (5, true), .bin .leq .leaf (.t 6) (.k (.int .i64 3652059))⟩, ⟨some 8, none, .pick (.t 5) (.t 7) (.k (.bool false))⟩, ⟨some 2, none, .mv (.t 8)⟩]) .ret)⟩ := by kernel_rfl

def inc : Int → List Int → Prop
  | _, [] => True
  | a, n :: r => a < n ∧ inc n r
instance decInc : ∀ (a : Int) (l : List Int), Decidable (inc a l)
  | _, [] => isTrue trivial
  | a, n :: r => have := decInc n r; inferInstanceAs (Decidable (a < n ∧ inc n r))
def lst : Int → List Int → Int
  | a, [] => a
  | _, n :: r => lst n r
theorem inc_snoc : ∀ (a : Int) (l : List Int) (n : Int), inc a (l ++ [n]) ↔ inc a l ∧ lst a l < n
  | a, [], n => by simp [inc, lst]
  | a, m :: r, n => by simp only [List.cons_append, inc, lst, inc_snoc m r n, and_assoc]
theorem lst_snoc : ∀ (a : Int) (l : List Int) (n : Int), lst a (l ++ [n]) = n
  | a, [], n => rfl
  | a, m :: r, n => by simp only [List.cons_append, lst, lst_snoc m r n]
theorem inc_take : ∀ (i : Nat) (a : Int) (l : List Int), inc a l → inc a (l.take i)
  | 0, a, l, _ => by simp [inc]
  | i + 1, a, [], _ => by simp [inc]
  | i + 1, a, n :: r, h => by simp only [List.take_succ_cons, inc]; exact ⟨h.1, inc_take i n r h.2⟩
theorem take_snoc {l : List Int} {i : Nat} (h : i < l.length) : l.take (i + 1) = l.take i ++ [l[i]!] := by
  rw [List.take_add_one, List.getElem?_eq_getElem h, getElem!_pos l i h]; rfl
theorem inc_drop : ∀ (i : Nat) (a : Int) (l : List Int), inc a l → inc (lst a (l.take i)) (l.drop i)
  | 0, a, l, h => by simpa [lst] using h
  | i + 1, a, [], h => by simp [inc]
  | i + 1, a, n :: r, h => by simp only [List.take_succ_cons, List.drop_succ_cons, lst]; exact inc_drop i n r h.2
def cnt' (late : Int) : List Int → Int
  | [] => 0
  | n :: r => (if n ≤ late then 1 else 0) + cnt' late r
theorem cnt_app (late : Int) : ∀ (a b : List Int), cnt' late (a ++ b) = cnt' late a + cnt' late b
  | [], b => by simp [cnt']
  | n :: r, b => by simp only [List.cons_append, cnt', cnt_app late r b]; omega
theorem cnt_zero (late : Int) : ∀ (l : List Int) (a : Int), inc a l → late ≤ a → cnt' late l = 0
  | [], _, _, _ => rfl
  | n :: r, a, h, hl => by simp only [cnt', cnt_zero late r n h.2 (by have := h.1; omega)]; rw [if_neg (by have := h.1; omega)]; rfl
theorem cnt_bd (late : Int) : ∀ (l : List Int), 0 ≤ cnt' late l ∧ cnt' late l ≤ l.length
  | [] => by simp [cnt']
  | n :: r => by have := cnt_bd late r; simp only [cnt', List.length_cons]; split <;> omega
theorem cnt_stop {late a : Int} {l : List Int} {i : Nat} (h : inc a l) (hi : i < l.length) (hc : cnt' late (l.take i) = i) (hl : late < l[i]!) : cnt' late l = i := by
  have h1 := inc_drop (i + 1) a l h
  rw [take_snoc hi, lst_snoc] at h1
  have h2 := cnt_app late (l.take (i + 1)) (l.drop (i + 1))
  rw [List.take_append_drop, take_snoc hi, cnt_app, cnt_zero late _ _ h1 (by omega), hc] at h2
  rw [h2, cnt', if_neg (by omega)]; simp [cnt']
theorem iaD_i64 {l : List Int} {i : Nat} {n : Int} (h : n = i) (hi : i < l.length) : iaD 1 (.sl (i64s l)) (.int .i64 n) = some (.pe [.int .i64 l[i]!] 0) := by
  subst h
  exact iaD_i64s (by omega) (by rw [Int.toNat_natCast, List.getElem?_eq_getElem hi, getElem!_pos l i hi])

structure Po where
  days : List Int
  lose : Int
def Po.d (p : Po) : D := .agg [.sl (i64s p.days), .int .i64 p.lose]
def Po.ok (p : Po) : Prop := 1 ≤ p.days.length ∧ p.days.length ≤ 8 ∧ inc 0 p.days ∧ lst 0 p.days ≤ 3650 ∧ (p.lose = 0 ∨ lst 0 p.days < p.lose ∧ p.lose ≤ 3650)
instance (p : Po) : Decidable p.ok := inferInstanceAs (Decidable (1 ≤ p.days.length ∧ p.days.length ≤ 8 ∧ inc 0 p.days ∧ lst 0 p.days ≤ 3650 ∧ (p.lose = 0 ∨ lst 0 p.days < p.lose ∧ p.lose ≤ 3650)))
structure Po.R (p : Po) : Prop where
  len : p.days.length < 4611686018427387904
  days : ∀ n ∈ p.days, I64 n
  lose : I64 p.lose
theorem at_mem {l : List Int} {i : Nat} (h : i < l.length) : l[i]! ∈ l := by rw [getElem!_pos l i h]; exact List.getElem_mem h
theorem inc_at {a : Int} {l : List Int} {i : Nat} (h : inc a l) (hi : i < l.length) : lst a (l.take i) < l[i]! := by
  have := inc_take (i + 1) a l h
  rw [take_snoc hi] at this
  exact ((inc_snoc ..).1 this).2
theorem lst_at {a : Int} {l : List Int} {i : Nat} (h : 0 < i) (hi : i ≤ l.length) : lst a (l.take i) = l[i - 1]! := by
  obtain ⟨j, rfl⟩ : ∃ j, i = j + 1 := ⟨i - 1, by omega⟩
  rw [take_snoc (by omega), lst_snoc]; simp

structure SN where
  i : Nat
theorem dunCheck (p : Po) (hp : p.R) : Pure 15 [p.d] (.int .i64 (if p.ok then 0 else 2)) := by
  intro S tk
  have hlen := i64s_len p.days
  have h1 := hp.len
  refine ACalls.fgo c15 rfl fun hS => ?_
  have no1 : ∀ i, i < p.days.length → p.days[i]! ≤ lst 0 (p.days.take i) → ¬ p.ok := fun i hi hn ho => by have := inc_at ho.2.2.1 hi; omega
  repeat' first | with_reducible refine fzD_ite (fun q => ?_) (fun q => ?_) | ((try conv => whnf); first | refine bs_d (fun q => ?_) (fun q => ?_) <;> (try simp (disch := ((try unfold I64); omega)) only [wi64_id, td] at q) | refine bs_n ?_ | refine bs_i (fun q => ?_) (fun q => ?_) | refine pK_i (iaD_i64 (i := 0) (by first | rfl | omega | (refine Int.sub_eq_zero.mp ?_; simp (disch := ((try unfold I64); omega)) only [wi64_id, td]; omega)) (by rw [hlen] at *; omega)) ?_ | refine eqk rfl ?_ | refine ffin _ rfl rfl hS (Sub.refl _) rfl ⟨?_, rfl, rfl⟩)
  · rw [if_neg (by unfold Po.ok; rw [hlen] at *; omega)]; rfl
  · rw [if_neg (by unfold Po.ok; rw [hlen] at *; omega)]; rfl
  · rw [if_neg (no1 0 (by rw [hlen] at *; omega) (by simp only [List.take_zero, lst]; omega))]; rfl
  rename_i q2 q1
  refine floop (α := SN) rfl rfl hS (fun s => s.i ≤ p.days.length ∧ inc 0 (p.days.take s.i)) (fun s => p.days.length - s.i) (fun s => [(26, .d (.int .i64 s.i)), (25, .d (.int .i64 p.days.length)), (24, .d (.sl (i64s p.days))), (3, .d (.int .i64 (lst 0 (p.days.take s.i)))), (1, .lp 0 0)])
    (fun _ => [.arr [.sl (i64s p.days), .int .i64 p.lose]]) (fun _ => []) ⟨0⟩ ⟨Nat.zero_le _, by simp [inc]⟩ (fstep_sub ⟨Sub.refl _, Sub.int (by rw [hlen]), Sub.refl _, Sub.refl _, Sub.refl _, trivial⟩) ?_
  rintro s ⟨h2, h3⟩
  repeat' first | with_reducible refine fzD_ite (fun q => ?_) (fun q => ?_) | ((try conv => whnf); first | refine bs_d (fun q => ?_) (fun q => ?_) <;> (try simp (disch := ((try unfold I64); omega)) only [wi64_id, td] at q) | refine bs_n ?_ | refine bs_i (fun q => ?_) (fun q => ?_) | refine pK_i (iaD_i64 (i := s.i) (by first | rfl | omega | (refine Int.sub_eq_zero.mp ?_; simp (disch := ((try unfold I64); omega)) only [wi64_id, td]; omega)) (by omega)) ?_ | refine eqk rfl ?_ | refine ffin _ rfl rfl hS (Sub.refl _) rfl ⟨?_, rfl, rfl⟩)
  · rename_i q3
    rw [if_neg (no1 s.i (by omega) (by assumption))]; rfl
  · refine fnext (α := SN) ⟨s.i + 1⟩ ⟨by simp only; omega, by simp only; rw [take_snoc (by omega)]; exact (inc_snoc ..).2 ⟨h3, by omega⟩⟩ (by simp only; omega) (fstep_sub ⟨Sub.int (by first | rfl | omega | (refine Int.sub_eq_zero.mp ?_; simp (disch := ((try unfold I64); omega)) only [wi64_id, td]; omega)), Sub.refl _, Sub.refl _, Sub.int ?_, Sub.refl _, trivial⟩)
    simp only; rw [take_snoc (by omega), lst_snoc]
  all_goals (have e1 : p.days.take s.i = p.days := List.take_of_length_le (by omega))
  all_goals simp only [e1] at *
  all_goals (rw [hlen] at q1 q2)
  all_goals first
    | (rw [if_neg (by unfold Po.ok; omega)]; rfl)
    | (rw [if_pos (by unfold Po.ok; refine ⟨by omega, by omega, h3, by omega, by omega⟩)]; rfl)

theorem dunCheck' (p : Po) (hp : p.R) : Pure 16 [p.d] (.int .i64 (if p.ok then 0 else 2)) := by
  intro S tk
  have hlen := i64s_len p.days
  have h1 := hp.len
  have no1 : ∀ i, i < p.days.length → p.days[i]! ≤ lst 0 (p.days.take i) → ¬ p.ok := fun i hi hn ho => by have := inc_at ho.2.2.1 hi; omega
  have lt0 : ∀ (l : List Int) (i : Nat) (a : Int), inc a l → i < l.length → a < l[i]! := fun l => by
    induction l with
    | nil => intro i a _ h; simp at h
    | cons n r ih =>
      intro i a h hi
      cases i with
      | zero => exact h.1
      | succ i => have := ih i n h.2 (by simpa using hi); have := h.1; rw [List.getElem!_cons_succ]; omega
  have gt0 : ∀ (l : List Int) (i : Nat) (a : Int), inc a l → i < l.length → l[i]! ≤ lst a l := fun l => by
    induction l with
    | nil => intro i a _ h; simp at h
    | cons n r ih =>
      intro i a h hi
      cases i with
      | zero =>
        cases r with
        | nil => simp [lst]
        | cons m r => have := ih 0 n h.2 (by simp); have h5 := h.2.1; rw [List.getElem!_cons_zero] at this ⊢; simp only [lst] at *; omega
      | succ i => have := ih i n h.2 (by simpa using hi); rw [List.getElem!_cons_succ]; exact this
  refine ACalls.fgo c16 rfl fun hS => ?_
  repeat' first | with_reducible refine fzD_ite (fun q => ?_) (fun q => ?_) | ((try conv => whnf); first | refine bs_d (fun q => ?_) (fun q => ?_) | refine bs_n ?_ | refine bs_i (fun q => ?_) (fun q => ?_) | refine eqk rfl ?_ | refine ffin _ rfl rfl hS (Sub.refl _) rfl ⟨?_, rfl, rfl⟩)
  · rw [if_neg (by unfold Po.ok; rw [hlen] at *; omega)]; rfl
  · rw [if_neg (by unfold Po.ok; rw [hlen] at *; omega)]; rfl
  rename_i q2
  have q1 := q
  rw [hlen] at q1 q2
  refine floop (α := SN) rfl rfl hS (fun s => s.i ≤ p.days.length ∧ inc 0 (p.days.take s.i) ∧ lst 0 (p.days.take s.i) ≤ 3650) (fun s => p.days.length - s.i) (fun s => [(3, .d (.int .i64 s.i)), (1, .lp 0 0)])
    (fun _ => [.arr [.sl (i64s p.days), .int .i64 p.lose]]) (fun _ => []) ⟨0⟩ ⟨Nat.zero_le _, by simp [inc], by simp [lst]⟩ (fstep_sub ⟨Sub.refl _, Sub.refl _, trivial⟩) ?_
  rintro s ⟨h2, h3, h4⟩
  repeat' first | with_reducible refine fzD_ite (fun q => ?_) (fun q => ?_) | ((try conv => whnf); first | refine bs_d (fun q => ?_) (fun q => ?_) <;> (try simp (disch := ((try unfold I64); omega)) only [wi64_id, td] at q) | refine bs_n ?_ | refine bs_i (fun q => ?_) (fun q => ?_) | refine pK_i (iaD_i64 (i := s.i) (by first | rfl | omega | (refine Int.sub_eq_zero.mp ?_; simp (disch := ((try unfold I64); omega)) only [wi64_id, td]; omega)) (by rw [hlen] at *; omega)) ?_ | refine pK_i (iaD_i64 (i := s.i - 1) (by first | rfl | omega | (refine Int.sub_eq_zero.mp ?_; simp (disch := ((try unfold I64); omega)) only [wi64_id, td]; omega)) (by rw [hlen] at *; omega)) ?_ | refine pK_i (iaD_i64 (i := p.days.length - 1) (by rw [hlen]; simp (disch := ((try unfold I64); omega)) only [wi64_id, td]; omega) (by rw [hlen] at *; omega)) ?_ | refine eqk rfl ?_ | refine ffin _ rfl rfl hS (Sub.refl _) rfl ⟨?_, rfl, rfl⟩)
  · rw [if_neg fun ho => by have := lt0 _ s.i 0 ho.2.2.1 (by rw [hlen] at *; omega); omega]; rfl
  · rw [if_neg fun ho => by have := gt0 _ s.i 0 ho.2.2.1 (by rw [hlen] at *; omega); have := ho.2.2.2.1; omega]; rfl
  · rw [if_neg (no1 s.i (by rw [hlen] at *; omega) (by rw [lst_at (by omega) (by omega)]; assumption))]; rfl
  · have hi : s.i < p.days.length := by rw [hlen] at *; omega
    refine fnext (α := SN) ⟨s.i + 1⟩ ⟨by simp only; omega, by simp only; rw [take_snoc hi]; exact (inc_snoc ..).2 ⟨h3, by rw [lst_at (by omega) (by omega)]; omega⟩, by simp only; rw [take_snoc hi, lst_snoc]; omega⟩ (by simp only; omega) (fstep_sub ⟨Sub.int (by first | rfl | omega | (refine Int.sub_eq_zero.mp ?_; simp (disch := ((try unfold I64); omega)) only [wi64_id, td]; omega)), Sub.refl _, trivial⟩)
  · have hi : s.i < p.days.length := by rw [hlen] at *; omega
    have e0 : s.i = 0 := by omega
    refine fnext (α := SN) ⟨s.i + 1⟩ ⟨by simp only; omega, by simp only; rw [take_snoc hi]; exact (inc_snoc ..).2 ⟨h3, by have e3 : lst 0 (p.days.take s.i) = 0 := (by rw [e0]; rfl); rw [e3]; omega⟩, by simp only; rw [take_snoc hi, lst_snoc]; omega⟩ (by simp only; omega) (fstep_sub ⟨Sub.int (by first | rfl | omega | (refine Int.sub_eq_zero.mp ?_; simp (disch := ((try unfold I64); omega)) only [wi64_id, td]; omega)), Sub.refl _, trivial⟩)
  all_goals (have e2 := lst_at (a := 0) (l := p.days) (i := s.i) (by rw [hlen] at *; omega) h2)
  all_goals (have e1 : p.days.take s.i = p.days := List.take_of_length_le (by rw [hlen] at *; omega))
  all_goals simp only [e1] at *
  all_goals first
    | (rw [if_neg (by unfold Po.ok; omega)]; rfl)
    | (rw [if_pos (by unfold Po.ok; refine ⟨by omega, by omega, h3, by omega, by omega⟩)]; rfl)

def stD (p : Po) (late : Int) : D := if p.ok ∧ 0 ≤ late then .tup [.int .i64 (cnt' late p.days), .bool (decide (p.lose ≠ 0 ∧ p.lose ≤ late)), .int .i64 0] else .tup [.int .i64 0, .bool false, .int .i64 2]
theorem dunStage (p : Po) (hp : p.R) (late : Int) : Pure 5 [p.d, .int .i64 late] (stD p late) := by
  intro S tk
  have hlen := i64s_len p.days
  have h1 := hp.len
  have hc := dunCheck p hp
  unfold stD
  by_cases hok : p.ok
  · rw [if_pos hok] at hc
    refine ACalls.fgo c5 rfl fun hS => ?_
    repeat' first | with_reducible refine fzD_ite (fun q => ?_) (fun q => ?_) | ((try conv => whnf); first | refine bs_d (fun q => ?_) (fun q => ?_) | refine bs_n ?_ | refine bs_i (fun q => ?_) (fun q => ?_) | refine ckz (hc) ?_ | refine cq (hc) ?_ | refine eqk rfl ?_ | refine ffin _ rfl rfl hS (Sub.refl _) rfl ⟨?_, rfl, rfl⟩)
    · rw [if_neg (by omega)]; rfl
    refine floop (α := SN) rfl rfl hS (fun s => s.i ≤ p.days.length) (fun s => p.days.length - s.i) (fun s => [(19, .d (.int .i64 s.i)), (18, .d (.int .i64 p.days.length)), (17, .d (.sl (i64s p.days))), (1, .d (.int .i64 late)), (4, .d (.int .i64 (cnt' late (p.days.take s.i)))), (2, .lp 0 0)])
      (fun _ => [.arr [.sl (i64s p.days), .int .i64 p.lose]]) (fun _ => []) ⟨0⟩ (Nat.zero_le _) (fstep_sub ⟨Sub.refl _, Sub.int (by rw [hlen]), Sub.refl _, Sub.refl _, Sub.refl _, Sub.refl _, trivial⟩) ?_
    rintro s h2
    have hb := cnt_bd late (p.days.take s.i)
    have hb2 := List.length_take_le s.i p.days
    repeat' first | with_reducible refine fzD_ite (fun q => ?_) (fun q => ?_) | ((try conv => whnf); first | refine bs_d (fun q => ?_) (fun q => ?_) <;> (try simp (disch := ((try unfold I64); omega)) only [wi64_id, td] at q) | refine bs_n ?_ | refine bs_i (fun q => ?_) (fun q => ?_) | refine pK_i (iaD_i64 (i := s.i) (by first | rfl | omega | (refine Int.sub_eq_zero.mp ?_; simp (disch := ((try unfold I64); omega)) only [wi64_id, td]; omega)) (by omega)) ?_ | refine eqk rfl ?_ | refine ffin _ rfl rfl hS (Sub.refl _) rfl ⟨?_, rfl, rfl⟩)
    · refine fnext (α := SN) ⟨s.i + 1⟩ (by simp only; omega) (by simp only; omega) (fstep_sub ⟨Sub.int (by first | rfl | omega | (refine Int.sub_eq_zero.mp ?_; simp (disch := ((try unfold I64); omega)) only [wi64_id, td]; omega)), Sub.refl _, Sub.refl _, Sub.refl _, Sub.int ?_, Sub.refl _, trivial⟩)
      simp only; rw [take_snoc (by omega), cnt_app, cnt', if_pos (by assumption), wi64_id (by unfold I64; omega)]; simp [cnt']
    · refine fnext (α := SN) ⟨s.i + 1⟩ (by simp only; omega) (by simp only; omega) (fstep_sub ⟨Sub.int (by first | rfl | omega | (refine Int.sub_eq_zero.mp ?_; simp (disch := ((try unfold I64); omega)) only [wi64_id, td]; omega)), Sub.refl _, Sub.refl _, Sub.refl _, Sub.int ?_, Sub.refl _, trivial⟩)
      simp only; rw [take_snoc (by omega), cnt_app, cnt', if_neg (by assumption)]; simp [cnt']
    all_goals (have e1 : p.days.take s.i = p.days := List.take_of_length_le (by omega))
    all_goals simp only [e1] at *
    all_goals (rw [if_pos ⟨hok, by omega⟩])
    all_goals first
      | (rw [decide_eq_true (by omega)]; rfl)
      | (rw [decide_eq_false (by omega)]; rfl)
  · rw [if_neg hok] at hc
    rw [if_neg (fun h => hok h.1)]
    refine ACalls.fgo c5 rfl fun hS => ?_
    repeat' first | with_reducible refine fzD_ite (fun q => ?_) (fun q => ?_) | ((try conv => whnf); first | refine bs_d (fun q => ?_) (fun q => ?_) | refine bs_n ?_ | refine bs_i (fun q => ?_) (fun q => ?_) | refine ckz (hc) ?_ | refine cq (hc) ?_ | refine eqk rfl ?_ | refine ffin _ rfl rfl hS (Sub.refl _) rfl ⟨?_, rfl, rfl⟩)
    rfl
theorem dunStage' (p : Po) (hp : p.R) (late : Int) : Pure 6 [p.d, .int .i64 late] (stD p late) := by
  intro S tk
  have hlen := i64s_len p.days
  have h1 := hp.len
  have hc := dunCheck' p hp
  unfold stD
  by_cases hok : p.ok
  · rw [if_pos hok] at hc
    refine ACalls.fgo c6 rfl fun hS => ?_
    repeat' first | with_reducible refine fzD_ite (fun q => ?_) (fun q => ?_) | ((try conv => whnf); first | refine bs_d (fun q => ?_) (fun q => ?_) | refine bs_n ?_ | refine bs_i (fun q => ?_) (fun q => ?_) | refine ckz (hc) ?_ | refine cq (hc) ?_ | refine eqk rfl ?_ | refine ffin _ rfl rfl hS (Sub.refl _) rfl ⟨?_, rfl, rfl⟩)
    · rw [if_neg (by omega)]; rfl
    refine floop (α := SN) rfl rfl hS (fun s => s.i ≤ p.days.length ∧ cnt' late (p.days.take s.i) = s.i) (fun s => p.days.length - s.i) (fun s => [(7, .d (.int .i64 s.i)), (1, .d (.int .i64 late)), (2, .lp 0 0)])
      (fun _ => [.arr [.sl (i64s p.days), .int .i64 p.lose]]) (fun _ => []) ⟨0⟩ ⟨Nat.zero_le _, by simp [cnt']⟩ (fstep_sub ⟨Sub.refl _, Sub.refl _, Sub.refl _, trivial⟩) ?_
    rintro s ⟨h2, h3⟩
    have key : ¬ (s.i < p.days.length ∧ p.days[s.i]! ≤ late) → cnt' late p.days = s.i := fun hn => by
      by_cases hi : s.i < p.days.length
      · exact cnt_stop hok.2.2.1 hi h3 (by omega)
      · rw [List.take_of_length_le (by omega)] at h3; exact h3
    repeat' first | with_reducible refine fzD_ite (fun q => ?_) (fun q => ?_) | ((try conv => whnf); first | refine bs_d (fun q => ?_) (fun q => ?_) <;> (try simp (disch := ((try unfold I64); omega)) only [wi64_id, td] at q) | refine bs_n ?_ | refine bs_i (fun q => ?_) (fun q => ?_) | refine pK_i (iaD_i64 (i := s.i) (by first | rfl | omega | (refine Int.sub_eq_zero.mp ?_; simp (disch := ((try unfold I64); omega)) only [wi64_id, td]; omega)) (by rw [hlen] at *; omega)) ?_ | refine eqk rfl ?_ | refine ffin _ rfl rfl hS (Sub.refl _) rfl ⟨?_, rfl, rfl⟩)
    · refine fnext (α := SN) ⟨s.i + 1⟩ ⟨by rw [hlen] at *; simp only; omega, ?_⟩ (by rw [hlen] at *; simp only; omega) (fstep_sub ⟨Sub.int (by first | rfl | omega | (refine Int.sub_eq_zero.mp ?_; simp (disch := ((try unfold I64); omega)) only [wi64_id, td]; omega)), Sub.refl _, Sub.refl _, trivial⟩)
      simp only; rw [take_snoc (by rw [hlen] at *; omega), cnt_app, cnt', if_pos (by assumption), h3]; simp [cnt']
    all_goals (rw [if_pos ⟨hok, by omega⟩, key (by rw [hlen] at *; omega)])
    all_goals first
      | (rw [decide_eq_true (by omega)]; rfl)
      | (rw [decide_eq_false (by omega)]; rfl)
  · rw [if_neg hok] at hc
    rw [if_neg (fun h => hok h.1)]
    refine ACalls.fgo c6 rfl fun hS => ?_
    repeat' first | with_reducible refine fzD_ite (fun q => ?_) (fun q => ?_) | ((try conv => whnf); first | refine bs_d (fun q => ?_) (fun q => ?_) | refine bs_n ?_ | refine bs_i (fun q => ?_) (fun q => ?_) | refine ckz (hc) ?_ | refine cq (hc) ?_ | refine eqk rfl ?_ | refine ffin _ rfl rfl hS (Sub.refl _) rfl ⟨?_, rfl, rfl⟩)
    rfl
theorem dunDay (n : Int) : Pure 17 [.int .i64 n] (.bool (decide (1 ≤ n ∧ n ≤ 3652059))) := by
  intro S tk
  refine ACalls.fgo c17 rfl fun hS => ?_
  repeat' first | with_reducible refine fzD_ite (fun q => ?_) (fun q => ?_) | ((try conv => whnf); first | refine bs_d (fun q => ?_) (fun q => ?_) | refine bs_n ?_ | refine bs_i (fun q => ?_) (fun q => ?_) | refine eqk rfl ?_ | refine ffin _ rfl rfl hS (Sub.refl _) rfl ⟨?_, rfl, rfl⟩)
  all_goals simp only [tupD, D.bool.injEq]
  all_goals symm
  all_goals first
    | exact decide_eq_true (by omega)
    | exact decide_eq_false (by omega)
theorem c14 : cFun E0.P 14 = some ⟨87, [(4, none)], .seq (.rg [⟨some 2, none, .box (.t 0) 50⟩, ⟨some 3, none, .box (.t 1) 50⟩, ⟨some 4, none, .mv (.k (.bool false))⟩]) (.seq (.seq (.rg [⟨some 8, none, .fa 0 (.t 2)⟩, ⟨some 9, none, .ld 1 false (.t 8)⟩, ⟨some 10, none, .len 1 (.t 9)⟩, ⟨some 11, none, .fa 0 (.t 3)⟩, ⟨some 12, none, .ld 1 false (.t 11)⟩, ⟨some 13, none, .len 1 (.t 12)⟩, ⟨some 14, none, .bin .neq .leaf (.t 10) (.t 13)⟩, ⟨some 15, none, .mv (.t 14)⟩, ⟨some 16, some (15, false), .fa 1 (.t 2)⟩, ⟨some 17, some (15, false), .ld 1 false (.t 16)⟩, ⟨some 18, some (15, false), .len 1 (.t 17)⟩, ⟨some 19, some (15, false), .fa 1 (.t 3)⟩, ⟨some 20, some (15, false), .ld 1 false (.t 19)⟩, ⟨some 21, some (15, false), .len 1 (.t 20)⟩, ⟨some 22, some (15, false), .bin .neq .leaf (.t 18) (.t 21)⟩, ⟨some 23, none, .pick (.t 15) (.k (.bool true)) (.t 22)⟩, ⟨some 24, none, .mv (.t 23)⟩, ⟨some 25, some (24, false), .fa 2 (.t 2)⟩, ⟨some 26, some (24, false), .ld 1 false (.t 25)⟩, ⟨some 27, some (24, false), .len 1 (.t 26)⟩, ⟨some 28, some (24, false), .fa 2 (.t 3)⟩, ⟨some 29, some (24, false), .ld 1 false (.t 28)⟩, ⟨some 30, some (24, false), .len 1 (.t 29)⟩, ⟨some 31, some (24, false), .bin .neq .leaf (.t 27) (.t 30)⟩, ⟨some 32, none, .pick (.t 24) (.k (.bool true)) (.t 31)⟩]) (.cond (.t 32) (.seq (.rg [⟨some 4, none, .mv (.k (.bool false))⟩]) .ret) .skip)) (.seq (.seq (.rg [⟨some 5, none, .mv (.k (.int .i64 0))⟩]) (.block 0 (.loop (.seq (.seq (.rg [⟨some 33, none, .mv (.t 5)⟩, ⟨some 34, none, .fa 0 (.t 2)⟩, ⟨some 35, none, .ld 1 false (.t 34)⟩, ⟨some 36, none, .len 1 (.t 35)⟩, ⟨some 37, none, .bin .lss .leaf (.t 33) (.t 36)⟩]) (.cond (.t 37) .skip (.exit 0))) (.seq (.block 1 (.seq (.rd [(⟨some 40, none, .fa 0 (.t 2)⟩, none), (⟨some 41, none, .ld 1 false (.t 40)⟩, none), (⟨some 42, none, .mv (.t 5)⟩, none), (⟨some 43, none, .ia 3 (.t 41) (.t 42)⟩, none), (⟨some 44, none, .ld 3 true (.t 43)⟩, none), (⟨some 45, none, .fa 0 (.t 3)⟩, none), (⟨some 46, none, .ld 1 false (.t 45)⟩, none), (⟨some 47, none, .mv (.t 5)⟩, none), (⟨some 48, none, .ia 3 (.t 46) (.t 47)⟩, none), (⟨some 49, none, .ld 3 true (.t 48)⟩, none), (⟨some 50, none, .bin .neq (.agg [(0, .i), (1, .i), (2, .i)]) (.t 44) (.t 49)⟩, none)]) (.cond (.t 50) (.seq (.rg [⟨some 4, none, .mv (.k (.bool false))⟩]) .ret) .skip))) (.rg [⟨some 38, none, .mv (.t 5)⟩, ⟨some 39, none, .bin .add .leaf (.t 38) (.k (.int .i64 1))⟩, ⟨some 5, none, .mv (.t 39)⟩])))))) (.seq (.seq (.rg [⟨some 6, none, .mv (.k (.int .i64 0))⟩]) (.block 2 (.loop (.seq (.seq (.rg [⟨some 51, none, .mv (.t 6)⟩, ⟨some 52, none, .fa 1 (.t 2)⟩, ⟨some 53, none, .ld 1 false (.t 52)⟩, ⟨some 54, none, .len 1 (.t 53)⟩, ⟨some 55, none, .bin .lss .leaf (.t 51) (.t 54)⟩]) (.cond (.t 55) .skip (.exit 2))) (.seq (.block 3 (.seq (.rd [(⟨some 58, none, .fa 1 (.t 2)⟩, none), (⟨some 59, none, .ld 1 false (.t 58)⟩, none), (⟨some 60, none, .mv (.t 6)⟩, none), (⟨some 61, none, .ia 5 (.t 59) (.t 60)⟩, none), (⟨some 62, none, .ld 5 true (.t 61)⟩, none), (⟨some 63, none, .fa 1 (.t 3)⟩, none), (⟨some 64, none, .ld 1 false (.t 63)⟩, none), (⟨some 65, none, .mv (.t 6)⟩, none), (⟨some 66, none, .ia 5 (.t 64) (.t 65)⟩, none), (⟨some 67, none, .ld 5 true (.t 66)⟩, none), (⟨some 68, none, .bin .neq (.agg [(0, .i), (1, .i), (2, .i), (3, .i), (4, .i)]) (.t 62) (.t 67)⟩, none)]) (.cond (.t 68) (.seq (.rg [⟨some 4, none, .mv (.k (.bool false))⟩]) .ret) .skip))) (.rg [⟨some 56, none, .mv (.t 6)⟩, ⟨some 57, none, .bin .add .leaf (.t 56) (.k (.int .i64 1))⟩, ⟨some 6, none, .mv (.t 57)⟩])))))) (.seq (.seq (.rg [⟨some 7, none, .mv (.k (.int .i64 0))⟩]) (.block 4 (.loop (.seq (.seq (.rg [⟨some 69, none, .mv (.t 7)⟩, ⟨some 70, none, .fa 2 (.t 2)⟩, ⟨some 71, none, .ld 1 false (.t 70)⟩, ⟨some 72, none, .len 1 (.t 71)⟩, ⟨some 73, none, .bin .lss .leaf (.t 69) (.t 72)⟩]) (.cond (.t 73) .skip (.exit 4))) (.seq (.block 5 (.seq (.rd [(⟨some 76, none, .fa 2 (.t 2)⟩, none), (⟨some 77, none, .ld 1 false (.t 76)⟩, none), (⟨some 78, none, .mv (.t 7)⟩, none), (⟨some 79, none, .ia 1 (.t 77) (.t 78)⟩, none), (⟨some 80, none, .ld 1 false (.t 79)⟩, none), (⟨some 81, none, .fa 2 (.t 3)⟩, none), (⟨some 82, none, .ld 1 false (.t 81)⟩, none), (⟨some 83, none, .mv (.t 7)⟩, none), (⟨some 84, none, .ia 1 (.t 82) (.t 83)⟩, none), (⟨some 85, none, .ld 1 false (.t 84)⟩, none), (⟨some 86, none, .bin .neq .leaf (.t 80) (.t 85)⟩, none)]) (.cond (.t 86) (.seq (.rg [⟨some 4, none, .mv (.k (.bool false))⟩]) .ret) .skip))) (.rg [⟨some 74, none, .mv (.t 7)⟩, ⟨some 75, none, .bin .add .leaf (.t 74) (.k (.int .i64 1))⟩, ⟨some 7, none, .mv (.t 75)⟩])))))) (.seq (.rg [⟨some 4, none, .mv (.k (.bool true))⟩]) .ret)))))⟩ := by kernel_rfl

structure Dn where
  inv : Int
  st : Int
  si : Int
  deriving DecidableEq
instance : Inhabited Dn := ⟨⟨0, 0, 0⟩⟩
def Dn.cs (d : Dn) : List D := [.int .u64 d.inv, .int .i64 d.st, .int .i64 d.si]
def dns (l : List Dn) : List (List D) := l.map Dn.cs
structure Nt where
  inv : Int
  cu : Int
  st : Int
  late : Int
  op : Int
  deriving DecidableEq
instance : Inhabited Nt := ⟨⟨0, 0, 0, 0, 0⟩⟩
def Nt.cs (d : Nt) : List D := [.int .u64 d.inv, .int .u64 d.cu, .int .i64 d.st, .int .i64 d.late, .int .i64 d.op]
def nts (l : List Nt) : List (List D) := l.map Nt.cs
def u64s (l : List Int) : List (List D) := l.map fun n => [.int .u64 n]
def ivs (l : List Iv) : List (List D) := l.map Iv.cs
instance : Inhabited Iv := ⟨⟨0, 0, 0, 0, 0, 0, 0, 0, 0, 0, 0⟩⟩
theorem dns_len (l : List Dn) : (dns l).length = l.length := List.length_map ..
theorem nts_len (l : List Nt) : (nts l).length = l.length := List.length_map ..
theorem u64s_len (l : List Int) : (u64s l).length = l.length := List.length_map ..
theorem ivs_len (l : List Iv) : (ivs l).length = l.length := List.length_map ..
theorem iaD_rows {α : Type} [Inhabited α] {f : α → List D} {sz : Nat} {l : List α} {k : IntKind} {i : Nat} {n : Int} (hf : ∀ x, (f x).length = sz) (h : n = i) (hi : i < l.length) : iaD sz (.sl (l.map f)) (.int k n) = some (.pe (f l[i]!) 0) := by
  subst h
  exact iaD_map (by omega) (by rw [Int.toNat_natCast, List.getElem?_eq_getElem hi, getElem!_pos l i hi]) (hf _)
theorem iaD_dn {l : List Dn} {k : IntKind} {i : Nat} {n : Int} (h : n = i) (hi : i < l.length) : iaD 3 (.sl (dns l)) (.int k n) = some (.pe (l[i]!).cs 0) := iaD_rows (fun _ => rfl) h hi
theorem iaD_nt {l : List Nt} {k : IntKind} {i : Nat} {n : Int} (h : n = i) (hi : i < l.length) : iaD 5 (.sl (nts l)) (.int k n) = some (.pe (l[i]!).cs 0) := iaD_rows (fun _ => rfl) h hi
theorem iaD_iv {l : List Iv} {k : IntKind} {i : Nat} {n : Int} (h : n = i) (hi : i < l.length) : iaD 11 (.sl (ivs l)) (.int k n) = some (.pe (l[i]!).cs 0) := iaD_rows (fun _ => rfl) h hi
theorem iaD_u64 {l : List Int} {k : IntKind} {i : Nat} {n : Int} (h : n = i) (hi : i < l.length) : iaD 1 (.sl (u64s l)) (.int k n) = some (.pe [.int .u64 l[i]!] 0) := iaD_rows (f := fun n => [.int .u64 n]) (fun _ => rfl) h hi
theorem take_sn {α : Type} [Inhabited α] {l : List α} {i : Nat} (h : i < l.length) : l.take (i + 1) = l.take i ++ [l[i]!] := by
  rw [List.take_add_one, List.getElem?_eq_getElem h, getElem!_pos l i h]; rfl
theorem mem_at {α : Type} [Inhabited α] {l : List α} {i : Nat} (h : i < l.length) : l[i]! ∈ l := by rw [getElem!_pos l i h]; exact List.getElem_mem h
theorem lst_map {α : Type} [Inhabited α] {f : α → Int} {a : Int} {l : List α} {i : Nat} (h : 0 < i) (hi : i ≤ l.length) : lst a ((l.take i).map f) = f l[i - 1]! := by
  obtain ⟨j, rfl⟩ : ∃ j, i = j + 1 := ⟨i - 1, by omega⟩
  rw [take_sn (by omega), List.map_append, List.map_cons, List.map_nil, lst_snoc]; simp
theorem inc_pos : ∀ {a : Int} {l : List Int}, inc a l → ∀ n ∈ l, a < n
  | a, m :: r, h, n, hn => by
    rcases List.mem_cons.1 hn with rfl | hn
    · exact h.1
    · have := inc_pos h.2 n hn; have := h.1; omega

def ofL (l : List Dn) (id : Int) : Dn := match l with
  | [] => ⟨0, 0, 0⟩
  | d :: r => if d.inv = id then d else ofL r id
theorem ofL_app {l r : List Dn} {id : Int} (h : ∀ d ∈ l, d.inv ≠ id) : ofL (l ++ r) id = ofL r id := by
  induction l with
  | nil => rfl
  | cons d l ih => rw [List.cons_append, ofL, if_neg (h d (List.mem_cons_self ..)), ih fun x hx => h x (List.mem_cons_of_mem _ hx)]
theorem ofL_none {l : List Dn} {id : Int} (h : ∀ d ∈ l, d.inv ≠ id) : ofL l id = ⟨0, 0, 0⟩ := by
  have := ofL_app (r := []) h
  rwa [List.append_nil] at this
theorem ofL_at {l : List Dn} {id : Int} {i : Nat} (hi : i < l.length) (h : ∀ d ∈ l.take i, d.inv ≠ id) (he : (l[i]!).inv = id) : ofL l id = l[i]! := by
  have := ofL_app (r := l.drop i) h
  rw [List.take_append_drop, List.drop_eq_getElem_cons hi, ofL] at this
  rw [getElem!_pos l i hi] at he ⊢
  rw [this, if_pos he]

theorem scLL_map {α : Type} {f : α → List D} {n m : Nat} (hf : ∀ x, scL n m (f x) = true) : ∀ (l : List α), scLL n m (l.map f) = true
  | [] => rfl
  | x :: r => by simp only [List.map_cons, scLL, hf x, scLL_map hf r, Bool.and_self]
theorem sc_dns (n m : Nat) (l : List Dn) : scLL n m (dns l) = true := scLL_map (fun _ => rfl) l
theorem sc_nts (n m : Nat) (l : List Nt) : scLL n m (nts l) = true := scLL_map (fun _ => rfl) l
theorem sc_ivs (n m : Nat) (l : List Iv) : scLL n m (ivs l) = true := scLL_map (fun _ => rfl) l
theorem sc_u64s (n m : Nat) (l : List Int) : scLL n m (u64s l) = true := scLL_map (fun _ => rfl) l
theorem sc_i64s (n m : Nat) (l : List Int) : scLL n m (i64s l) = true := scLL_map (fun _ => rfl) l
def mayL (l : List Iv) : Prop := (∀ x ∈ l, x.ok) ∧ inc 0 (l.map Iv.id)
def goodD (l : List Iv) (d : Dn) : Prop := d.inv ∈ l.map Iv.id ∧ 1 ≤ d.st ∧ d.st ≤ 8 ∧ 1 ≤ d.si ∧ d.si ≤ 3652059
def mayD (l : List Iv) (duns : List Dn) : Prop := inc 0 (duns.map Dn.inv) ∧ ∀ d ∈ duns, goodD l d

theorem inc_tk {a : Int} {l : List Int} {i : Nat} (h : inc a l) : inc a (l.take i) := inc_take i a l h
theorem inc_iv {l : List Iv} {i : Nat} (h : inc 0 (l.map Iv.id)) (hi : i < l.length) : lst 0 ((l.take i).map Iv.id) < (l[i]!).id := by
  have := inc_tk (i := i + 1) h
  rw [← List.map_take, take_sn hi, List.map_append, List.map_cons, List.map_nil] at this
  exact ((inc_snoc ..).1 this).2
theorem inc_dn {l : List Dn} {i : Nat} (h : inc 0 (l.map Dn.inv)) (hi : i < l.length) : lst 0 ((l.take i).map Dn.inv) < (l[i]!).inv := by
  have := inc_tk (i := i + 1) h
  rw [← List.map_take, take_sn hi, List.map_append, List.map_cons, List.map_nil] at this
  exact ((inc_snoc ..).1 this).2
theorem inc_ivs {l : List Iv} {i : Nat} (hi : i < l.length) (h : inc 0 ((l.take i).map Iv.id)) (hlt : lst 0 ((l.take i).map Iv.id) < (l[i]!).id) : inc 0 ((l.take (i + 1)).map Iv.id) := by
  rw [take_sn hi, List.map_append, List.map_cons, List.map_nil]; exact (inc_snoc ..).2 ⟨h, hlt⟩
theorem inc_dns {l : List Dn} {i : Nat} (hi : i < l.length) (h : inc 0 ((l.take i).map Dn.inv)) (hlt : lst 0 ((l.take i).map Dn.inv) < (l[i]!).inv) : inc 0 ((l.take (i + 1)).map Dn.inv) := by
  rw [take_sn hi, List.map_append, List.map_cons, List.map_nil]; exact (inc_snoc ..).2 ⟨h, hlt⟩
theorem all_sn {α : Type} [Inhabited α] {P : α → Prop} {l : List α} {i : Nat} (hi : i < l.length) (h : ∀ x ∈ l.take i, P x) (hx : P l[i]!) : ∀ x ∈ l.take (i + 1), P x := by
  intro x hx'
  rw [take_sn hi] at hx'
  rcases List.mem_append.1 hx' with h' | h'
  · exact h x h'
  · rw [List.mem_singleton.1 h']; exact hx
theorem ite02 {p : Prop} [Decidable p] : (if p then (0 : Int) else 2) = 0 ↔ p := by by_cases h : p <;> simp [h]


def lateO (day : Int) (x : Iv) : Int := max (day - x.due) 0
def Po.lost (p : Po) (late : Int) : Prop := p.lose ≠ 0 ∧ p.lose ≤ late
instance (p : Po) (late : Int) : Decidable (p.lost late) := inferInstanceAs (Decidable (_ ∧ _))
def newD (p : Po) (day : Int) (d : Dn) (x : Iv) : List Dn :=
  if x.op = 0 then [] else if p.lost (lateO day x) then [] else if d.st < cnt' (lateO day x) p.days then [⟨x.id, cnt' (lateO day x) p.days, day⟩] else if 0 < d.st then [d] else []
def newN (p : Po) (day : Int) (d : Dn) (x : Iv) : List Nt :=
  if x.op = 0 then [] else if p.lost (lateO day x) then [] else if d.st < cnt' (lateO day x) p.days then [⟨x.id, x.cu, cnt' (lateO day x) p.days, lateO day x, x.op⟩] else []
def newL (p : Po) (day : Int) (x : Iv) : List Int :=
  if x.op = 0 then [] else if p.lost (lateO day x) then [x.id] else []
def runD (p : Po) (duns : List Dn) (day : Int) (l : List Iv) : List Dn := l.flatMap fun x => newD p day (ofL duns x.id) x
def runN (p : Po) (duns : List Dn) (day : Int) (l : List Iv) : List Nt := l.flatMap fun x => newN p day (ofL duns x.id) x
def runL (p : Po) (day : Int) (l : List Iv) : List Int := l.flatMap fun x => newL p day x
def dng (ds : List Dn) (ns : List Nt) (ls : List Int) : D := .agg [.sl (dns ds), .sl (nts ns), .sl (u64s ls)]
theorem fm_sn {α β : Type} [Inhabited α] {f : α → List β} {l : List α} {i : Nat} (h : i < l.length) : (l.take (i + 1)).flatMap f = (l.take i).flatMap f ++ f l[i]! := by
  rw [take_sn h, List.flatMap_append]; simp
theorem fm_len {α β : Type} {f : α → List β} (hf : ∀ x, (f x).length ≤ 1) : ∀ (l : List α), (l.flatMap f).length ≤ l.length
  | [] => by simp
  | x :: r => by have := hf x; have := fm_len hf r; simp only [List.flatMap_cons, List.length_append, List.length_cons]; omega
theorem newD_len (p : Po) (day : Int) (d : Dn) (x : Iv) : (newD p day d x).length ≤ 1 := by unfold newD; (repeat' split) <;> simp
theorem newN_len (p : Po) (day : Int) (d : Dn) (x : Iv) : (newN p day d x).length ≤ 1 := by unfold newN; (repeat' split) <;> simp
theorem newL_len (p : Po) (day : Int) (x : Iv) : (newL p day x).length ≤ 1 := by unfold newL; (repeat' split) <;> simp
def runR (p : Po) (duns : List Dn) (l : List Iv) (day : Int) : D := .tup [dng (runD p duns day l) (runN p duns day l) (runL p day l), .int .i64 0]
def runE : D := .tup [dng [] [] [], .int .i64 2]
def runOK (p : Po) (duns : List Dn) (l : List Iv) (day : Int) : Prop := p.ok ∧ (1 ≤ day ∧ day ≤ 3652059) ∧ mayL l ∧ mayD l duns
structure RunIn (p : Po) (duns : List Dn) (l : List Iv) (day : Int) : Prop where
  p : p.R
  iv : ∀ x ∈ l, x.R
  ll : l.length ≤ 40
  dl : duns.length ≤ 40
  d : ∀ d ∈ duns, U64 d.inv ∧ I64 d.st ∧ I64 d.si
  day : I64 day
theorem Sub.nil : Sub .nilsl (.sl []) := Sub.rd rfl
theorem Sub.gsl {es : List (List D)} {t : Nat} : Sub (.gsl es t) (.sl es) := Sub.rd rfl
theorem sub_runE {e : Int} (h : e = 2) : Sub (.tup [.agg [.nilsl, .nilsl, .nilsl], .int .i64 e]) runE :=
  Sub.tup (.cons (Sub.agg (.cons Sub.nil (.cons Sub.nil (.cons Sub.nil .nil)))) (.cons (Sub.int h) .nil))

theorem runD_sn {p : Po} {duns : List Dn} {day : Int} {l : List Iv} {i : Nat} (h : i < l.length) : dns (runD p duns day (l.take (i + 1))) = dns (runD p duns day (l.take i)) ++ dns (newD p day (ofL duns (l[i]!).id) l[i]!) := by
  rw [runD, fm_sn h, dns, List.map_append]; rfl
theorem runN_sn {p : Po} {duns : List Dn} {day : Int} {l : List Iv} {i : Nat} (h : i < l.length) : nts (runN p duns day (l.take (i + 1))) = nts (runN p duns day (l.take i)) ++ nts (newN p day (ofL duns (l[i]!).id) l[i]!) := by
  rw [runN, fm_sn h, nts, List.map_append]; rfl
theorem runL_sn {p : Po} {day : Int} {l : List Iv} {i : Nat} (h : i < l.length) : u64s (runL p day (l.take (i + 1))) = u64s (runL p day (l.take i)) ++ u64s (newL p day l[i]!) := by
  rw [runL, fm_sn h, u64s, List.map_append]; rfl
theorem ofL_st {duns : List Dn} (h : ∀ d ∈ duns, 0 ≤ d.st) (id : Int) : 0 ≤ (ofL duns id).st := by
  induction duns with
  | nil => exact Int.le_refl _
  | cons d r ih =>
    unfold ofL
    split
    · exact h d (List.mem_cons_self ..)
    · exact ih fun x hx => h x (List.mem_cons_of_mem _ hx)
structure S3 where
  i : Nat
  es : List (List D)
  ns : List (List D)
  ls : List (List D)
structure S3.P (p : Po) (duns : List Dn) (day : Int) (l : List Iv) (s : S3) : Prop where
  i : s.i ≤ l.length
  es : s.es = dns (runD p duns day (l.take s.i))
  ns : s.ns = nts (runN p duns day (l.take s.i))
  ls : s.ls = u64s (runL p day (l.take s.i))
theorem S3.step {p : Po} {duns : List Dn} {day : Int} {l : List Iv} {s : S3} (h : s.P p duns day l) (hi : s.i < l.length) {a b c : List (List D)}
    (ha : a = dns (newD p day (ofL duns (l[s.i]!).id) l[s.i]!)) (hb : b = nts (newN p day (ofL duns (l[s.i]!).id) l[s.i]!)) (hc : c = u64s (newL p day l[s.i]!)) : S3.P p duns day l ⟨s.i + 1, s.es ++ a, s.ns ++ b, s.ls ++ c⟩ :=
  ⟨hi, by rw [runD_sn hi, ← h.es, ← ha], by rw [runN_sn hi, ← h.ns, ← hb], by rw [runL_sn hi, ← h.ls, ← hc]⟩
theorem S3.len {p : Po} {duns : List Dn} {day : Int} {l : List Iv} {s : S3} (h : s.P p duns day l) : s.es.length ≤ s.i ∧ s.ns.length ≤ s.i ∧ s.ls.length ≤ s.i := by
  have h0 : (l.take s.i).length ≤ s.i := List.length_take_le ..
  refine ⟨?_, ?_, ?_⟩
  · rw [h.es, dns_len]; exact Nat.le_trans (fm_len (fun x => newD_len ..) _) h0
  · rw [h.ns, nts_len]; exact Nat.le_trans (fm_len (fun x => newN_len ..) _) h0
  · rw [h.ls, u64s_len]; exact Nat.le_trans (fm_len (fun x => newL_len ..) _) h0
theorem S3.sc {p : Po} {duns : List Dn} {day : Int} {l : List Iv} {s : S3} (h : s.P p duns day l) (n m : Nat) : scLL n m s.es = true ∧ scLL n m s.ns = true ∧ scLL n m s.ls = true :=
  ⟨h.es ▸ sc_dns _ _ _, h.ns ▸ sc_nts _ _ _, h.ls ▸ sc_u64s _ _ _⟩

def rfJ (p : Po) (m0 : Nat) (s : S3) : List O := [.arr [.sl (i64s p.days), .int .i64 p.lose], .arr [.nilsl, .nilsl, .nilsl], .arr [.gsl s.es m0, .gsl s.ns (m0 + 1), .gsl s.ls (m0 + 2)]]
def rfF (duns : List Dn) (l : List Iv) (day : Int) (s : S3) : Fr := [(11, .d (.int .i64 s.i)), (1, .d (.sl (dns duns))), (2, .d (.sl (ivs l))), (3, .d (.int .i64 day)), (4, .lp 0 0), (8, .lp 1 0), (10, .lp 2 0)]

def rfT (s : S3) : Tks := [(s.es.length, 55, 3), (s.ns.length, 57, 5), (s.ls.length, 25, 1)]
theorem rfJ_sc {p : Po} {duns : List Dn} {day : Int} {l : List Iv} {s : S3} (h : s.P p duns day l) (n m : Nat) : oScL (n + 3) (m + 3) (rfJ p m s) = true := by
  obtain ⟨h1, h2, h3⟩ := S3.sc h (n + 3) (m + 3)
  simp [rfJ, oScL, oSc, scL, D.sc, sc_i64s, h1, h2, h3]
theorem rfF_sc (duns : List Dn) (l : List Iv) (day : Int) (s : S3) (n m : Nat) : frSc (n + 3) (m + 3) (frD n (rfF duns l day s)) = true := by
  simp [rfF, frSc, frD, FD.to, D.sc, sc_dns, sc_ivs]
end Go.KL.YtjjdfplonbgpbaaDoor
namespace Go.KL.YtjjdfplonbgpbaaDoor.U
open Go Go.KL Go.RowKit Go.Proofs
theorem c28 : cFun E0.P 28 = some ⟨107, [], .seq (.rg [⟨some 3, none, .box (.t 1) 27⟩]) (.seq (.rd [(⟨some 12, none, .ld 11 true (.t 3)⟩, none), (⟨some 13, none, .mv (.t 0)⟩, none), (⟨some 14, none, .nilck (.t 13)⟩, none), (⟨some 15, none, .fa 2 (.t 14)⟩, none), (⟨some 16, none, .ld 1 false (.t 15)⟩, none), (⟨some 17, none, .call 38 [.t 12, .t 16]⟩, some []), (⟨some 11, none, .mv (.t 17)⟩, none), (⟨some 18, none, .ext 0 (.t 11)⟩, none), (⟨some 19, none, .ext 1 (.t 11)⟩, none), (⟨some 20, none, .ext 2 (.t 11)⟩, none), (⟨some 4, none, .mv (.t 18)⟩, none), (⟨some 5, none, .mv (.t 19)⟩, none), (⟨some 6, none, .mv (.t 20)⟩, none)]) (.seq (.rg [⟨some 22, none, .mv (.t 0)⟩, ⟨some 23, none, .nilck (.t 22)⟩, ⟨some 24, none, .fa 0 (.t 23)⟩, ⟨some 25, none, .ld 2 true (.t 24)⟩, ⟨some 26, none, .mv (.t 4)⟩, ⟨some 27, none, .call 5 [.t 25, .t 26]⟩, ⟨some 21, none, .mv (.t 27)⟩, ⟨some 28, none, .ext 0 (.t 21)⟩, ⟨some 29, none, .ext 1 (.t 21)⟩, ⟨some 30, none, .ext 2 (.t 21)⟩, ⟨some 7, none, .mv (.t 28)⟩, ⟨some 8, none, .mv (.t 29)⟩, ⟨some 9, none, .mv (.t 30)⟩]) (.seq (.rg [⟨some 31, none, .ld 11 true (.t 3)⟩, ⟨some 32, none, .call 11 [.t 31]⟩, ⟨some 10, none, .mv (.t 32)⟩]) (.block 0 (.seq (.rg [⟨some 34, none, .mv (.t 10)⟩, ⟨some 35, none, .bin .eql .leaf (.t 34) (.k (.int .i64 0))⟩, ⟨some 33, none, .mv (.t 35)⟩]) (.cond (.t 33) (.rd [(⟨some 36, none, .mv (.t 0)⟩, none), (⟨some 37, none, .nilck (.t 36)⟩, none), (⟨some 38, none, .fa 3 (.t 37)⟩, none), (⟨some 39, none, .ld 1 false (.t 38)⟩, none), (⟨some 40, none, .fa 0 (.t 3)⟩, none), (⟨some 41, none, .ld 1 false (.t 40)⟩, none), (⟨none, none, .mdel (KT.lf (KLf.i .u64)) (.t 39) (.t 41)⟩, some [])]) (.seq (.rg [⟨some 43, none, .mv (.t 8)⟩, ⟨some 42, none, .mv (.t 43)⟩]) (.cond (.t 42) (.seq (.rd [(⟨some 44, none, .mv (.t 0)⟩, none), (⟨some 45, none, .nilck (.t 44)⟩, none), (⟨some 46, none, .fa 3 (.t 45)⟩, none), (⟨some 47, none, .ld 1 false (.t 46)⟩, none), (⟨some 48, none, .fa 0 (.t 3)⟩, none), (⟨some 49, none, .ld 1 false (.t 48)⟩, none), (⟨none, none, .mdel (KT.lf (KLf.i .u64)) (.t 47) (.t 49)⟩, some [])]) (.rd [(⟨some 50, none, .mv (.t 0)⟩, none), (⟨some 51, none, .mv (.t 0)⟩, none), (⟨some 52, none, .nilck (.t 51)⟩, none), (⟨some 53, none, .fa 4 (.t 52)⟩, none), (⟨some 54, none, .fa 2 (.t 53)⟩, none), (⟨some 55, none, .ld 1 false (.t 54)⟩, none), (⟨some 56, none, .fa 0 (.t 3)⟩, none), (⟨some 57, none, .ld 1 false (.t 56)⟩, none), (⟨some 58, none, .buildS 1 1 [.int .u64 0] [(0, .t 57)] 25⟩, none), (⟨some 59, none, .app 48 25 1 8 [.int .u64 0] (.t 55) (.t 58)⟩, some []), (⟨some 60, none, .nilck (.t 50)⟩, none), (⟨some 61, none, .fa 4 (.t 60)⟩, none), (⟨some 62, none, .fa 2 (.t 61)⟩, none), (⟨none, none, .st 1 (.t 62) (.t 59)⟩, some [])])) (.seq (.rd [(⟨some 64, none, .mv (.t 7)⟩, none), (⟨some 65, none, .mv (.t 0)⟩, none), (⟨some 66, none, .nilck (.t 65)⟩, none), (⟨some 67, none, .fa 3 (.t 66)⟩, none), (⟨some 68, none, .ld 1 false (.t 67)⟩, none), (⟨some 69, none, .fa 0 (.t 3)⟩, none), (⟨some 70, none, .ld 1 false (.t 69)⟩, none), (⟨some 71, none, .mget (KT.lf (KLf.i .u64)) (.agg [.int .u64 0, .int .i64 0, .int .i64 0]) false (.t 68) (.t 70)⟩, none), (⟨some 72, none, .fd 1 1 false (.t 71)⟩, none), (⟨some 73, none, .bin .gtr .leaf (.t 64) (.t 72)⟩, none), (⟨some 63, none, .mv (.t 73)⟩, none)]) (.cond (.t 63) (.seq (.rd [(⟨some 74, none, .mv (.t 0)⟩, none), (⟨some 75, none, .nilck (.t 74)⟩, none), (⟨some 76, none, .fa 3 (.t 75)⟩, none), (⟨some 77, none, .ld 1 false (.t 76)⟩, none), (⟨some 78, none, .fa 0 (.t 3)⟩, none), (⟨some 79, none, .ld 1 false (.t 78)⟩, none), (⟨some 80, none, .fa 0 (.t 3)⟩, none), (⟨some 81, none, .ld 1 false (.t 80)⟩, none), (⟨some 82, none, .mv (.t 7)⟩, none), (⟨some 83, none, .mv (.t 0)⟩, none), (⟨some 84, none, .nilck (.t 83)⟩, none), (⟨some 85, none, .fa 2 (.t 84)⟩, none), (⟨some 86, none, .ld 1 false (.t 85)⟩, none), (⟨some 87, none, .build [.int .u64 0, .int .i64 0, .int .i64 0] [(0, 1, .t 81), (1, 1, .t 82), (2, 1, .t 86)]⟩, none), (⟨none, none, .mset (KT.lf (KLf.i .u64)) (.t 77) (.t 79) (.t 87)⟩, some [])]) (.rd [(⟨some 88, none, .mv (.t 0)⟩, none), (⟨some 89, none, .mv (.t 0)⟩, none), (⟨some 90, none, .nilck (.t 89)⟩, none), (⟨some 91, none, .fa 4 (.t 90)⟩, none), (⟨some 92, none, .fa 1 (.t 91)⟩, none), (⟨some 93, none, .ld 1 false (.t 92)⟩, none), (⟨some 94, none, .fa 0 (.t 3)⟩, none), (⟨some 95, none, .ld 1 false (.t 94)⟩, none), (⟨some 96, none, .fa 1 (.t 3)⟩, none), (⟨some 97, none, .ld 1 false (.t 96)⟩, none), (⟨some 98, none, .mv (.t 7)⟩, none), (⟨some 99, none, .mv (.t 4)⟩, none), (⟨some 100, none, .mv (.t 10)⟩, none), (⟨some 101, none, .build [.int .u64 0, .int .u64 0, .int .i64 0, .int .i64 0, .int .i64 0] [(0, 1, .t 95), (1, 1, .t 97), (2, 1, .t 98), (3, 1, .t 99), (4, 1, .t 100)]⟩, none), (⟨some 102, none, .buildS 1 5 [.int .u64 0, .int .u64 0, .int .i64 0, .int .i64 0, .int .i64 0] [(0, .t 101)] 57⟩, none), (⟨some 103, none, .app 47 57 5 40 [.int .u64 0, .int .u64 0, .int .i64 0, .int .i64 0, .int .i64 0] (.t 93) (.t 102)⟩, some []), (⟨some 104, none, .nilck (.t 88)⟩, none), (⟨some 105, none, .fa 4 (.t 104)⟩, none), (⟨some 106, none, .fa 1 (.t 105)⟩, none), (⟨none, none, .st 1 (.t 106) (.t 103)⟩, some [])])) .skip))))))))))⟩ := by kernel_rfl
theorem c27 : cFun E0.P 27 = some ⟨16, [], .seq (.rg [⟨some 6, none, .mv (.t 0)⟩, ⟨some 7, none, .len 1 (.t 6)⟩, ⟨some 8, none, .mv (.k (.int .i64 0))⟩]) (.block 0 (.loop (.seq (.rg [⟨some 9, none, .bin .lss .leaf (.t 8) (.t 7)⟩]) (.seq (.cond (.t 9) .skip (.exit 0)) (.seq (.block 1 (.seq (.rg [⟨some 10, none, .ia 11 (.t 6) (.t 8)⟩, ⟨some 11, none, .ld 11 true (.t 10)⟩, ⟨some 5, none, .alloc [.int .u64 0, .int .u64 0, .int .u64 0, .int .i64 0, .int .i64 0, .int .i64 0, .int .i64 0, .int .i64 0, .int .i64 0, .int .i64 0, .int .i64 0] 27⟩, ⟨none, none, .st 11 (.t 5) (.t 11)⟩]) (.rg [⟨some 12, none, .mv (.t 1)⟩, ⟨some 13, none, .ld 11 true (.t 5)⟩, ⟨some 14, none, .callv (.t 12) [.t 13]⟩]))) (.rg [⟨some 15, none, .bin .add .leaf (.t 8) (.k (.int .i64 1))⟩, ⟨some 8, none, .mv (.t 15)⟩]))))))⟩ := by kernel_rfl
theorem c41 : cFun E0.P 41 = some ⟨14, [], .seq (.rg [⟨some 4, none, .ld 1 false (.t 1)⟩, ⟨some 5, none, .rngM (.t 4)⟩]) (.block 0 (.loop (.seq (.rg [⟨some 6, none, .nxt (.t 5)⟩, ⟨some 7, none, .ext 0 (.t 6)⟩]) (.seq (.cond (.t 7) .skip (.exit 0)) (.block 1 (.seq (.rg [⟨some 8, none, .ent (.t 5)⟩, ⟨some 9, none, .ext 0 (.t 8)⟩, ⟨some 3, none, .mv (.t 9)⟩]) (.seq (.rg [⟨some 10, none, .mv (.t 0)⟩, ⟨some 11, none, .mv (.t 3)⟩, ⟨some 12, none, .callv (.t 10) [.t 11]⟩, ⟨some 13, none, .un .not (.t 12)⟩]) (.cond (.t 13) .ret .skip))))))))⟩ := by kernel_rfl
theorem c30 : cFun E0.P 30 = some ⟨4, [(2, none)], .seq (.rg [⟨some 1, none, .box (.t 0) 78⟩, ⟨some 2, none, .mv (.k .nilfn)⟩]) (.seq (.rg [⟨some 3, none, .mkfn 41 [.t 1]⟩, ⟨some 2, none, .mv (.t 3)⟩]) .ret)⟩ := by kernel_rfl

structure SKy where
  d : Array Int
  vs : List Ent
theorem keysEnum {S : List O} {tk : Tks} {cell mid clk : Nat} {kt : KT} {l : List Ent} (hc : S[cell]? = some (.arr [.map mid])) (hM : S[mid]? = some (.map kt (entKv l) clk)) (hst : Stamps l clk) :
    Enum 41 cell S tk l.length (fun d => d.toList.Perm (l.map (·.1))) := by
  refine ⟨rfl, fun yid gS n hlen hosc hold hy => ?_⟩
  refine ACalls.fgo c41 rfl fun hS => ?_
  repeat' first | with_reducible refine fzD_ite (fun q => ?_) (fun q => ?_) | ((try conv => whnf); first | refine bs_d (fun q => ?_) (fun q => ?_) | refine bs_n ?_ | refine bs_i (fun q => ?_) (fun q => ?_) | refine pK_i (ldO_old (hold _ _ _ hc) rfl) ?_ | refine gk_rng_old rfl rfl rfl (hold _ _ _ hM) ?_ | refine eqk rfl ?_ | refine ffin _ rfl rfl hS (Sub.refl _) rfl ⟨?_, rfl, rfl⟩)
  refine floopS (α := SKy) rfl (fun s => s.vs.Nodup ∧ (∀ e ∈ s.vs, e ∈ l) ∧ s.d.toList = s.vs.map (·.1)) (fun s => l.length - s.vs.length) (fun s => [(0, .d (.yld yid)), (5, .d (.po (gS #[]).length 0))])
    (fun s => gS s.d) (fun s => [.iter mid clk (s.vs.map (·.2.2)) clk]) (fun _ => []) (fun s _ => ⟨by rw [hlen, hlen], by rw [hlen]; exact hosc _⟩) ⟨#[], []⟩ ⟨List.nodup_nil, by simp, rfl⟩ rfl (fstep_sub ⟨Sub.refl _, Sub.refl _, trivial⟩) ?_
  rintro s ⟨h1, h2, h3⟩
  have hsz : s.d.size = s.vs.length := by rw [← Array.length_toList, h3, List.length_map]
  repeat' first | with_reducible refine fzD_ite (fun q => ?_) (fun q => ?_) | ((try conv => whnf); first | refine bs_d (fun q => ?_) (fun q => ?_) | refine bs_n ?_ | refine bs_i (fun q => ?_) (fun q => ?_) | (refine gk_nxt (it := 0) (by rw [hlen, hlen]) rfl rfl rfl (at_old (hold _ _ _ hM)) (.inr (entKv_first hst)) ?_ ?_; (rintro p hp hns; obtain ⟨e, he, rfl⟩ := List.mem_map.1 hp; obtain ⟨m1, m2, m3⟩ := hst.more h1 h2 he hns; skip); rotate_left; intro hall; rotate_left) | refine pK_i (entD_own (k := 0) (by rw [hlen, hlen]) rfl (at_old (hold _ _ _ hM)) hp (hst.kveq he)) ?_ | refine ykT (S1 := gS (s.d.push e.1)) (J1 := [_]) (by rw [List.append_nil]; exact hy s.d e.1 _ (by omega)) rfl (by rw [hlen, hlen]) ?_ | refine ffin _ (by rw [hlen, hlen]) rfl (by rw [hlen]; exact hosc _) (Sub.refl _) rfl ⟨rfl, rfl, s.d, by rw [h3]; exact (hst.full h1 h2 hall).map _, rfl⟩ | refine eqk rfl ?_ | refine ffin _ rfl rfl hS (Sub.refl _) rfl ⟨?_, rfl, rfl⟩)
  refine fnextS (α := SKy) ⟨s.d.push e.1, s.vs ++ [e]⟩ ⟨m1, m2, by simp [h3]⟩ (by simp only [List.length_append, List.length_singleton]; omega) rfl ?_
  simp only [List.map_append, List.map_cons, List.map_nil]
  exact fstep_sub ⟨Sub.refl _, Sub.refl _, trivial⟩

structure RS where
  l : List Ent
  clk : Nat
  ns : List (List D)
  ls : List (List D)
structure RP where
  p : Po
  day : Int
  rid : Nat
  mid : Nat
  t0 : Nat
  t1 : Nat
  t2 : Nat
def RP.cells (q : RP) (s : RS) : List D := [.sl (i64s q.p.days), .int .i64 q.p.lose, .int .i64 q.day, .map q.mid, .gsl [] q.t0, .gsl s.ns q.t1, .gsl s.ls q.t2]
abbrev kt64 : KT := .lf (.i .u64)
def stS (q : RP) (S0 : List O) (s : RS) : List O := (S0.set q.rid (.arr (q.cells s))).set q.mid (.map kt64 (entKv s.l) s.clk)
def stT (q : RP) (T0 : Tks) (s : RS) : Tks := (T0.set q.t1 (s.ns.length, 57, 5)).set q.t2 (s.ls.length, 25, 1)
structure RP.In (q : RP) (S0 : List O) (T0 : Tks) : Prop where
  rid : q.rid < S0.length
  mid : q.mid < S0.length
  ne : q.rid ≠ q.mid
  t0 : q.t0 < T0.length
  t1 : q.t1 < T0.length
  t2 : q.t2 < T0.length
  tne : q.t1 ≠ q.t2
section
variable {q : RP} {S0 : List O} {T0 : Tks} {s : RS}
theorem stS_len : (stS q S0 s).length = S0.length := by simp [stS]
theorem stT_len : (stT q T0 s).length = T0.length := by simp [stT]
theorem stS_rid (h : q.In S0 T0) : (stS q S0 s)[q.rid]? = some (.arr (q.cells s)) := by
  rw [stS, List.getElem?_set_ne (Ne.symm h.ne), List.getElem?_set_self h.rid]
theorem stS_mid (h : q.In S0 T0) : (stS q S0 s)[q.mid]? = some (.map kt64 (entKv s.l) s.clk) := by
  rw [stS, List.getElem?_set_self (by rw [List.length_set]; exact h.mid)]
theorem stT_1 (h : q.In S0 T0) : (stT q T0 s)[q.t1]? = some (s.ns.length, 57, 5) := by
  rw [stT, List.getElem?_set_ne (Ne.symm h.tne), List.getElem?_set_self h.t1]
theorem stT_2 (h : q.In S0 T0) : (stT q T0 s)[q.t2]? = some (s.ls.length, 25, 1) := by
  rw [stT, List.getElem?_set_self (by rw [List.length_set]; exact h.t2)]
theorem stT_set1 (h : q.In S0 T0) {ns : List (List D)} : (stT q T0 s).set q.t1 (ns.length, 57, 5) = stT q T0 { s with ns := ns } := by
  rw [stT, List.set_comm _ _ (Ne.symm h.tne), List.set_set]; rfl
theorem stT_set2 {ls : List (List D)} : (stT q T0 s).set q.t2 (ls.length, 25, 1) = stT q T0 { s with ls := ls } := by
  rw [stT, List.set_set]; rfl
theorem stS_setm {l : List Ent} {clk : Nat} : (stS q S0 s).set q.mid (.map kt64 (entKv l) clk) = stS q S0 { s with l := l, clk := clk } := by
  rw [stS, List.set_set]; rfl
theorem stS_setr (h : q.In S0 T0) {s' : RS} (hl : s'.l = s.l) (hc : s'.clk = s.clk) : (stS q S0 s).set q.rid (.arr (q.cells s')) = stS q S0 s' := by
  rw [stS, List.set_comm _ _ (Ne.symm h.ne), List.set_set, stS, hl, hc]

variable {fr : Fr} {J : List O} {TK : Tks} {n0 m0 : Nat}
theorem gk_msR {x k v : Opd} {key : Int} {d : Dn} {K : FD → List O → List O → Tks → Tks → Prop} {T : Tks} (h : q.In S0 T0) (hn : S0.length = n0) (hm : T.length = m0) (hx : fev E0 fr x = .d (.map q.mid)) (hk : (fev E0 fr k).to n0 = kD key) (hv : (fev E0 fr v).to n0 = .agg d.cs)
    (hK : K (.d .top) (stS q S0 { s with l := setE s.l s.clk key (.agg d.cs), clk := clkE s.l s.clk key }) J T TK) : GK E0 n0 m0 (.mset kt64 x k v) fr (stS q S0 s) J T TK K := by
  refine gk_mset_old (by rw [stS_len]; exact hn) hm hx (stS_mid h) (by rw [hk]; rfl) ?_
  rw [hk, hv, mset_entKv, mclk_entKv, stS_setm]
  exact hK
theorem gk_mdR {x k : Opd} {key : Int} {K : FD → List O → List O → Tks → Tks → Prop} {T : Tks} (h : q.In S0 T0) (hn : S0.length = n0) (hm : T.length = m0) (hx : fev E0 fr x = .d (.map q.mid)) (hk : (fev E0 fr k).to n0 = kD key)
    (hK : K (.d (.tup [])) (stS q S0 { s with l := delE s.l key }) J T TK) : GK E0 n0 m0 (.mdel kt64 x k) fr (stS q S0 s) J T TK K := by
  refine gk_mdel_old (by rw [stS_len]; exact hn) hm hx (stS_mid h) (by rw [hk]; rfl) ?_
  rw [hk, mdel_entKv, stS_setm]
  exact hK
theorem gk_stN {x v : Opd} {ns : List (List D)} {K : FD → List O → List O → Tks → Tks → Prop} {T : Tks} (h : q.In S0 T0) (hn : S0.length = n0) (hm : T.length = m0) (hx : fev E0 fr x = .d (.po q.rid 5)) (hv : (fev E0 fr v).to n0 = .gsl ns q.t1)
    (hK : K (.d .top) (stS q S0 { s with ns := ns }) J T TK) : GK E0 n0 m0 (.st 1 x v) fr (stS q S0 s) J T TK K := by
  refine gk_stpo_old (by rw [stS_len]; exact hn) hm hx (stS_rid h) hv ⟨rfl, rfl, rfl, by simp [RP.cells]⟩ ?_
  rw [show setC (q.cells s) 5 (D.gsl ns q.t1).cs = q.cells { s with ns := ns } from rfl, stS_setr (s := s) (s' := { s with ns := ns }) h rfl rfl]
  exact hK
theorem gk_stL {x v : Opd} {ls : List (List D)} {K : FD → List O → List O → Tks → Tks → Prop} {T : Tks} (h : q.In S0 T0) (hn : S0.length = n0) (hm : T.length = m0) (hx : fev E0 fr x = .d (.po q.rid 6)) (hv : (fev E0 fr v).to n0 = .gsl ls q.t2)
    (hK : K (.d .top) (stS q S0 { s with ls := ls }) J T TK) : GK E0 n0 m0 (.st 1 x v) fr (stS q S0 s) J T TK K := by
  refine gk_stpo_old (by rw [stS_len]; exact hn) hm hx (stS_rid h) hv ⟨rfl, rfl, rfl, by simp [RP.cells]⟩ ?_
  rw [show setC (q.cells s) 6 (D.gsl ls q.t2).cs = q.cells { s with ls := ls } from rfl, stS_setr (s := s) (s' := { s with ls := ls }) h rfl rfl]
  exact hK
def dnD (d : Dn) : D := .agg d.cs
theorem mgE {S : List O} {mid clk : Nat} {l : List Ent} {f : Int → Option Dn} (hM : S[mid]? = some (.map kt64 (entKv l) clk)) (hR : MapR dnD l clk f) (k : Int) :
    mgD kt64 (.agg [.int .u64 0, .int .i64 0, .int .i64 0]) false (S ++ J) (.map mid) (.int .u64 k) = some (.agg ((f k).getD ⟨0, 0, 0⟩).cs) := by
  rw [mgD_old hM rfl, if_neg (by simp), show (D.int .u64 k) = kD k from rfl, mget_entKv, hR.get]
  cases f k <;> rfl
end

def stepF (p : Po) (day : Int) (f : Int → Option Dn) (x : Iv) : Int → Option Dn :=
  if x.op = 0 ∨ p.lost (lateO day x) then fun j => if j = x.id then none else f j
  else if ((f x.id).getD ⟨0, 0, 0⟩).st < cnt' (lateO day x) p.days then fun j => if j = x.id then some ⟨x.id, cnt' (lateO day x) p.days, day⟩ else f j
  else f

theorem getE_self : ∀ {l : List Ent}, (l.map (·.1)).Nodup → ∀ e ∈ l, getE l e.1 = some e.2.1
  | [], _, e, h => by simp at h
  | a :: r, hn, e, h => by
    simp only [List.map_cons, List.nodup_cons] at hn
    rcases List.mem_cons.1 h with rfl | h
    · simp [getE]
    · rw [getE, if_neg (fun (he : e.1 = a.1) => hn.1 (he ▸ List.mem_map_of_mem (f := (·.1)) h)), getE_self hn.2 e h]
theorem MapR.sc {l : List Ent} {clk : Nat} {f : Int → Option Dn} (h : MapR dnD l clk f) (n m : Nat) : oSc n m (.map kt64 (entKv l) clk) = true := by
  simp only [oSc, entKv, List.all_map, List.all_eq_true]
  intro e he
  have h1 := getE_self h.nd e he
  rw [h.get] at h1
  obtain ⟨d, _, hd⟩ := Option.map_eq_some_iff.1 h1
  simp only [Function.comp]
  rw [← hd]
  rfl
structure RS.Ok (q : RP) (s : RS) (f : Int → Option Dn) (N : List Nt) (L : List Int) : Prop where
  map : MapR dnD s.l s.clk f
  ns : s.ns = nts N
  ls : s.ls = u64s L
theorem RS.Ok.osc {q : RP} {S0 : List O} {T0 : Tks} {s s' : RS} {f : Int → Option Dn} {N : List Nt} {L : List Int} {n m : Nat} (h : s'.Ok q f N L) (hq : q.In S0 T0) (hn : S0.length = n) (hm : T0.length = m) (hO : OSc n m (stS q S0 s)) : OSc n m (stS q S0 s') := by
  have h1 := hq.mid
  have h2 := hq.t0
  have h3 := hq.t1
  have h4 := hq.t2
  have e : stS q S0 s' = ((stS q S0 s).set q.rid (.arr (q.cells s'))).set q.mid (.map kt64 (entKv s'.l) s'.clk) := by
    have h5 : ((S0.set q.rid (.arr (q.cells s))).set q.mid (.map kt64 (entKv s.l) s.clk)).set q.rid (.arr (q.cells s')) = (S0.set q.rid (.arr (q.cells s'))).set q.mid (.map kt64 (entKv s.l) s.clk) := by rw [List.set_comm _ _ (Ne.symm hq.ne), List.set_set]
    rw [stS, stS, h5, List.set_set]
  rw [e]
  refine (hO.set (oSc_osc ?_)).set (oSc_osc (MapR.sc h.map n m))
  simp only [oSc, RP.cells, scL, D.sc, h.ns, h.ls, sc_i64s, sc_nts, sc_u64s, scLL, Bool.and_self, Bool.true_and, Bool.and_true, Bool.and_eq_true, decide_eq_true_eq]
  omega

structure OneIn (q : RP) (x : Iv) : Prop where
  p : q.p.R
  ok : q.p.ok
  day : 1 ≤ q.day ∧ q.day ≤ 3652059
  xr : x.R
  xok : x.ok

set_option maxHeartbeats 1000000 in
theorem one {g : RP} {S0 : List O} {T0 : Tks} {s : RS} {f : Int → Option Dn} {N : List Nt} {L : List Int} {x : Iv} (hq : g.In S0 T0) (hi : OneIn g x) (hs : s.Ok g f N L) (hN : N.length ≤ 60) (hL : L.length ≤ 60) :
    ACalls E0 28 [.po g.rid 0, x.d] (stS g S0 s) (stT g T0 s) (fun r S' tk' => r = .tup [] ∧ ∃ s', s'.Ok g (stepF g.p g.day f x) (N ++ newN g.p g.day ((f x.id).getD ⟨0, 0, 0⟩) x) (L ++ newL g.p g.day x) ∧ s'.l.length ≤ s.l.length + 1 ∧ S' = stS g S0 s' ∧ tk' = stT g T0 s') := by
  have hlt := Late x hi.xr g.day (by have := hi.day; unfold I64; omega)
  rw [lateD, if_pos ⟨hi.xok, hi.day⟩] at hlt
  have hop := Open x hi.xr
  have hsg := dunStage g.p hi.p (lateO g.day x)
  rw [stD, if_pos ⟨hi.ok, by unfold lateO; omega⟩] at hsg
  have hnl : s.ns.length = N.length := by rw [hs.ns, nts_len]
  have hll : s.ls.length = L.length := by rw [hs.ls, u64s_len]
  have okA : x.op = 0 → RS.Ok g ⟨delE s.l x.id, s.clk, s.ns, s.ls⟩ (stepF g.p g.day f x) (N ++ newN g.p g.day ((f x.id).getD ⟨0, 0, 0⟩) x) (L ++ newL g.p g.day x) := fun h0 => by
    rw [stepF, if_pos (.inl h0), newN, if_pos h0, newL, if_pos h0, List.append_nil, List.append_nil]
    exact ⟨hs.map.del _, hs.ns, hs.ls⟩
  have okB : ¬ x.op = 0 → g.p.lost (lateO g.day x) → RS.Ok g ⟨delE s.l x.id, s.clk, s.ns, s.ls ++ [[.int .u64 x.id]]⟩ (stepF g.p g.day f x) (N ++ newN g.p g.day ((f x.id).getD ⟨0, 0, 0⟩) x) (L ++ newL g.p g.day x) := fun h0 h1 => by
    rw [stepF, if_pos (.inr h1), newN, if_neg h0, if_pos h1, newL, if_neg h0, if_pos h1, List.append_nil]
    exact ⟨hs.map.del _, hs.ns, by simp only [hs.ls, u64s, List.map_append]; rfl⟩
  have okD : ¬ x.op = 0 → ¬ g.p.lost (lateO g.day x) → ((f x.id).getD ⟨0, 0, 0⟩).st < cnt' (lateO g.day x) g.p.days → RS.Ok g ⟨setE s.l s.clk x.id (.agg (Dn.cs ⟨x.id, cnt' (lateO g.day x) g.p.days, g.day⟩)), clkE s.l s.clk x.id, s.ns ++ [[.int .u64 x.id, .int .u64 x.cu, .int .i64 (cnt' (lateO g.day x) g.p.days), .int .i64 (max (g.day - x.due) 0), .int .i64 x.op]], s.ls⟩ (stepF g.p g.day f x) (N ++ newN g.p g.day ((f x.id).getD ⟨0, 0, 0⟩) x) (L ++ newL g.p g.day x) := fun h0 h1 h2 => by
    rw [stepF, if_neg (by rintro (h | h); exact h0 h; exact h1 h), if_pos h2, newN, if_neg h0, if_neg h1, if_pos h2, newL, if_neg h0, if_neg h1, List.append_nil]
    exact ⟨hs.map.set _ ⟨x.id, cnt' (lateO g.day x) g.p.days, g.day⟩, by simp only [hs.ns, nts, List.map_append]; rfl, hs.ls⟩
  have okE : ¬ x.op = 0 → ¬ g.p.lost (lateO g.day x) → ¬ ((f x.id).getD ⟨0, 0, 0⟩).st < cnt' (lateO g.day x) g.p.days → RS.Ok g s (stepF g.p g.day f x) (N ++ newN g.p g.day ((f x.id).getD ⟨0, 0, 0⟩) x) (L ++ newL g.p g.day x) := fun h0 h1 h2 => by
    rw [stepF, if_neg (by rintro (h | h); exact h0 h; exact h1 h), if_neg h2, newN, if_neg h0, if_neg h1, if_neg h2, newL, if_neg h0, if_neg h1, List.append_nil, List.append_nil]
    exact hs
  refine ACalls.fgo c28 rfl fun hS => ?_
  repeat' first | with_reducible refine fzD_ite (fun q => ?_) (fun q => ?_) | ((try conv => whnf); first | refine bs_d (fun q => ?_) (fun q => ?_) <;> (try simp (disch := ((try unfold I64); omega)) only [wi64_id, td] at q) | refine bs_n ?_ | refine bs_i (fun q => ?_) (fun q => ?_) | refine ckz (hlt) ?_ | refine cq (hlt) ?_ | refine ckz (hop) ?_ | refine cq (hop) ?_ | refine ckz (hsg) ?_ | refine cq (hsg) ?_ | refine pK_i (ldO_old (stS_rid hq) rfl) ?_ | refine pK_i (mgE (stS_mid hq) hs.map _) ?_ | refine gk_mdR (key := x.id) hq stS_len.symm (by first | rfl | simp [stT_len]) rfl rfl ?_ | refine gk_app_old (stS_len.trans stS_len.symm) (by first | rfl | simp [stT_len]) rfl rfl (stT_2 hq) (by simp) (by simp only [List.length_cons, List.length_nil, maxLen]; omega) ?_ | refine gk_app_old (stS_len.trans stS_len.symm) (by first | rfl | simp [stT_len]) rfl rfl (stT_1 hq) (by simp) (by simp only [List.length_cons, List.length_nil, maxLen]; omega) ?_ | refine gk_msR (key := x.id) (d := ⟨x.id, cnt' (lateO g.day x) g.p.days, g.day⟩) hq stS_len.symm (by first | rfl | simp [stT_len]) rfl rfl rfl ?_ | refine gk_stN hq stS_len.symm (by first | rfl | simp [stT_len]) rfl rfl ?_ | refine gk_stL hq stS_len.symm (by first | rfl | simp [stT_len]) rfl rfl ?_ | refine ffin (.tup []) (stS_len.trans stS_len.symm) (by first | rfl | simp [stT_len]) ?_ (Sub.refl _) rfl ⟨rfl, ?_⟩ | refine eqk rfl ?_ | refine ffin _ rfl rfl hS (Sub.refl _) rfl ⟨?_, rfl, rfl⟩)
  · exact RS.Ok.osc (okA (by assumption)) hq stS_len.symm stT_len.symm hS
  · exact ⟨_, okA (by assumption), by have := delE_len s.l x.id; simp only; omega, rfl, rfl⟩
  · exact RS.Ok.osc (okB (by assumption) (by assumption)) hq stS_len.symm stT_len.symm hS
  · exact ⟨_, okB (by assumption) (by assumption), by have := delE_len s.l x.id; simp only; omega, rfl, stT_set2⟩
  · exact RS.Ok.osc (okA (by assumption)) hq stS_len.symm stT_len.symm hS
  · exact ⟨_, okA (by assumption), by have := delE_len s.l x.id; simp only; omega, rfl, rfl⟩
  · exact RS.Ok.osc (okD (by assumption) (by assumption) (by assumption)) hq stS_len.symm stT_len.symm hS
  · exact ⟨_, okD (by assumption) (by assumption) (by assumption), by have := setE_len s.l s.clk x.id (.agg (Dn.cs ⟨x.id, cnt' (lateO g.day x) g.p.days, g.day⟩)); simp only; omega, rfl, stT_set1 hq⟩
  · exact hS
  · exact ⟨_, okE (by assumption) (by assumption) (by assumption), by omega, rfl, rfl⟩
def stepsF (p : Po) (day : Int) : (Int → Option Dn) → List Iv → Int → Option Dn
  | f, [] => f
  | f, x :: r => stepsF p day (stepF p day f x) r
def ntsF (p : Po) (day : Int) : (Int → Option Dn) → List Iv → List Nt
  | f, [] => []
  | f, x :: r => newN p day ((f x.id).getD ⟨0, 0, 0⟩) x ++ ntsF p day (stepF p day f x) r
theorem stepsF_app (p : Po) (day : Int) : ∀ (f : Int → Option Dn) (l r : List Iv), stepsF p day f (l ++ r) = stepsF p day (stepsF p day f l) r
  | f, [], r => rfl
  | f, x :: l, r => by simp only [List.cons_append, stepsF, stepsF_app p day _ l r]
theorem ntsF_app (p : Po) (day : Int) : ∀ (f : Int → Option Dn) (l r : List Iv), ntsF p day f (l ++ r) = ntsF p day f l ++ ntsF p day (stepsF p day f l) r
  | f, [], r => rfl
  | f, x :: l, r => by simp only [List.cons_append, ntsF, stepsF, ntsF_app p day _ l r, List.append_assoc]
theorem ntsF_len (p : Po) (day : Int) : ∀ (f : Int → Option Dn) (l : List Iv), (ntsF p day f l).length ≤ l.length
  | f, [] => Nat.le_refl _
  | f, x :: l => by
    have := newN_len p day ((f x.id).getD ⟨0, 0, 0⟩) x
    have := ntsF_len p day (stepF p day f x) l
    simp only [ntsF, List.length_append, List.length_cons]; omega
theorem runL_len (p : Po) (day : Int) (l : List Iv) : (runL p day l).length ≤ l.length := fm_len (fun x => newL_len ..) l

section
variable {g : RP} {S0 J : List O} {T0 TK : Tks} {s : RS}
theorem RP.In.app (h : g.In S0 T0) : g.In (S0 ++ J) (T0 ++ TK) := by
  obtain ⟨h1, h2, h3, h4, h5, h6, h7⟩ := h
  exact ⟨by simp; omega, by simp; omega, h3, by simp; omega, by simp; omega, by simp; omega, h7⟩
theorem stS_app (h : g.In S0 T0) : stS g (S0 ++ J) s = stS g S0 s ++ J := by
  rw [stS, List.set_append_left _ _ h.rid, List.set_append_left _ _ (by rw [List.length_set]; exact h.mid)]; rfl
theorem stT_app (h : g.In S0 T0) : stT g (T0 ++ TK) s = stT g T0 s ++ TK := by
  rw [stT, List.set_append_left _ _ h.t1, List.set_append_left _ _ (by rw [List.length_set]; exact h.t2)]; rfl
end

structure EX where
  i : Nat
  s : RS
structure EX.P (g : RP) (l : List Iv) (s0 : RS) (f : Int → Option Dn) (N : List Nt) (L : List Int) (e : EX) : Prop where
  i : e.i ≤ l.length
  ok : e.s.Ok g (stepsF g.p g.day f (l.take e.i)) (N ++ ntsF g.p g.day f (l.take e.i)) (L ++ runL g.p g.day (l.take e.i))
  len : e.s.l.length ≤ s0.l.length + e.i

set_option maxHeartbeats 1000000 in
theorem each {g : RP} {S0 : List O} {T0 : Tks} {s : RS} {f : Int → Option Dn} {N : List Nt} {L : List Int} {l : List Iv} (hq : g.In S0 T0) (hi : ∀ x ∈ l, OneIn g x) (hs : s.Ok g f N L) (hl : l.length ≤ 40) (hN : N.length ≤ 10) (hL : L.length ≤ 10) :
    ACalls E0 27 [.sl (ivs l), .bm 28 [.po g.rid 0] []] (stS g S0 s) (stT g T0 s) (fun r S' tk' => r = .tup [] ∧ ∃ s', s'.Ok g (stepsF g.p g.day f l) (N ++ ntsF g.p g.day f l) (L ++ runL g.p g.day l) ∧ s'.l.length ≤ s.l.length + l.length ∧ S' = stS g S0 s' ∧ tk' = stT g T0 s') := by
  have hlen := ivs_len l
  have hrid := hq.rid
  refine ACalls.fgo c27 rfl fun hS => ?_
  repeat' first | with_reducible refine fzD_ite (fun q => ?_) (fun q => ?_) | ((try conv => whnf); first | refine bs_d (fun q => ?_) (fun q => ?_) | refine bs_n ?_ | refine bs_i (fun q => ?_) (fun q => ?_) | refine eqk rfl ?_ | refine ffin _ rfl rfl hS (Sub.refl _) rfl ⟨?_, rfl, rfl⟩)
  refine floopT (α := EX) (EX.P g l s f N L) (fun e => l.length - e.i) (fun e => [(8, .d (.int .i64 e.i)), (7, .d (.int .i64 l.length)), (6, .d (.sl (ivs l))), (1, .d (.bm 28 [.po g.rid 0] []))])
    (fun e => stS g S0 e.s) (fun _ => []) (fun e => stT g T0 e.s) (fun _ => []) (fun e he => ⟨stS_len.trans stS_len.symm, stT_len.trans stT_len.symm, RS.Ok.osc he.ok hq stS_len.symm stT_len.symm hS⟩) ⟨0, s⟩ ⟨Nat.zero_le _, by simpa [stepsF, ntsF, runL] using hs, Nat.le_refl _⟩ rfl rfl (fstep_sub ⟨Sub.refl _, Sub.int (by rw [hlen]), Sub.refl _, Sub.refl _, trivial⟩) ?_
  intro e he
  have h2 := he.i
  have h3 := he.len
  have b1 := ntsF_len g.p g.day f (l.take e.i)
  have b2 := runL_len g.p g.day (l.take e.i)
  have b3 : (l.take e.i).length ≤ e.i := List.length_take_le ..
  repeat' first | with_reducible refine fzD_ite (fun q => ?_) (fun q => ?_) | ((try conv => whnf); first | refine bs_d (fun q => ?_) (fun q => ?_) <;> (try simp (disch := ((try unfold I64); omega)) only [wi64_id, td] at q) | refine bs_n ?_ | refine bs_i (fun q => ?_) (fun q => ?_) | refine pK_i (iaD_iv (i := e.i) (by first | rfl | omega | (refine Int.sub_eq_zero.mp ?_; simp (disch := ((try unfold I64); omega)) only [wi64_id, td]; omega)) (by omega)) ?_ | (refine ckG (by rw [← stS_app hq, ← stT_app hq]; exact one hq.app (hi l[e.i]! (mem_at (by omega))) he.ok (by simp only [List.length_append]; omega) (by simp only [List.length_append]; omega)) ?_; rintro r S' tk' ⟨rfl, s', ok', hl', rfl, rfl⟩; refine ⟨stS g S0 s', _, stT g T0 s', _, stS_app hq, stT_app hq, stS_len.trans stS_len.symm, stT_len.trans stT_len.symm, ?_⟩) | refine ffin (.tup []) (stS_len.trans stS_len.symm) (stT_len.trans stT_len.symm) (RS.Ok.osc he.ok hq stS_len.symm stT_len.symm hS) (Sub.refl _) rfl ⟨rfl, ?_⟩ | refine eqk rfl ?_ | refine ffin _ rfl rfl hS (Sub.refl _) rfl ⟨?_, rfl, rfl⟩)
  · have hi2 : e.i < l.length := by omega
    conv => whnf
    refine fnextT (α := EX) ⟨e.i + 1, s'⟩ ⟨by simp only; omega, ?_, by simp only; omega⟩ (by simp only; omega) rfl rfl ?_
    · simp only
      rw [take_sn hi2, stepsF_app, ntsF_app, runL, List.flatMap_append, ← List.append_assoc, ← List.append_assoc]
      simpa [stepsF, ntsF, runL] using ok'
    · exact fstep_drop (J' := []) (Jx := [_]) (TK' := []) (TKx := []) rfl rfl ⟨Sub.int (by first | rfl | omega | (refine Int.sub_eq_zero.mp ?_; simp (disch := ((try unfold I64); omega)) only [wi64_id, td]; omega)), Sub.refl _, Sub.refl _, Sub.refl _, trivial⟩ (by simp [frSc, frD, FD.to, D.sc, scL, sc_ivs, stS_len]; omega) rfl
  · have e1 : e.i = l.length := by omega
    have ho := he.ok
    rw [e1, List.take_length] at ho
    exact ⟨_, ho, by omega, rfl, rfl⟩
abbrev z3 : Dn := ⟨0, 0, 0⟩
theorem stepF_ne {p : Po} {day : Int} {f : Int → Option Dn} {x : Iv} {k : Int} (h : k ≠ x.id) : stepF p day f x k = f k := by
  unfold stepF; split
  · exact if_neg h
  · split
    · exact if_neg h
    · rfl
theorem stepF_self (p : Po) (day : Int) (f : Int → Option Dn) (x : Iv) : stepF p day f x x.id = if x.op = 0 then none else if p.lost (lateO day x) then none else if ((f x.id).getD z3).st < cnt' (lateO day x) p.days then some ⟨x.id, cnt' (lateO day x) p.days, day⟩ else f x.id := by
  unfold stepF
  by_cases h0 : x.op = 0
  · rw [if_pos (.inl h0)]; simp [h0]
  · by_cases h1 : p.lost (lateO day x)
    · rw [if_pos (.inr h1)]; simp [h0, h1]
    · have h2 : ¬ (x.op = 0 ∨ p.lost (lateO day x)) := by rintro (h | h); exact h0 h; exact h1 h
      rw [if_neg h2, if_neg h0, if_neg h1]
      split
      · exact if_pos rfl
      · rfl
theorem fmap_congr {α β : Type} {f g : α → Option β} : ∀ {l : List α}, (∀ x ∈ l, f x = g x) → l.filterMap f = l.filterMap g
  | [], _ => rfl
  | x :: r, h => by rw [List.filterMap_cons, List.filterMap_cons, h x (List.mem_cons_self ..), fmap_congr fun y hy => h y (List.mem_cons_of_mem _ hy)]
theorem inc_lt : ∀ {a : Int} {l : List Iv}, inc a (l.map Iv.id) → ∀ x ∈ l, a < x.id
  | a, y :: r, h, x, hx => by
    rcases List.mem_cons.1 hx with rfl | hx
    · exact h.1
    · have := inc_lt h.2 x hx; have := h.1; omega
theorem ntsF_eq (p : Po) (day : Int) : ∀ (l : List Iv) (a : Int) (f : Int → Option Dn), inc a (l.map Iv.id) → ntsF p day f l = l.flatMap fun x => newN p day ((f x.id).getD z3) x
  | [], _, _, _ => rfl
  | x :: r, a, f, h => by
    rw [ntsF, List.flatMap_cons, ntsF_eq p day r x.id _ h.2]
    congr 1
    have : ∀ y ∈ r, newN p day ((stepF p day f x y.id).getD z3) y = newN p day ((f y.id).getD z3) y := fun y hy => by
      rw [stepF_ne (by have := inc_lt h.2 y hy; omega)]
    rw [List.flatMap_def, List.flatMap_def, List.map_congr_left this]
theorem stepsF_ne (p : Po) (day : Int) : ∀ (l : List Iv) (f : Int → Option Dn) (k : Int), k ∉ l.map Iv.id → stepsF p day f l k = f k
  | [], _, _, _ => rfl
  | x :: r, f, k, h => by
    simp only [List.map_cons, List.mem_cons, not_or] at h
    rw [stepsF, stepsF_ne p day r _ k h.2, stepF_ne h.1]
theorem inc_notin {x : Iv} {r : List Iv} (h : inc x.id (r.map Iv.id)) : x.id ∉ r.map Iv.id := fun hm => by
  obtain ⟨y, hy, he⟩ := List.mem_map.1 hm
  have := inc_lt h y hy; omega
theorem newD_opt {p : Po} {day : Int} {f : Int → Option Dn} {x : Iv} (h : ∀ d, f x.id = some d → 0 < d.st) : newD p day ((f x.id).getD z3) x = (stepF p day f x x.id).toList := by
  rw [stepF_self]
  unfold newD
  by_cases h0 : x.op = 0
  · rw [if_pos h0, if_pos h0]; rfl
  rw [if_neg h0, if_neg h0]
  by_cases h1 : p.lost (lateO day x)
  · rw [if_pos h1, if_pos h1]; rfl
  rw [if_neg h1, if_neg h1]
  by_cases h2 : ((f x.id).getD z3).st < cnt' (lateO day x) p.days
  · rw [if_pos h2, if_pos h2]; rfl
  rw [if_neg h2, if_neg h2]
  cases hf : f x.id with
  | none => rfl
  | some d => rw [Option.getD_some, if_pos (h d hf)]; rfl
theorem runF_eq (p : Po) (day : Int) : ∀ (l : List Iv) (a : Int) (f : Int → Option Dn), inc a (l.map Iv.id) → (∀ k d, f k = some d → 0 < d.st) →
    (l.flatMap fun x => newD p day ((f x.id).getD z3) x) = l.filterMap fun x => stepsF p day f l x.id
  | [], _, _, _, _ => rfl
  | x :: r, a, f, h, hp => by
    have h1 := runF_eq p day r x.id f h.2 hp
    have e0 : stepsF p day f (x :: r) x.id = stepF p day f x x.id := stepsF_ne p day r _ _ (inc_notin h.2)
    have e1 : ∀ y ∈ r, stepsF p day f (x :: r) y.id = stepsF p day f r y.id := fun y hy => by
      have hne : y.id ≠ x.id := by have := inc_lt h.2 y hy; omega
      have gen : ∀ (r : List Iv) (f f' : Int → Option Dn) (k : Int), f k = f' k → stepsF p day f r k = stepsF p day f' r k := fun r => by
        induction r with
        | nil => intro f f' k hk; exact hk
        | cons z r ih =>
          intro f f' k hk
          refine ih _ _ k ?_
          by_cases hz : k = z.id
          · subst hz; unfold stepF; rw [hk]; repeat' split
            all_goals simp_all
          · rw [stepF_ne hz, stepF_ne hz, hk]
      exact gen r _ _ _ (stepF_ne hne)
    rw [List.flatMap_cons, List.filterMap_cons, e0, newD_opt (hp x.id), h1]
    have e2 : r.filterMap (fun x_1 => stepsF p day f (x :: r) x_1.id) = r.filterMap fun x => stepsF p day f r x.id := by
      exact fmap_congr fun y hy => e1 y hy
    rw [e2]
    cases stepF p day f x x.id <;> rfl
theorem inc_rise : ∀ {a : Int} {l : List Int}, inc a l → l.Pairwise (· < ·)
  | a, [], _ => .nil
  | a, n :: r, h => .cons (inc_pos h.2) (inc_rise h.2)
theorem fm_map : ∀ (l : List Iv) (f : Int → Option Dn), ((l.map Iv.id).filter fun k => (f k).isSome).map (fun k => (f k).getD z3) = l.filterMap fun x => f x.id
  | [], _ => rfl
  | x :: r, f => by
    simp only [List.map_cons, List.filter_cons, List.filterMap_cons]
    cases h : f x.id with
    | none => simpa using fm_map r f
    | some d => simp [h, fm_map r f]
theorem keys_tell {l : List Iv} {a : Int} {f : Int → Option Dn} {L : List Int} (hl : inc a (l.map Iv.id)) (hL : L.Pairwise (· < ·)) (hm : ∀ k, k ∈ L ↔ (f k).isSome = true) (hk : ∀ k, (f k).isSome = true → k ∈ l.map Iv.id) :
    L.map (fun k => (f k).getD z3) = l.filterMap fun x => f x.id := by
  rw [← fm_map, rising_ext hL ((inc_rise hl).filter _) fun k => ?_]
  rw [List.mem_filter, hm]
  exact ⟨fun h => ⟨hk k h, h⟩, fun h => h.2⟩

def fD : List Dn → Int → Option Dn
  | [], _ => none
  | d :: r, k => if d.inv = k then some d else fD r k
theorem fD_of : ∀ (l : List Dn) (k : Int), (fD l k).getD z3 = ofL l k
  | [], _ => rfl
  | d :: r, k => by simp only [fD, ofL]; split; rfl; exact fD_of r k
theorem fD_mem : ∀ {l : List Dn} {k : Int} {d : Dn}, fD l k = some d → d ∈ l ∧ d.inv = k
  | e :: r, k, d, h => by
    simp only [fD] at h
    split at h
    · cases h; exact ⟨List.mem_cons_self .., by assumption⟩
    · have := fD_mem h; exact ⟨List.mem_cons_of_mem _ this.1, this.2⟩
theorem fD_sn : ∀ (l : List Dn) (d : Dn), d.inv ∉ l.map Dn.inv → ∀ k, fD (l ++ [d]) k = if k = d.inv then some d else fD l k
  | [], d, _, k => by simp only [List.nil_append, fD]; by_cases h : d.inv = k; (rw [if_pos h, if_pos h.symm]); (rw [if_neg h, if_neg (fun e => h e.symm)])
  | e :: r, d, h, k => by
    simp only [List.map_cons, List.mem_cons, not_or] at h
    simp only [List.cons_append, fD, fD_sn r d h.2 k]
    by_cases h1 : e.inv = k
    · rw [if_pos h1, if_pos h1, if_neg (by omega)]
    · rw [if_neg h1, if_neg h1]
theorem run_plain {p : Po} {day : Int} {l : List Iv} {duns : List Dn} (hL : mayL l) (hD : mayD l duns) {L : List Int} (hr : L.Pairwise (· < ·)) (hm : ∀ k, k ∈ L ↔ (stepsF p day (fD duns) l k).isSome = true) :
    L.map (fun k => (stepsF p day (fD duns) l k).getD z3) = runD p duns day l ∧ ntsF p day (fD duns) l = runN p duns day l := by
  constructor
  · rw [keys_tell hL.2 hr hm fun k hk => ?_]
    · rw [← runF_eq p day l 0 (fD duns) hL.2 fun k d hd => by have := (hD.2 d (fD_mem hd).1).2.1; omega]
      simp only [fD_of, runD]
    · refine Classical.byContradiction fun hn => ?_
      rw [stepsF_ne p day l _ k hn] at hk
      obtain ⟨d, hd⟩ := Option.isSome_iff_exists.1 hk
      have := fD_mem hd
      exact hn (this.2 ▸ (hD.2 d this.1).1)
  · rw [ntsF_eq p day l 0 _ hL.2]
    simp only [fD_of, runN]
theorem c13 : cFun E0.P 13 = some ⟨139, [(8, some (3, true)), (9, none)], .seq (.rg [⟨some 4, none, .box (.t 0) 24⟩, ⟨some 8, none, .alloc [.nilsl, .nilsl, .nilsl] 50⟩, ⟨some 9, none, .mv (.k (.int .i64 0))⟩]) (.seq (.seq (.rg [⟨some 19, none, .ld 2 true (.t 4)⟩, ⟨some 20, none, .call 15 [.t 19]⟩, ⟨some 21, none, .bin .neq .leaf (.t 20) (.k (.int .i64 0))⟩, ⟨some 22, none, .mv (.t 21)⟩, ⟨some 23, some (22, false), .mv (.t 3)⟩, ⟨some 24, some (22, false), .call 17 [.t 23]⟩, ⟨some 25, some (22, false), .un .not (.t 24)⟩, ⟨some 26, none, .pick (.t 22) (.k (.bool true)) (.t 25)⟩]) (.cond (.t 26) (.seq (.rg [⟨some 27, none, .build [.nilsl, .nilsl, .nilsl] []⟩, ⟨none, none, .st 3 (.t 8) (.t 27)⟩, ⟨some 9, none, .mv (.k (.int .i64 2))⟩]) .ret) .skip)) (.seq (.rg [⟨some 28, none, .mkmap (KT.lf (KLf.i .u64))⟩, ⟨some 10, none, .mv (.t 28)⟩]) (.seq (.rg [⟨some 11, none, .mv (.k (.int .u64 0))⟩]) (.seq (.seq (.rg [⟨some 29, none, .mv (.t 2)⟩, ⟨some 30, none, .len 1 (.t 29)⟩, ⟨some 31, none, .mv (.k (.int .i64 0))⟩]) (.block 0 (.loop (.seq (.rg [⟨some 32, none, .bin .lss .leaf (.t 31) (.t 30)⟩]) (.seq (.cond (.t 32) .skip (.exit 0)) (.seq (.block 1 (.seq (.rg [⟨some 33, none, .ia 11 (.t 29) (.t 31)⟩, ⟨some 34, none, .ld 11 true (.t 33)⟩, ⟨some 13, none, .alloc [.int .u64 0, .int .u64 0, .int .u64 0, .int .i64 0, .int .i64 0, .int .i64 0, .int .i64 0, .int .i64 0, .int .i64 0, .int .i64 0, .int .i64 0] 27⟩, ⟨none, none, .st 11 (.t 13) (.t 34)⟩]) (.seq (.seq (.rg [⟨some 35, none, .ld 11 true (.t 13)⟩, ⟨some 36, none, .call 26 [.t 35]⟩, ⟨some 37, none, .bin .neq .leaf (.t 36) (.k (.int .i64 0))⟩, ⟨some 38, none, .mv (.t 37)⟩, ⟨some 39, some (38, false), .fa 0 (.t 13)⟩, ⟨some 40, some (38, false), .ld 1 false (.t 39)⟩, ⟨some 41, some (38, false), .mv (.t 11)⟩, ⟨some 42, some (38, false), .bin .leq .leaf (.t 40) (.t 41)⟩, ⟨some 43, none, .pick (.t 38) (.k (.bool true)) (.t 42)⟩]) (.cond (.t 43) (.seq (.rg [⟨some 44, none, .build [.nilsl, .nilsl, .nilsl] []⟩, ⟨none, none, .st 3 (.t 8) (.t 44)⟩, ⟨some 9, none, .mv (.k (.int .i64 2))⟩]) .ret) .skip)) (.seq (.rg [⟨some 45, none, .fa 0 (.t 13)⟩, ⟨some 46, none, .ld 1 false (.t 45)⟩, ⟨some 11, none, .mv (.t 46)⟩]) (.rg [⟨some 47, none, .mv (.t 10)⟩, ⟨some 48, none, .fa 0 (.t 13)⟩, ⟨some 49, none, .ld 1 false (.t 48)⟩, ⟨some 50, none, .mget (KT.lf (KLf.i .u64)) (.int .i64 0) false (.t 47) (.t 49)⟩, ⟨some 51, none, .bin .add .leaf (.t 50) (.k (.int .i64 1))⟩, ⟨none, none, .mset (KT.lf (KLf.i .u64)) (.t 47) (.t 49) (.t 51)⟩]))))) (.rg [⟨some 52, none, .bin .add .leaf (.t 31) (.k (.int .i64 1))⟩, ⟨some 31, none, .mv (.t 52)⟩]))))))) (.seq (.rg [⟨some 53, none, .ld 2 true (.t 4)⟩, ⟨some 54, none, .mv (.t 3)⟩, ⟨some 55, none, .mkmap (KT.lf (KLf.i .u64))⟩, ⟨some 56, none, .build [.nilsl, .int .i64 0, .int .i64 0, .nilmap, .nilsl, .nilsl, .nilsl] [(0, 2, .t 53), (2, 1, .t 54), (3, 1, .t 55)]⟩, ⟨some 57, none, .box (.t 56) 80⟩, ⟨some 14, none, .mv (.t 57)⟩]) (.seq (.rg [⟨some 11, none, .mv (.k (.int .u64 0))⟩]) (.seq (.seq (.rg [⟨some 58, none, .mv (.t 1)⟩, ⟨some 59, none, .len 1 (.t 58)⟩, ⟨some 60, none, .mv (.k (.int .i64 0))⟩]) (.block 2 (.loop (.seq (.rg [⟨some 61, none, .bin .lss .leaf (.t 60) (.t 59)⟩]) (.seq (.cond (.t 61) .skip (.exit 2)) (.seq (.block 3 (.seq (.rg [⟨some 62, none, .ia 3 (.t 58) (.t 60)⟩, ⟨some 63, none, .ld 3 true (.t 62)⟩, ⟨some 16, none, .alloc [.int .u64 0, .int .i64 0, .int .i64 0] 55⟩, ⟨none, none, .st 3 (.t 16) (.t 63)⟩]) (.seq (.seq (.rg [⟨some 64, none, .fa 0 (.t 16)⟩, ⟨some 65, none, .ld 1 false (.t 64)⟩, ⟨some 66, none, .mv (.t 11)⟩, ⟨some 67, none, .bin .leq .leaf (.t 65) (.t 66)⟩, ⟨some 68, none, .mv (.t 67)⟩, ⟨some 69, some (68, false), .mv (.t 10)⟩, ⟨some 70, some (68, false), .fa 0 (.t 16)⟩, ⟨some 71, some (68, false), .ld 1 false (.t 70)⟩, ⟨some 72, some (68, false), .mget (KT.lf (KLf.i .u64)) (.int .i64 0) false (.t 69) (.t 71)⟩, ⟨some 73, some (68, false), .bin .eql .leaf (.t 72) (.k (.int .i64 0))⟩, ⟨some 74, none, .pick (.t 68) (.k (.bool true)) (.t 73)⟩, ⟨some 75, none, .mv (.t 74)⟩, ⟨some 76, some (75, false), .fa 1 (.t 16)⟩, ⟨some 77, some (75, false), .ld 1 false (.t 76)⟩, ⟨some 78, some (75, false), .bin .lss .leaf (.t 77) (.k (.int .i64 1))⟩, ⟨some 79, none, .pick (.t 75) (.k (.bool true)) (.t 78)⟩, ⟨some 80, none, .mv (.t 79)⟩, ⟨some 81, some (80, false), .fa 1 (.t 16)⟩, ⟨some 82, some (80, false), .ld 1 false (.t 81)⟩, ⟨some 83, some (80, false), .bin .gtr .leaf (.t 82) (.k (.int .i64 8))⟩, ⟨some 84, none, .pick (.t 80) (.k (.bool true)) (.t 83)⟩, ⟨some 85, none, .mv (.t 84)⟩, ⟨some 86, some (85, false), .fa 2 (.t 16)⟩, ⟨some 87, some (85, false), .ld 1 false (.t 86)⟩, ⟨some 88, some (85, false), .call 17 [.t 87]⟩, ⟨some 89, some (85, false), .un .not (.t 88)⟩, ⟨some 90, none, .pick (.t 85) (.k (.bool true)) (.t 89)⟩]) (.cond (.t 90) (.seq (.rg [⟨some 91, none, .build [.nilsl, .nilsl, .nilsl] []⟩, ⟨none, none, .st 3 (.t 8) (.t 91)⟩, ⟨some 9, none, .mv (.k (.int .i64 2))⟩]) .ret) .skip)) (.seq (.rg [⟨some 92, none, .fa 0 (.t 16)⟩, ⟨some 93, none, .ld 1 false (.t 92)⟩, ⟨some 11, none, .mv (.t 93)⟩]) (.rd [(⟨some 94, none, .mv (.t 14)⟩, none), (⟨some 95, none, .nilck (.t 94)⟩, none), (⟨some 96, none, .fa 3 (.t 95)⟩, none), (⟨some 97, none, .ld 1 false (.t 96)⟩, none), (⟨some 98, none, .fa 0 (.t 16)⟩, none), (⟨some 99, none, .ld 1 false (.t 98)⟩, none), (⟨some 100, none, .ld 3 true (.t 16)⟩, none), (⟨none, none, .mset (KT.lf (KLf.i .u64)) (.t 97) (.t 99) (.t 100)⟩, some [])]))))) (.rg [⟨some 101, none, .bin .add .leaf (.t 60) (.k (.int .i64 1))⟩, ⟨some 60, none, .mv (.t 101)⟩]))))))) (.seq (.rg [⟨some 102, none, .mv (.t 2)⟩, ⟨some 103, none, .mv (.t 14)⟩, ⟨some 104, none, .mkbm 28 [.t 103] []⟩, ⟨some 105, none, .call 27 [.t 102, .t 104]⟩]) (.seq (.seq (.rg [⟨some 106, none, .mv (.t 14)⟩, ⟨some 107, none, .nilck (.t 106)⟩, ⟨some 108, none, .fa 3 (.t 107)⟩, ⟨some 109, none, .ld 1 false (.t 108)⟩, ⟨some 110, none, .call 30 [.t 109]⟩, ⟨some 111, none, .call 29 [.t 110]⟩, ⟨some 112, none, .len 1 (.t 111)⟩, ⟨some 113, none, .mv (.k (.int .i64 0))⟩]) (.block 4 (.loop (.seq (.rg [⟨some 114, none, .bin .lss .leaf (.t 113) (.t 112)⟩]) (.seq (.cond (.t 114) .skip (.exit 4)) (.seq (.block 5 (.seq (.rg [⟨some 115, none, .ia 1 (.t 111) (.t 113)⟩, ⟨some 116, none, .ld 1 false (.t 115)⟩, ⟨some 18, none, .mv (.t 116)⟩]) (.rd [(⟨some 117, none, .mv (.t 14)⟩, none), (⟨some 118, none, .mv (.t 14)⟩, none), (⟨some 119, none, .nilck (.t 118)⟩, none), (⟨some 120, none, .fa 4 (.t 119)⟩, none), (⟨some 121, none, .fa 0 (.t 120)⟩, none), (⟨some 122, none, .ld 1 false (.t 121)⟩, none), (⟨some 123, none, .mv (.t 14)⟩, none), (⟨some 124, none, .nilck (.t 123)⟩, none), (⟨some 125, none, .fa 3 (.t 124)⟩, none), (⟨some 126, none, .ld 1 false (.t 125)⟩, none), (⟨some 127, none, .mv (.t 18)⟩, none), (⟨some 128, none, .mget (KT.lf (KLf.i .u64)) (.agg [.int .u64 0, .int .i64 0, .int .i64 0]) false (.t 126) (.t 127)⟩, none), (⟨some 129, none, .buildS 1 3 [.int .u64 0, .int .i64 0, .int .i64 0] [(0, .t 128)] 55⟩, none), (⟨some 130, none, .app 46 55 3 24 [.int .u64 0, .int .i64 0, .int .i64 0] (.t 122) (.t 129)⟩, some []), (⟨some 131, none, .nilck (.t 117)⟩, none), (⟨some 132, none, .fa 4 (.t 131)⟩, none), (⟨some 133, none, .fa 0 (.t 132)⟩, none), (⟨none, none, .st 1 (.t 133) (.t 130)⟩, some [])]))) (.rg [⟨some 134, none, .bin .add .leaf (.t 113) (.k (.int .i64 1))⟩, ⟨some 113, none, .mv (.t 134)⟩]))))))) (.seq (.rg [⟨some 135, none, .mv (.t 14)⟩, ⟨some 136, none, .nilck (.t 135)⟩, ⟨some 137, none, .fa 4 (.t 136)⟩, ⟨some 138, none, .ld 3 true (.t 137)⟩, ⟨none, none, .st 3 (.t 8) (.t 138)⟩, ⟨some 9, none, .mv (.k (.int .i64 0))⟩]) .ret))))))))))⟩ := by kernel_rfl

theorem keysC (mid : Nat) (S : List O) (tk : Tks) : ACalls E0 30 [.map mid] S tk (fun r S' tk' => r = .fn 41 [.po S.length 0] ∧ S' = S ++ [.arr [.map mid]] ∧ tk' = tk) := by
  refine ACalls.fgo c30 rfl fun hS => ?_
  repeat' first | with_reducible refine fzD_ite (fun q => ?_) (fun q => ?_) | ((try conv => whnf); first | refine bs_d (fun q => ?_) (fun q => ?_) | refine bs_n ?_ | refine bs_i (fun q => ?_) (fun q => ?_) | refine ffinJ ⟨rfl, rfl, List.append_nil _⟩ | refine eqk rfl ?_ | refine ffin _ rfl rfl hS (Sub.refl _) rfl ⟨?_, rfl, rfl⟩)

def cntD (n : Int) : D := .int .i64 n
section
variable {fr : Fr} {S J : List O} {T TK : Tks} {n0 m0 : Nat}
theorem mgC {j clk : Nat} {l : List Ent} {f : Int → Option Int} (hn : S.length = n0) (hJ : J[j]? = some (.map kt64 (entKv l) clk)) (hR : MapR cntD l clk f) (k : Int) :
    mgD kt64 (.int .i64 0) false (S ++ J) (.map (n0 + j)) (.int .u64 k) = some (.int .i64 ((f k).getD 0)) := by
  rw [mgD_own hn hJ rfl, if_neg (by simp), show (D.int .u64 k) = kD k from rfl, mget_entKv, hR.get]
  cases f k <;> rfl
theorem mgO {j clk : Nat} {l : List Ent} {f : Int → Option Dn} (hn : S.length = n0) (hJ : J[j]? = some (.map kt64 (entKv l) clk)) (hR : MapR dnD l clk f) (k : Int) :
    mgD kt64 (.agg [.int .u64 0, .int .i64 0, .int .i64 0]) false (S ++ J) (.map (n0 + j)) (.int .u64 k) = some (.agg ((f k).getD z3).cs) := by
  rw [mgD_own hn hJ rfl, if_neg (by simp), show (D.int .u64 k) = kD k from rfl, mget_entKv, hR.get]
  cases f k <;> rfl
theorem gk_msC {x k v : Opd} {j clk : Nat} {l : List Ent} {key : Int} {d : D} {K : FD → List O → List O → Tks → Tks → Prop} (hn : S.length = n0) (hm : T.length = m0) (hx : fev E0 fr x = .d (.map (n0 + j))) (hJ : J[j]? = some (.map kt64 (entKv l) clk)) (hk : (fev E0 fr k).to n0 = kD key) (hv : (fev E0 fr v).to n0 = d)
    (hK : K (.d .top) S (J.set j (.map kt64 (entKv (setE l clk key d)) (clkE l clk key))) T TK) : GK E0 n0 m0 (.mset kt64 x k v) fr S J T TK K := by
  refine gk_mset_own hn hm hx hJ (by rw [hk]; rfl) ?_
  rw [hk, hv, mset_entKv, mclk_entKv]
  exact hK
end
theorem MapR.congr {β : Type} {vl : β → D} {l : List Ent} {clk : Nat} {f f' : Int → Option β} (h : MapR vl l clk f) (he : ∀ k, f k = f' k) : MapR vl l clk f' := ⟨h.st, h.nd, fun k => by rw [h.get, he]⟩
theorem MapR.scG {β : Type} {vl : β → D} {l : List Ent} {clk : Nat} {f : Int → Option β} (h : MapR vl l clk f) (n m : Nat) (hv : ∀ b, (vl b).sc n m = true) : oSc n m (.map kt64 (entKv l) clk) = true := by
  simp only [oSc, entKv, List.all_map, List.all_eq_true]
  intro e he
  have h1 := getE_self h.nd e he
  rw [h.get] at h1
  obtain ⟨d, _, hd⟩ := Option.map_eq_some_iff.1 h1
  simp only [Function.comp]
  rw [← hd, hv]
  rfl
def one? (l : List Int) (k : Int) : Option Int := if k ∈ l then some 1 else none

structure EL where
  i : Nat
  l : List Ent
  clk : Nat
structure EL.P1 (l : List Iv) (e : EL) : Prop where
  i : e.i ≤ l.length
  ok : ∀ x ∈ l.take e.i, x.ok
  inc : inc 0 ((l.take e.i).map Iv.id)
  map : MapR cntD e.l e.clk (one? ((l.take e.i).map Iv.id))
structure EL.P2 (l : List Iv) (duns : List Dn) (e : EL) : Prop where
  i : e.i ≤ duns.length
  ok : ∀ d ∈ duns.take e.i, goodD l d
  inc : inc 0 ((duns.take e.i).map Dn.inv)
  map : MapR dnD e.l e.clk (fD (duns.take e.i))
  len : e.l.length ≤ e.i

def runG (p : Po) (day : Int) (n0 m0 : Nat) : RP := ⟨p, day, n0 + 4, n0 + 3, m0, m0 + 1, m0 + 2⟩
theorem inc_notin' {l : List Iv} {i : Nat} (hi : i < l.length) (h : inc 0 ((l.take i).map Iv.id)) (hlt : lst 0 ((l.take i).map Iv.id) < (l[i]!).id) : (l[i]!).id ∉ (l.take i).map Iv.id := by
  have h1 := inc_rise (inc_ivs hi h hlt)
  rw [take_sn hi, List.map_append, List.pairwise_append] at h1
  intro hm
  have := h1.2.2 _ hm (l[i]!).id (by simp)
  omega
theorem inc_notinD {l : List Dn} {i : Nat} (hi : i < l.length) (h : inc 0 ((l.take i).map Dn.inv)) (hlt : lst 0 ((l.take i).map Dn.inv) < (l[i]!).inv) : (l[i]!).inv ∉ (l.take i).map Dn.inv := by
  have h1 := inc_rise (inc_dns hi h hlt)
  rw [take_sn hi, List.map_append, List.pairwise_append] at h1
  intro hm
  have := h1.2.2 _ hm (l[i]!).inv (by simp)
  omega

def runT (es ns ls : List (List D)) : Tks := [(es.length, 55, 3), (ns.length, 57, 5), (ls.length, 25, 1)]
def runJ (p : Po) (day : Int) (n0 m0 : Nat) (et : List Ent) (ec : Nat) (e : EL) : List O := [.arr [.sl (i64s p.days), .int .i64 p.lose], .arr [.nilsl, .nilsl, .nilsl], .map kt64 (entKv et) ec, .map kt64 (entKv e.l) e.clk, .arr [.sl (i64s p.days), .int .i64 p.lose, .int .i64 day, .map (n0 + 3), .gsl [] m0, .gsl [] (m0 + 1), .gsl [] (m0 + 2)]]
def runFr (duns : List Dn) (l : List Iv) (day : Int) (n0 : Nat) (e : EL) : Fr := [(60, .d (.int .i64 e.i)), (59, .d (.int .i64 duns.length)), (58, .d (.sl (dns duns))), (11, .d (.int .u64 (lst 0 ((duns.take e.i).map Dn.inv)))), (10, .d (.map (n0 + 2))), (14, .lp 4 0), (4, .lp 0 0), (8, .lp 1 0), (2, .d (.sl (ivs l))), (3, .d (.int .i64 day))]
theorem set_self {α : Type} {X : List α} {i : Nat} {o : α} (h : X[i]? = some o) : X.set i o = X := by
  obtain ⟨a, b⟩ := List.getElem?_eq_some_iff.1 h
  rw [← b, List.set_getElem_self]
theorem runG_in (p : Po) (day : Int) (S : List O) (tk : Tks) (et : List Ent) (ec : Nat) (e : EL) : (runG p day S.length tk.length).In (S ++ runJ p day S.length tk.length et ec e) (tk ++ runT [] [] []) := by
  constructor <;> simp [runG, runJ, runT]
theorem runG_S (p : Po) (day : Int) (S : List O) (tk : Tks) (et : List Ent) (ec : Nat) (e : EL) {s : RS} (hl : s = ⟨e.l, e.clk, [], []⟩) {X : List O} (hX : X = S ++ runJ p day S.length tk.length et ec e) : stS (runG p day S.length tk.length) X s = X := by
  subst hl
  have h1 : X[S.length + 4]? = some (.arr ((runG p day S.length tk.length).cells ⟨e.l, e.clk, [], []⟩)) := by rw [hX]; exact at_own rfl rfl
  have h2 : X[S.length + 3]? = some (.map kt64 (entKv e.l) e.clk) := by rw [hX]; exact at_own rfl rfl
  rw [stS]
  show (X.set (S.length + 4) _).set (S.length + 3) _ = X
  rw [set_self h1, set_self h2]
theorem runG_T (p : Po) (day : Int) (n : Nat) (tk : Tks) (dt : List Ent) (dc : Nat) : stT (runG p day n tk.length) (tk ++ runT [] [] []) ⟨dt, dc, [], []⟩ = tk ++ runT [] [] [] := by
  have h1 : (tk ++ runT [] [] [])[tk.length + 1]? = some (0, 57, 5) := by simp [runT]
  have h2 : (tk ++ runT [] [] [])[tk.length + 2]? = some (0, 25, 1) := by simp [runT]
  rw [stT]
  show ((tk ++ runT [] [] []).set (tk.length + 1) _).set (tk.length + 2) _ = _
  rw [show (([] : List (List D)).length, 57, 5) = (0, 57, 5) from rfl, set_self h1, show (([] : List (List D)).length, 25, 1) = (0, 25, 1) from rfl, set_self h2]
def runJ2 (p : Po) (day : Int) (n0 m0 : Nat) (et : List Ent) (ec : Nat) (s : RS) (es : List (List D)) : List O := [.arr [.sl (i64s p.days), .int .i64 p.lose], .arr [.nilsl, .nilsl, .nilsl], .map kt64 (entKv et) ec, .map kt64 (entKv s.l) s.clk, .arr [.sl (i64s p.days), .int .i64 p.lose, .int .i64 day, .map (n0 + 3), .gsl es m0, .gsl s.ns (m0 + 1), .gsl s.ls (m0 + 2)]]
theorem runG_S' (p : Po) (day : Int) (S : List O) (tk : Tks) (et : List Ent) (ec : Nat) (e : EL) (s : RS) : stS (runG p day S.length tk.length) (S ++ runJ p day S.length tk.length et ec e) s = S ++ runJ2 p day S.length tk.length et ec s [] := by
  rw [stS]
  show ((S ++ runJ p day S.length tk.length et ec e).set (S.length + 4) _).set (S.length + 3) _ = _
  rw [set_own rfl, set_own rfl]; rfl
theorem runG_T' (p : Po) (day : Int) (n : Nat) (tk : Tks) (s : RS) : stT (runG p day n tk.length) (tk ++ runT [] [] []) s = tk ++ runT [] s.ns s.ls := by
  rw [stT]
  show ((tk ++ runT [] [] []).set (tk.length + 1) _).set (tk.length + 2) _ = _
  rw [List.set_append_right _ _ (by omega), List.set_append_right _ _ (by omega)]
  simp [runT]
structure SE where
  i : Nat
  es : List (List D)
structure SE.P (L : List Int) (f : Int → Option Dn) (e : SE) : Prop where
  i : e.i ≤ L.length
  es : e.es = dns ((L.take e.i).map fun k => (f k).getD z3)
set_option maxHeartbeats 2000000 in
open Classical in
theorem dunRun (p : Po) (duns : List Dn) (l : List Iv) (day : Int) (h : RunIn p duns l day) :
    Pure 13 [p.d, .sl (dns duns), .sl (ivs l), .int .i64 day] (if runOK p duns l day then runR p duns l day else runE) := by
  intro S tk
  have hlen := ivs_len l
  have dlen := dns_len duns
  have hll := h.ll
  have hdl := h.dl
  refine ACalls.fgo c13 rfl fun hS => ?_
  repeat' first | with_reducible refine fzD_ite (fun q => ?_) (fun q => ?_) | ((try conv => whnf); first | refine bs_d (fun q => ?_) (fun q => ?_) | refine bs_n ?_ | refine bs_i (fun q => ?_) (fun q => ?_) | refine ckz (dunCheck p h.p) ?_ | refine cq (dunCheck p h.p) ?_ | refine ckz (dunDay _) ?_ | refine cq (dunDay _) ?_ | refine ffin runE rfl rfl hS (sub_runE rfl) rfl ⟨?_, rfl, rfl⟩ | refine eqk rfl ?_ | refine ffin _ rfl rfl hS (Sub.refl _) rfl ⟨?_, rfl, rfl⟩)
  · have hp : p.ok := ite02.1 (by assumption)
    have hday : 1 ≤ day ∧ day ≤ 3652059 := by assumption
    refine floop (α := EL) rfl rfl hS (EL.P1 l) (fun e => l.length - e.i) (fun e => [(31, .d (.int .i64 e.i)), (30, .d (.int .i64 l.length)), (29, .d (.sl (ivs l))), (11, .d (.int .u64 (lst 0 ((l.take e.i).map Iv.id)))), (10, .d (.map (S.length + 2))), (4, .lp 0 0), (8, .lp 1 0), (1, .d (.sl (dns duns))), (2, .d (.sl (ivs l))), (3, .d (.int .i64 day))])
      (fun e => [.arr [.sl (i64s p.days), .int .i64 p.lose], .arr [.nilsl, .nilsl, .nilsl], .map kt64 (entKv e.l) e.clk]) (fun _ => []) ⟨0, [], 0⟩ ⟨Nat.zero_le _, by simp, by simp [inc], MapR.congr (MapR.empty _) fun k => by simp [one?]⟩ (fstep_sub ⟨Sub.refl _, Sub.int (by rw [hlen]), Sub.refl _, Sub.refl _, Sub.refl _, Sub.refl _, Sub.refl _, Sub.refl _, Sub.refl _, Sub.refl _, trivial⟩) ?_
    intro e he
    have hi0 := he.i
    repeat' first | with_reducible refine fzD_ite (fun q => ?_) (fun q => ?_) | ((try conv => whnf); first | refine bs_d (fun q => ?_) (fun q => ?_) <;> (try simp (disch := ((try unfold I64); omega)) only [wi64_id, td] at q) | refine bs_n ?_ | refine bs_i (fun q => ?_) (fun q => ?_) | refine pK_i (iaD_iv (i := e.i) (by first | rfl | omega | (refine Int.sub_eq_zero.mp ?_; simp (disch := ((try unfold I64); omega)) only [wi64_id, td]; omega)) (by omega)) ?_ | refine ckz (Check _ (h.iv _ (mem_at (by omega)))) ?_ | refine cq (Check _ (h.iv _ (mem_at (by omega)))) ?_ | refine pK_i (mgC rfl rfl he.map _) ?_ | refine gk_msC (j := 2) (key := (l[e.i]!).id) rfl rfl rfl rfl rfl rfl ?_ | refine ffin runE rfl rfl hS (sub_runE rfl) rfl ⟨?_, rfl, rfl⟩ | refine eqk rfl ?_ | refine ffin _ rfl rfl hS (Sub.refl _) rfl ⟨?_, rfl, rfl⟩)
    · rw [if_neg fun hr => by have := inc_iv hr.2.2.1.2 (i := e.i) (by omega); omega]
    · have hi : e.i < l.length := by omega
      have hlt : lst 0 ((l.take e.i).map Iv.id) < (l[e.i]!).id := by omega
      have hn := inc_notin' hi he.inc hlt
      have e5 : D.int .i64 (IntKind.i64.wrap ((one? ((l.take e.i).map Iv.id) (l[e.i]!).id).getD 0 + 1)) = cntD 1 := by rw [one?, if_neg hn]; rfl
      have hP : EL.P1 l ⟨e.i + 1, setE e.l e.clk (l[e.i]!).id (D.int .i64 (IntKind.i64.wrap ((one? ((l.take e.i).map Iv.id) (l[e.i]!).id).getD 0 + 1))), clkE e.l e.clk (l[e.i]!).id⟩ := by
        refine ⟨by simp only; omega, all_sn hi he.ok (ite02.1 (by assumption)), inc_ivs hi he.inc hlt, ?_⟩
        simp only
        rw [e5]
        refine (he.map.set (l[e.i]!).id 1).congr fun k => ?_
        simp only [one?, take_sn hi, List.map_append, List.mem_append, List.map_cons, List.map_nil, List.mem_singleton]
        by_cases hk : k = (l[e.i]!).id
        · rw [if_pos hk, if_pos (.inr hk)]
        · rw [if_neg hk]
          by_cases hm : k ∈ (l.take e.i).map Iv.id
          · rw [if_pos hm, if_pos (.inl hm)]
          · rw [if_neg hm, if_neg (by rintro (h | h); exact hm h; exact hk h)]
      conv => whnf
      refine fnext (α := EL) ⟨e.i + 1, setE e.l e.clk (l[e.i]!).id (D.int .i64 (IntKind.i64.wrap ((one? ((l.take e.i).map Iv.id) (l[e.i]!).id).getD 0 + 1))), clkE e.l e.clk (l[e.i]!).id⟩ hP (by simp only; omega) ?_
      refine fstep_drop (J' := [_, _, _]) (Jx := [_]) (TK' := []) (TKx := []) rfl rfl ⟨Sub.int (by first | rfl | omega | (refine Int.sub_eq_zero.mp ?_; simp (disch := ((try unfold I64); omega)) only [wi64_id, td]; omega)), Sub.refl _, Sub.refl _, Sub.int ?_, Sub.refl _, Sub.refl _, Sub.refl _, Sub.refl _, Sub.refl _, Sub.refl _, trivial⟩ (by simp [frSc, frD, FD.to, D.sc, sc_dns, sc_ivs]) ?_
      · simp only; rw [take_sn hi, List.map_append, List.map_cons, List.map_nil, lst_snoc]
      · have := MapR.scG hP.map (S.length + 3) (tk.length + 0) (fun _ => rfl)
        simp only [oScL, Bool.and_true, Bool.and_eq_true]
        exact ⟨by simp [oSc, scL, D.sc, sc_i64s], by simp [oSc, scL, D.sc], this⟩
    · rw [if_neg fun hr => absurd (ite02.2 (hr.2.2.1.1 _ (mem_at (by omega)))) (by assumption)]
    have e1 : e.i = l.length := by omega
    have hL : mayL l := by
      have h1 := he.ok
      have h2 := he.inc
      rw [e1, List.take_length] at h1 h2
      exact ⟨h1, h2⟩
    have hmap := he.map
    rw [e1, List.take_length] at hmap
    obtain ⟨ei, et, ec⟩ := e
    simp only at hmap
    clear he hi0 e1
    refine floop (α := EL) rfl rfl hS (EL.P2 l duns) (fun e => duns.length - e.i) (runFr duns l day S.length) (runJ p day S.length tk.length et ec) (fun _ => runT [] [] []) ⟨0, [], 0⟩ ⟨Nat.zero_le _, by simp, by simp [inc], MapR.congr (MapR.empty _) fun k => rfl, Nat.le_refl _⟩
      (((fstep_celltok (k := 4) (cs := [.sl (i64s p.days), .int .i64 p.lose, .int .i64 day, .map (S.length + 3), .nilsl, .nilsl, .nilsl]) 55 3 rfl 4 rfl (fr' := runFr duns l day S.length ⟨0, [], 0⟩) ⟨Sub.refl _, ?_, Sub.refl _, Sub.refl _, Sub.refl _, Sub.refl _, Sub.refl _, Sub.refl _, Sub.refl _, Sub.refl _, trivial⟩).trans
        (fstep_celltok (k := 4) (cs := [.sl (i64s p.days), .int .i64 p.lose, .int .i64 day, .map (S.length + 3), .gsl [] tk.length, .nilsl, .nilsl]) 57 5 rfl 5 rfl (fr' := runFr duns l day S.length ⟨0, [], 0⟩) ⟨Sub.refl _, Sub.refl _, Sub.refl _, Sub.refl _, Sub.refl _, Sub.refl _, Sub.refl _, Sub.refl _, Sub.refl _, Sub.refl _, trivial⟩)).trans
        (fstep_celltok (k := 4) (cs := [.sl (i64s p.days), .int .i64 p.lose, .int .i64 day, .map (S.length + 3), .gsl [] tk.length, .gsl [] (tk.length + 1), .nilsl]) 25 1 rfl 6 rfl (fr' := runFr duns l day S.length ⟨0, [], 0⟩) ⟨Sub.refl _, Sub.refl _, Sub.refl _, Sub.refl _, Sub.refl _, Sub.refl _, Sub.refl _, Sub.refl _, Sub.refl _, Sub.refl _, trivial⟩)) ?_
    · show Sub (.int .i64 ((dns duns).length : Int)) (.int .i64 (duns.length : Int))
      rw [dlen]; exact Sub.refl _
    intro e he
    have hi0 := he.i
    repeat' first | with_reducible refine fzD_ite (fun q => ?_) (fun q => ?_) | ((try conv => whnf); first | refine bs_d (fun q => ?_) (fun q => ?_) <;> (try simp (disch := ((try unfold I64); omega)) only [wi64_id, td] at q) | refine bs_n ?_ | refine bs_i (fun q => ?_) (fun q => ?_) | refine pK_i (iaD_dn (i := e.i) (by first | rfl | omega | (refine Int.sub_eq_zero.mp ?_; simp (disch := ((try unfold I64); omega)) only [wi64_id, td]; omega)) (by omega)) ?_ | refine ckz (dunDay _) ?_ | refine cq (dunDay _) ?_ | refine pK_i (mgC (j := 2) rfl rfl hmap _) ?_ | refine gk_msC (j := 3) (key := (duns[e.i]!).inv) (d := dnD duns[e.i]!) rfl rfl rfl rfl rfl rfl ?_ | refine ffin runE rfl rfl hS (sub_runE rfl) rfl ⟨?_, rfl, rfl⟩ | refine eqk rfl ?_ | refine ffin _ rfl rfl hS (Sub.refl _) rfl ⟨?_, rfl, rfl⟩)
    · rw [if_neg fun hr => by have := inc_dn hr.2.2.2.1 (i := e.i) (by omega); omega]
    · rw [if_neg fun hr => by have := (hr.2.2.2.2 _ (mem_at (i := e.i) (by omega))).1; rw [one?, if_pos this] at *; simp at *]
    · rw [if_neg fun hr => by have := (hr.2.2.2.2 _ (mem_at (i := e.i) (by omega))).2; omega]
    · rw [if_neg fun hr => by have := (hr.2.2.2.2 _ (mem_at (i := e.i) (by omega))).2; omega]
    · have hi : e.i < duns.length := by omega
      have hlt : lst 0 ((duns.take e.i).map Dn.inv) < (duns[e.i]!).inv := by omega
      have hn := inc_notinD hi he.inc hlt
      have ga : (duns[e.i]!).inv ∈ l.map Iv.id := Classical.byContradiction fun hc => absurd (show (one? (l.map Iv.id) (duns[e.i]!).inv).getD 0 = 0 by rw [one?, if_neg hc]; rfl) (by assumption)
      have hP : EL.P2 l duns ⟨e.i + 1, setE e.l e.clk (duns[e.i]!).inv (dnD duns[e.i]!), clkE e.l e.clk (duns[e.i]!).inv⟩ := by
        refine ⟨by simp only; omega, all_sn hi he.ok ⟨ga, by omega, by omega, by omega, by omega⟩, inc_dns hi he.inc hlt, ?_, ?_⟩
        · refine (he.map.set (duns[e.i]!).inv duns[e.i]!).congr fun k => ?_
          simp only
          rw [take_sn hi, fD_sn _ _ hn]
        · have := setE_len e.l e.clk (duns[e.i]!).inv (dnD duns[e.i]!)
          have := he.len
          simp only; omega
      conv => whnf
      refine fnext (α := EL) ⟨e.i + 1, setE e.l e.clk (duns[e.i]!).inv (dnD duns[e.i]!), clkE e.l e.clk (duns[e.i]!).inv⟩ hP (by simp only; omega) ?_
      refine fstep_drop (J' := [_, _, _, _, _]) (Jx := [_]) (TK' := runT [] [] []) (TKx := []) rfl rfl ⟨Sub.int (by first | rfl | omega | (refine Int.sub_eq_zero.mp ?_; simp (disch := ((try unfold I64); omega)) only [wi64_id, td]; omega)), Sub.refl _, Sub.refl _, Sub.int ?_, Sub.refl _, Sub.refl _, Sub.refl _, Sub.refl _, Sub.refl _, Sub.refl _, trivial⟩ (by simp [runFr, frSc, frD, FD.to, D.sc, sc_dns, sc_ivs]) ?_
      · simp only; rw [take_sn hi, List.map_append, List.map_cons, List.map_nil, lst_snoc]
      · have h1 := MapR.scG hP.map (S.length + 5) (tk.length + 3) (fun _ => rfl)
        have h2 := MapR.scG hmap (S.length + 5) (tk.length + 3) (fun _ => rfl)
        show oScL (S.length + 5) (tk.length + 3) _ = true
        simp only [oScL, Bool.and_true, Bool.and_eq_true]
        exact ⟨by simp [oSc, scL, D.sc, sc_i64s], by simp [oSc, scL, D.sc], h2, h1, by simp [oSc, scL, D.sc, sc_i64s, scLL]⟩
    · rw [if_neg fun hr => by have := (hr.2.2.2.2 _ (mem_at (i := e.i) (by omega))).2; omega]
    have e1 : e.i = duns.length := by omega
    have hD : mayD l duns := by
      have h1 := he.ok
      have h2 := he.inc
      rw [e1, List.take_length] at h1 h2
      exact ⟨h2, h1⟩
    have hmd := he.map
    have hld := he.len
    rw [e1, List.take_length] at hmd
    obtain ⟨di, dt, dc⟩ := e
    simp only at hmd hld e1
    clear he hi0
    conv => whnf
    have hin := runG_in p day S tk et ec ⟨di, dt, dc⟩
    have hE := each (g := runG p day S.length tk.length) (s := ⟨dt, dc, [], []⟩) (f := fD duns) (N := []) (L := []) hin (fun x hx => ⟨h.p, hp, hday, h.iv x hx, hL.1 x hx⟩) ⟨hmd, rfl, rfl⟩ h.ll (by simp) (by simp)
    rw [runG_S p day S tk et ec ⟨di, dt, dc⟩ rfl rfl, runG_T] at hE
    refine ckG hE ?_
    rintro r S' tk' ⟨rfl, s', ok', hl', rfl, rfl⟩
    rw [List.nil_append, List.nil_append] at ok'
    refine ⟨S, runJ2 p day S.length tk.length et ec s' [], tk, runT [] s'.ns s'.ls, runG_S' .., runG_T' .., rfl, rfl, ?_⟩
    have hst := ok'.map.st
    have hl80 : s'.l.length ≤ 80 := by simp only at hl'; omega
    have hmk : (S ++ (runJ2 p day S.length tk.length et ec s' [] ++ [.arr [.map (S.length + 3)]]))[S.length + 3]? = some (.map kt64 (entKv s'.l) s'.clk) := at_own rfl rfl
    have hck : (S ++ (runJ2 p day S.length tk.length et ec s' [] ++ [.arr [.map (S.length + 3)]]))[S.length + 5]? = some (.arr [.map (S.length + 3)]) := at_own rfl rfl
    repeat' first | with_reducible refine fzD_ite (fun q => ?_) (fun q => ?_) | ((try conv => whnf); first | refine bs_d (fun q => ?_) (fun q => ?_) | refine bs_n ?_ | refine bs_i (fun q => ?_) (fun q => ?_) | refine ckN rfl rfl (d := .fn 41 [.po (S.length + 5) 0]) (by have := keysC (S.length + 3) (S ++ runJ2 p day S.length tk.length et ec s' []) (tk ++ runT [] s'.ns s'.ls); rw [List.length_append] at this; exact this) ?_ | (refine ckG (sorted (N := s'.l.length) (by omega) (fun d hd => by rw [← Array.length_toList, hd.length_eq, List.length_map]; exact Nat.le_refl _) (keysEnum hck hmk hst)) ?_; rintro r S' tk' ⟨d, d', hgood, hsort, rfl, rfl, rfl⟩; refine ⟨S, runJ2 p day S.length tk.length et ec s' [] ++ [.arr [.map (S.length + 3)]], tk, runT [] s'.ns s'.ls, rfl, rfl, rfl, rfl, ?_⟩) | refine eqk rfl ?_ | refine ffin _ rfl rfl hS (Sub.refl _) rfl ⟨?_, rfl, rfl⟩)
    have hsl := Sorts.list hsort
    have hperm : d'.toList.Perm (s'.l.map (·.1)) := hsl.1.trans hgood
    have hrise := rising_of hsl.2 (hperm.nodup_iff.2 ok'.map.nd)
    have hmem : ∀ k, k ∈ d'.toList ↔ (stepsF p day (fD duns) l k).isSome = true := fun k => by rw [hperm.mem_iff]; exact ok'.map.mem k
    obtain ⟨pl1, pl2⟩ := run_plain (p := p) (day := day) hL hD hrise hmem
    have hL80 : d'.toList.length ≤ 80 := by rw [hperm.length_eq, List.length_map]; exact hl80
    have hns : s'.ns = nts (runN p duns day l) := by rw [ok'.ns, ← pl2]; rfl
    have hls : s'.ls = u64s (runL p day l) := ok'.ls
    have hmf : MapR dnD s'.l s'.clk (stepsF p day (fD duns) l) := ok'.map
    show fzD (.sl (u64s d'.toList)) _
    generalize d'.toList = L at *
    have Llen := u64s_len L
    have hp3 : ∀ n m, oScL (n + 6) (m + 3) [.arr [.sl (i64s p.days), .int .i64 p.lose], .arr [.nilsl, .nilsl, .nilsl], .map kt64 (entKv et) ec, .map kt64 (entKv s'.l) s'.clk] = true := fun n m => by
      have h1 := MapR.scG hmf (n + 6) (m + 3) (fun _ => rfl)
      have h2 := MapR.scG hmap (n + 6) (m + 3) (fun _ => rfl)
      simp only [oScL, Bool.and_true, Bool.and_eq_true]
      exact ⟨by simp [oSc, scL, D.sc, sc_i64s], by simp [oSc, scL, D.sc], h2, h1⟩
    conv => whnf
    refine floop (α := SE) rfl rfl hS (SE.P L (stepsF p day (fD duns) l)) (fun e => L.length - e.i) (fun e => [(113, .d (.int .i64 e.i)), (112, .d (.int .i64 L.length)), (111, .d (.sl (u64s L))), (14, .lp 4 0), (8, .lp 1 0)])
      (fun e => runJ2 p day S.length tk.length et ec s' e.es ++ [.arr [.map (S.length + 3)]]) (fun e => runT e.es s'.ns s'.ls) ⟨0, []⟩ ⟨Nat.zero_le _, rfl⟩ ?_ ?_
    · refine fstep_sub ⟨Sub.refl _, ?_, Sub.refl _, Sub.refl _, Sub.refl _, trivial⟩
      show Sub (.int .i64 ((u64s L).length : Int)) (.int .i64 (L.length : Int))
      rw [Llen]; exact Sub.refl _
    intro e he
    have hi0 := he.i
    have hel : e.es.length = (L.take e.i).length := by rw [he.es, dns_len, List.length_map]
    have hel2 : (L.take e.i).length ≤ e.i := List.length_take_le ..
    repeat' first | with_reducible refine fzD_ite (fun q => ?_) (fun q => ?_) | ((try conv => whnf); first | refine bs_d (fun q => ?_) (fun q => ?_) <;> (try simp (disch := ((try unfold I64); omega)) only [wi64_id, td] at q) | refine bs_n ?_ | refine bs_i (fun q => ?_) (fun q => ?_) | refine pK_i (iaD_u64 (i := e.i) (by first | rfl | omega | (refine Int.sub_eq_zero.mp ?_; simp (disch := ((try unfold I64); omega)) only [wi64_id, td]; omega)) (by omega)) ?_ | refine pK_i (mgO (j := 3) rfl rfl hmf _) ?_ | refine gk_app (t := 0) rfl rfl rfl rfl rfl (by simp) (by simp only [List.length_cons, List.length_nil, maxLen]; omega) ?_ | refine ffin (runR p duns l day) rfl rfl hS ?_ ?_ ⟨?_, rfl, rfl⟩ | refine eqk rfl ?_ | refine ffin _ rfl rfl hS (Sub.refl _) rfl ⟨?_, rfl, rfl⟩)
    · have hi : e.i < L.length := by omega
      have hP : SE.P L (stepsF p day (fD duns) l) ⟨e.i + 1, e.es ++ ([((stepsF p day (fD duns) l L[e.i]!).getD z3).cs] : List (List D))⟩ := by
        refine ⟨by simp only; omega, ?_⟩
        simp only
        rw [take_sn hi, he.es, List.map_append, dns, dns, List.map_append]; rfl
      conv => whnf
      refine fnext (α := SE) ⟨e.i + 1, e.es ++ ([((stepsF p day (fD duns) l L[e.i]!).getD z3).cs] : List (List D))⟩ hP (by simp only; omega) ?_
      refine fstep_K (by simp [runT, Dn.cs]) ⟨Sub.int (by first | rfl | omega | (refine Int.sub_eq_zero.mp ?_; simp (disch := ((try unfold I64); omega)) only [wi64_id, td]; omega)), Sub.refl _, Sub.refl _, Sub.refl _, Sub.refl _, trivial⟩
    · have e1 : e.i = L.length := by omega
      have e2 := he.es
      rw [e1, List.take_length, pl1] at e2
      rw [runR, dng, ← e2, ← hns, ← hls]
      exact Sub.tup (.cons (Sub.agg (.cons Sub.gsl (.cons Sub.gsl (.cons Sub.gsl .nil)))) (.cons (Sub.refl _) .nil))
    · simp [runR, dng, D.sc, scL, sc_dns, sc_nts, sc_u64s]
    · exact (if_pos ⟨hp, hday, hL, hD⟩).symm
  · rw [if_neg (fun hr => by have := hr.2.1; contradiction)]
  · rw [if_neg (fun hr => absurd (ite02.2 hr.1) (by assumption))]
theorem c14 : cFun E0.P 14 = some ⟨87, [(4, none)], .seq (.rg [⟨some 2, none, .box (.t 0) 50⟩, ⟨some 3, none, .box (.t 1) 50⟩, ⟨some 4, none, .mv (.k (.bool false))⟩]) (.seq (.seq (.rg [⟨some 8, none, .fa 0 (.t 2)⟩, ⟨some 9, none, .ld 1 false (.t 8)⟩, ⟨some 10, none, .len 1 (.t 9)⟩, ⟨some 11, none, .fa 0 (.t 3)⟩, ⟨some 12, none, .ld 1 false (.t 11)⟩, ⟨some 13, none, .len 1 (.t 12)⟩, ⟨some 14, none, .bin .neq .leaf (.t 10) (.t 13)⟩, ⟨some 15, none, .mv (.t 14)⟩, ⟨some 16, some (15, false), .fa 1 (.t 2)⟩, ⟨some 17, some (15, false), .ld 1 false (.t 16)⟩, ⟨some 18, some (15, false), .len 1 (.t 17)⟩, ⟨some 19, some (15, false), .fa 1 (.t 3)⟩, ⟨some 20, some (15, false), .ld 1 false (.t 19)⟩, ⟨some 21, some (15, false), .len 1 (.t 20)⟩, ⟨some 22, some (15, false), .bin .neq .leaf (.t 18) (.t 21)⟩, ⟨some 23, none, .pick (.t 15) (.k (.bool true)) (.t 22)⟩, ⟨some 24, none, .mv (.t 23)⟩, ⟨some 25, some (24, false), .fa 2 (.t 2)⟩, ⟨some 26, some (24, false), .ld 1 false (.t 25)⟩, ⟨some 27, some (24, false), .len 1 (.t 26)⟩, ⟨some 28, some (24, false), .fa 2 (.t 3)⟩, ⟨some 29, some (24, false), .ld 1 false (.t 28)⟩, ⟨some 30, some (24, false), .len 1 (.t 29)⟩, ⟨some 31, some (24, false), .bin .neq .leaf (.t 27) (.t 30)⟩, ⟨some 32, none, .pick (.t 24) (.k (.bool true)) (.t 31)⟩]) (.cond (.t 32) (.seq (.rg [⟨some 4, none, .mv (.k (.bool false))⟩]) .ret) .skip)) (.seq (.seq (.rg [⟨some 5, none, .mv (.k (.int .i64 0))⟩]) (.block 0 (.loop (.seq (.seq (.rg [⟨some 33, none, .mv (.t 5)⟩, ⟨some 34, none, .fa 0 (.t 2)⟩, ⟨some 35, none, .ld 1 false (.t 34)⟩, ⟨some 36, none, .len 1 (.t 35)⟩, ⟨some 37, none, .bin .lss .leaf (.t 33) (.t 36)⟩]) (.cond (.t 37) .skip (.exit 0))) (.seq (.block 1 (.seq (.rd [(⟨some 40, none, .fa 0 (.t 2)⟩, none), (⟨some 41, none, .ld 1 false (.t 40)⟩, none), (⟨some 42, none, .mv (.t 5)⟩, none), (⟨some 43, none, .ia 3 (.t 41) (.t 42)⟩, none), (⟨some 44, none, .ld 3 true (.t 43)⟩, none), (⟨some 45, none, .fa 0 (.t 3)⟩, none), (⟨some 46, none, .ld 1 false (.t 45)⟩, none), (⟨some 47, none, .mv (.t 5)⟩, none), (⟨some 48, none, .ia 3 (.t 46) (.t 47)⟩, none), (⟨some 49, none, .ld 3 true (.t 48)⟩, none), (⟨some 50, none, .bin .neq (.agg [(0, .i), (1, .i), (2, .i)]) (.t 44) (.t 49)⟩, none)]) (.cond (.t 50) (.seq (.rg [⟨some 4, none, .mv (.k (.bool false))⟩]) .ret) .skip))) (.rg [⟨some 38, none, .mv (.t 5)⟩, ⟨some 39, none, .bin .add .leaf (.t 38) (.k (.int .i64 1))⟩, ⟨some 5, none, .mv (.t 39)⟩])))))) (.seq (.seq (.rg [⟨some 6, none, .mv (.k (.int .i64 0))⟩]) (.block 2 (.loop (.seq (.seq (.rg [⟨some 51, none, .mv (.t 6)⟩, ⟨some 52, none, .fa 1 (.t 2)⟩, ⟨some 53, none, .ld 1 false (.t 52)⟩, ⟨some 54, none, .len 1 (.t 53)⟩, ⟨some 55, none, .bin .lss .leaf (.t 51) (.t 54)⟩]) (.cond (.t 55) .skip (.exit 2))) (.seq (.block 3 (.seq (.rd [(⟨some 58, none, .fa 1 (.t 2)⟩, none), (⟨some 59, none, .ld 1 false (.t 58)⟩, none), (⟨some 60, none, .mv (.t 6)⟩, none), (⟨some 61, none, .ia 5 (.t 59) (.t 60)⟩, none), (⟨some 62, none, .ld 5 true (.t 61)⟩, none), (⟨some 63, none, .fa 1 (.t 3)⟩, none), (⟨some 64, none, .ld 1 false (.t 63)⟩, none), (⟨some 65, none, .mv (.t 6)⟩, none), (⟨some 66, none, .ia 5 (.t 64) (.t 65)⟩, none), (⟨some 67, none, .ld 5 true (.t 66)⟩, none), (⟨some 68, none, .bin .neq (.agg [(0, .i), (1, .i), (2, .i), (3, .i), (4, .i)]) (.t 62) (.t 67)⟩, none)]) (.cond (.t 68) (.seq (.rg [⟨some 4, none, .mv (.k (.bool false))⟩]) .ret) .skip))) (.rg [⟨some 56, none, .mv (.t 6)⟩, ⟨some 57, none, .bin .add .leaf (.t 56) (.k (.int .i64 1))⟩, ⟨some 6, none, .mv (.t 57)⟩])))))) (.seq (.seq (.rg [⟨some 7, none, .mv (.k (.int .i64 0))⟩]) (.block 4 (.loop (.seq (.seq (.rg [⟨some 69, none, .mv (.t 7)⟩, ⟨some 70, none, .fa 2 (.t 2)⟩, ⟨some 71, none, .ld 1 false (.t 70)⟩, ⟨some 72, none, .len 1 (.t 71)⟩, ⟨some 73, none, .bin .lss .leaf (.t 69) (.t 72)⟩]) (.cond (.t 73) .skip (.exit 4))) (.seq (.block 5 (.seq (.rd [(⟨some 76, none, .fa 2 (.t 2)⟩, none), (⟨some 77, none, .ld 1 false (.t 76)⟩, none), (⟨some 78, none, .mv (.t 7)⟩, none), (⟨some 79, none, .ia 1 (.t 77) (.t 78)⟩, none), (⟨some 80, none, .ld 1 false (.t 79)⟩, none), (⟨some 81, none, .fa 2 (.t 3)⟩, none), (⟨some 82, none, .ld 1 false (.t 81)⟩, none), (⟨some 83, none, .mv (.t 7)⟩, none), (⟨some 84, none, .ia 1 (.t 82) (.t 83)⟩, none), (⟨some 85, none, .ld 1 false (.t 84)⟩, none), (⟨some 86, none, .bin .neq .leaf (.t 80) (.t 85)⟩, none)]) (.cond (.t 86) (.seq (.rg [⟨some 4, none, .mv (.k (.bool false))⟩]) .ret) .skip))) (.rg [⟨some 74, none, .mv (.t 7)⟩, ⟨some 75, none, .bin .add .leaf (.t 74) (.k (.int .i64 1))⟩, ⟨some 7, none, .mv (.t 75)⟩])))))) (.seq (.rg [⟨some 4, none, .mv (.k (.bool true))⟩]) .ret)))))⟩ := by kernel_rfl
theorem c12 : cFun E0.P 12 = some ⟨3, [(0, some (2, true))], .seq (.rg [⟨some 0, none, .alloc [.nilsl, .int .i64 0] 24⟩]) (.seq (.rg [⟨some 1, none, .buildS 3 1 [.int .i64 0] [(0, .k (.int .i64 3)), (1, .k (.int .i64 10)), (2, .k (.int .i64 30))] 3⟩, ⟨some 2, none, .build [.nilsl, .int .i64 0] [(0, 1, .t 1), (1, 1, .k (.int .i64 90))]⟩, ⟨none, none, .st 2 (.t 0) (.t 2)⟩]) .ret)⟩ := by kernel_rfl
theorem c4 : cFun E0.P 4 = some ⟨130, [(0, none)], .seq (.rg [⟨some 0, none, .mv (.k (.bool false))⟩]) (.seq (.rg [⟨some 20, none, .build [.int .u64 0, .int .u64 0, .int .u64 0, .int .i64 0, .int .i64 0, .int .i64 0, .int .i64 0, .int .i64 0, .int .i64 0, .int .i64 0, .int .i64 0] [(0, 1, .k (.int .u64 1)), (1, 1, .k (.int .u64 7)), (3, 1, .k (.int .i64 10)), (4, 1, .k (.int .i64 40)), (5, 1, .k (.int .i64 10)), (6, 1, .k (.int .i64 41)), (7, 1, .k (.int .i64 60))]⟩, ⟨some 1, none, .alloc [.int .u64 0, .int .u64 0, .int .u64 0, .int .i64 0, .int .i64 0, .int .i64 0, .int .i64 0, .int .i64 0, .int .i64 0, .int .i64 0, .int .i64 0] 27⟩, ⟨none, none, .st 11 (.t 1) (.t 20)⟩]) (.seq (.rg [⟨some 22, none, .call 12 []⟩, ⟨some 23, none, .call 5 [.t 22, .k (.int .i64 2)]⟩, ⟨some 21, none, .mv (.t 23)⟩, ⟨some 24, none, .ext 0 (.t 21)⟩, ⟨some 25, none, .ext 1 (.t 21)⟩, ⟨some 26, none, .ext 2 (.t 21)⟩, ⟨some 2, none, .mv (.t 24)⟩, ⟨some 3, none, .mv (.t 25)⟩, ⟨some 4, none, .mv (.t 26)⟩]) (.seq (.rg [⟨some 28, none, .call 12 []⟩, ⟨some 29, none, .call 5 [.t 28, .k (.int .i64 10)]⟩, ⟨some 27, none, .mv (.t 29)⟩, ⟨some 30, none, .ext 0 (.t 27)⟩, ⟨some 31, none, .ext 1 (.t 27)⟩, ⟨some 32, none, .ext 2 (.t 27)⟩, ⟨some 5, none, .mv (.t 30)⟩, ⟨some 6, none, .mv (.t 31)⟩, ⟨some 7, none, .mv (.t 32)⟩]) (.seq (.rg [⟨some 34, none, .call 12 []⟩, ⟨some 35, none, .call 5 [.t 34, .k (.int .i64 90)]⟩, ⟨some 33, none, .mv (.t 35)⟩, ⟨some 36, none, .ext 0 (.t 33)⟩, ⟨some 37, none, .ext 1 (.t 33)⟩, ⟨some 38, none, .ext 2 (.t 33)⟩, ⟨some 8, none, .mv (.t 36)⟩, ⟨some 9, none, .mv (.t 37)⟩, ⟨some 10, none, .mv (.t 38)⟩]) (.seq (.rd [(⟨some 40, none, .call 12 []⟩, none), (⟨some 41, none, .ld 11 true (.t 1)⟩, none), (⟨some 42, none, .buildS 1 11 [.int .u64 0, .int .u64 0, .int .u64 0, .int .i64 0, .int .i64 0, .int .i64 0, .int .i64 0, .int .i64 0, .int .i64 0, .int .i64 0, .int .i64 0] [(0, .t 41)] 27⟩, none), (⟨some 43, none, .call 13 [.t 40, .k .nilsl, .t 42, .k (.int .i64 50)]⟩, none), (⟨some 39, none, .mv (.t 43)⟩, none), (⟨some 44, none, .ext 0 (.t 39)⟩, none), (⟨some 45, none, .ext 1 (.t 39)⟩, none), (⟨some 11, none, .alloc [.nilsl, .nilsl, .nilsl] 50⟩, some [⟨some 40, none, .call 12 []⟩, ⟨some 41, none, .ld 11 true (.t 1)⟩, ⟨some 43, none, .call 13 [.t 40, .k .nilsl, .t 42, .k (.int .i64 50)]⟩]), (⟨none, none, .st 3 (.t 11) (.t 44)⟩, some []), (⟨some 12, none, .mv (.t 45)⟩, none)]) (.seq (.rd [(⟨some 47, none, .call 12 []⟩, none), (⟨some 48, none, .fa 0 (.t 11)⟩, none), (⟨some 49, none, .ld 1 false (.t 48)⟩, none), (⟨some 50, none, .ld 11 true (.t 1)⟩, none), (⟨some 51, none, .buildS 1 11 [.int .u64 0, .int .u64 0, .int .u64 0, .int .i64 0, .int .i64 0, .int .i64 0, .int .i64 0, .int .i64 0, .int .i64 0, .int .i64 0, .int .i64 0] [(0, .t 50)] 27⟩, none), (⟨some 52, none, .call 13 [.t 47, .t 49, .t 51, .k (.int .i64 51)]⟩, none), (⟨some 46, none, .mv (.t 52)⟩, none), (⟨some 53, none, .ext 0 (.t 46)⟩, none), (⟨some 54, none, .ext 1 (.t 46)⟩, none), (⟨some 13, none, .alloc [.nilsl, .nilsl, .nilsl] 50⟩, some [⟨some 47, none, .call 12 []⟩, ⟨some 49, none, .ld 1 false (.t 48)⟩, ⟨some 50, none, .ld 11 true (.t 1)⟩, ⟨some 52, none, .call 13 [.t 47, .t 49, .t 51, .k (.int .i64 51)]⟩]), (⟨none, none, .st 3 (.t 13) (.t 53)⟩, some []), (⟨some 14, none, .mv (.t 54)⟩, none)]) (.seq (.rd [(⟨some 56, none, .call 12 []⟩, none), (⟨some 57, none, .fa 0 (.t 11)⟩, none), (⟨some 58, none, .ld 1 false (.t 57)⟩, none), (⟨some 59, none, .ld 11 true (.t 1)⟩, none), (⟨some 60, none, .buildS 1 11 [.int .u64 0, .int .u64 0, .int .u64 0, .int .i64 0, .int .i64 0, .int .i64 0, .int .i64 0, .int .i64 0, .int .i64 0, .int .i64 0, .int .i64 0] [(0, .t 59)] 27⟩, none), (⟨some 61, none, .call 13 [.t 56, .t 58, .t 60, .k (.int .i64 70)]⟩, none), (⟨some 55, none, .mv (.t 61)⟩, none), (⟨some 62, none, .ext 0 (.t 55)⟩, none), (⟨some 63, none, .ext 1 (.t 55)⟩, none), (⟨some 15, none, .alloc [.nilsl, .nilsl, .nilsl] 50⟩, some [⟨some 56, none, .call 12 []⟩, ⟨some 58, none, .ld 1 false (.t 57)⟩, ⟨some 59, none, .ld 11 true (.t 1)⟩, ⟨some 61, none, .call 13 [.t 56, .t 58, .t 60, .k (.int .i64 70)]⟩]), (⟨none, none, .st 3 (.t 15) (.t 62)⟩, some []), (⟨some 16, none, .mv (.t 63)⟩, none)]) (.seq (.rd [(⟨some 65, none, .call 12 []⟩, none), (⟨some 66, none, .fa 0 (.t 11)⟩, none), (⟨some 67, none, .ld 1 false (.t 66)⟩, none), (⟨some 68, none, .ld 11 true (.t 1)⟩, none), (⟨some 69, none, .buildS 1 11 [.int .u64 0, .int .u64 0, .int .u64 0, .int .i64 0, .int .i64 0, .int .i64 0, .int .i64 0, .int .i64 0, .int .i64 0, .int .i64 0, .int .i64 0] [(0, .t 68)] 27⟩, none), (⟨some 70, none, .call 13 [.t 65, .t 67, .t 69, .k (.int .i64 130)]⟩, none), (⟨some 64, none, .mv (.t 70)⟩, none), (⟨some 71, none, .ext 0 (.t 64)⟩, none), (⟨some 72, none, .ext 1 (.t 64)⟩, none), (⟨some 17, none, .alloc [.nilsl, .nilsl, .nilsl] 50⟩, some [⟨some 65, none, .call 12 []⟩, ⟨some 67, none, .ld 1 false (.t 66)⟩, ⟨some 68, none, .ld 11 true (.t 1)⟩, ⟨some 70, none, .call 13 [.t 65, .t 67, .t 69, .k (.int .i64 130)]⟩]), (⟨none, none, .st 3 (.t 17) (.t 71)⟩, some []), (⟨some 18, none, .mv (.t 72)⟩, none)]) (.seq (.rg [⟨some 73, none, .build [.int .u64 0, .int .i64 0, .int .i64 0] [(0, 1, .k (.int .u64 1)), (1, 1, .k (.int .i64 2)), (2, 1, .k (.int .i64 50))]⟩, ⟨some 74, none, .buildS 1 3 [.int .u64 0, .int .i64 0, .int .i64 0] [(0, .t 73)] 55⟩, ⟨some 75, none, .build [.int .u64 0, .int .u64 0, .int .i64 0, .int .i64 0, .int .i64 0] [(0, 1, .k (.int .u64 1)), (1, 1, .k (.int .u64 7)), (2, 1, .k (.int .i64 2)), (3, 1, .k (.int .i64 10)), (4, 1, .k (.int .i64 60))]⟩, ⟨some 76, none, .buildS 1 5 [.int .u64 0, .int .u64 0, .int .i64 0, .int .i64 0, .int .i64 0] [(0, .t 75)] 57⟩, ⟨some 77, none, .build [.nilsl, .nilsl, .nilsl] [(0, 1, .t 74), (1, 1, .t 76)]⟩, ⟨some 19, none, .alloc [.nilsl, .nilsl, .nilsl] 50⟩, ⟨none, none, .st 3 (.t 19) (.t 77)⟩]) (.seq (.rg [⟨some 78, none, .mv (.t 2)⟩, ⟨some 79, none, .bin .eql .leaf (.t 78) (.k (.int .i64 0))⟩, ⟨some 80, none, .mv (.t 79)⟩, ⟨some 81, some (80, true), .mv (.t 5)⟩, ⟨some 82, some (80, true), .bin .eql .leaf (.t 81) (.k (.int .i64 2))⟩, ⟨some 83, none, .pick (.t 80) (.t 82) (.k (.bool false))⟩, ⟨some 84, none, .mv (.t 83)⟩, ⟨some 85, some (84, true), .mv (.t 8)⟩, ⟨some 86, some (84, true), .bin .eql .leaf (.t 85) (.k (.int .i64 3))⟩, ⟨some 87, none, .pick (.t 84) (.t 86) (.k (.bool false))⟩, ⟨some 88, none, .mv (.t 87)⟩, ⟨some 89, some (88, true), .mv (.t 9)⟩, ⟨some 90, none, .pick (.t 88) (.t 89) (.k (.bool false))⟩, ⟨some 91, none, .mv (.t 90)⟩, ⟨some 92, some (91, true), .mv (.t 10)⟩, ⟨some 93, some (91, true), .bin .eql .leaf (.t 92) (.k (.int .i64 0))⟩, ⟨some 94, none, .pick (.t 91) (.t 93) (.k (.bool false))⟩, ⟨some 95, none, .mv (.t 94)⟩, ⟨some 96, some (95, true), .ld 3 true (.t 11)⟩, ⟨some 97, some (95, true), .ld 3 true (.t 19)⟩, ⟨some 98, some (95, true), .call 14 [.t 96, .t 97]⟩, ⟨some 99, none, .pick (.t 95) (.t 98) (.k (.bool false))⟩, ⟨some 100, none, .mv (.t 99)⟩, ⟨some 101, some (100, true), .mv (.t 12)⟩, ⟨some 102, some (100, true), .bin .eql .leaf (.t 101) (.k (.int .i64 0))⟩, ⟨some 103, none, .pick (.t 100) (.t 102) (.k (.bool false))⟩, ⟨some 104, none, .mv (.t 103)⟩, ⟨some 105, some (104, true), .fa 1 (.t 13)⟩, ⟨some 106, some (104, true), .ld 1 false (.t 105)⟩, ⟨some 107, some (104, true), .len 1 (.t 106)⟩, ⟨some 108, some (104, true), .bin .eql .leaf (.t 107) (.k (.int .i64 0))⟩, ⟨some 109, none, .pick (.t 104) (.t 108) (.k (.bool false))⟩, ⟨some 110, none, .mv (.t 109)⟩, ⟨some 111, some (110, true), .fa 1 (.t 15)⟩, ⟨some 112, some (110, true), .ld 1 false (.t 111)⟩, ⟨some 113, some (110, true), .len 1 (.t 112)⟩, ⟨some 114, some (110, true), .bin .eql .leaf (.t 113) (.k (.int .i64 1))⟩, ⟨some 115, none, .pick (.t 110) (.t 114) (.k (.bool false))⟩, ⟨some 116, none, .mv (.t 115)⟩, ⟨some 117, some (116, true), .fa 1 (.t 15)⟩, ⟨some 118, some (116, true), .ld 1 false (.t 117)⟩, ⟨some 119, some (116, true), .ia 5 (.t 118) (.k (.int .i64 0))⟩, ⟨some 120, some (116, true), .fa 2 (.t 119)⟩, ⟨some 121, some (116, true), .ld 1 false (.t 120)⟩, ⟨some 122, some (116, true), .bin .eql .leaf (.t 121) (.k (.int .i64 3))⟩, ⟨some 123, none, .pick (.t 116) (.t 122) (.k (.bool false))⟩, ⟨some 124, none, .mv (.t 123)⟩, ⟨some 125, some (124, true), .ld 3 true (.t 17)⟩, ⟨some 126, some (124, true), .buildS 1 1 [.int .u64 0] [(0, .k (.int .u64 1))] 25⟩, ⟨some 127, some (124, true), .build [.nilsl, .nilsl, .nilsl] [(2, 1, .t 126)]⟩, ⟨some 128, some (124, true), .call 14 [.t 125, .t 127]⟩, ⟨some 129, none, .pick (.t 124) (.t 128) (.k (.bool false))⟩, ⟨some 0, none, .mv (.t 129)⟩]) .ret))))))))))⟩ := by kernel_rfl

theorem refSame (ds : List Dn) (ns : List Nt) (ls : List Int) (h1 : ds.length < 4611686018427387904) (h2 : ns.length < 4611686018427387904) (h3 : ls.length < 4611686018427387904) : Pure 14 [dng ds ns ls, dng ds ns ls] (.bool true) := by
  intro S tk
  have e1 := dns_len ds
  have e2 := nts_len ns
  have e3 := u64s_len ls
  refine ACalls.fgo c14 rfl fun hS => ?_
  repeat' first | with_reducible refine fzD_ite (fun q => ?_) (fun q => ?_) | ((try conv => whnf); first | refine bs_n ?_ | refine bs_t (decide_eq_true rfl) ?_ | refine bs_d (fun q => ?_) (fun q => ?_) | refine bs_n ?_ | refine bs_i (fun q => ?_) (fun q => ?_) | refine eqk rfl ?_ | refine ffin _ rfl rfl hS (Sub.refl _) rfl ⟨?_, rfl, rfl⟩)
  refine floop (α := SN) rfl rfl hS (fun s => s.i ≤ ds.length) (fun s => ds.length - s.i) (fun s => [(5, .d (.int .i64 s.i)), (2, .lp 0 0), (3, .lp 1 0)])
    (fun _ => [.arr [.sl (dns ds), .sl (nts ns), .sl (u64s ls)], .arr [.sl (dns ds), .sl (nts ns), .sl (u64s ls)]]) (fun _ => []) ⟨0⟩ (Nat.zero_le _) (fstep_sub ⟨Sub.refl _, Sub.refl _, Sub.refl _, trivial⟩) ?_
  rintro s hs
  repeat' first | with_reducible refine fzD_ite (fun q => ?_) (fun q => ?_) | ((try conv => whnf); first | refine bs_n ?_ | refine bs_t (decide_eq_true rfl) ?_ | refine bs_and ?_ | refine bs_d (fun q => ?_) (fun q => ?_) <;> (try simp (disch := ((try unfold I64); omega)) only [wi64_id, td] at q) | refine bs_n ?_ | refine bs_i (fun q => ?_) (fun q => ?_) | refine pK_i (iaD_dn (i := s.i) (by first | rfl | omega | (refine Int.sub_eq_zero.mp ?_; simp (disch := ((try unfold I64); omega)) only [wi64_id, td]; omega)) (by rw [e1] at *; omega)) ?_ | refine eqk rfl ?_ | refine ffin _ rfl rfl hS (Sub.refl _) rfl ⟨?_, rfl, rfl⟩)
  · refine fnext (α := SN) ⟨s.i + 1⟩ (by rw [e1] at *; simp only; omega) (by rw [e1] at *; simp only; omega) (fstep_sub ⟨Sub.int (by first | rfl | omega | (refine Int.sub_eq_zero.mp ?_; simp (disch := ((try unfold I64); omega)) only [wi64_id, td]; omega)), Sub.refl _, Sub.refl _, trivial⟩)
  refine floop (α := SN) rfl rfl hS (fun s => s.i ≤ ns.length) (fun s => ns.length - s.i) (fun s => [(6, .d (.int .i64 s.i)), (2, .lp 0 0), (3, .lp 1 0)])
    (fun _ => [.arr [.sl (dns ds), .sl (nts ns), .sl (u64s ls)], .arr [.sl (dns ds), .sl (nts ns), .sl (u64s ls)]]) (fun _ => []) ⟨0⟩ (Nat.zero_le _) (fstep_sub ⟨Sub.refl _, Sub.refl _, Sub.refl _, trivial⟩) ?_
  rintro t ht
  repeat' first | with_reducible refine fzD_ite (fun q => ?_) (fun q => ?_) | ((try conv => whnf); first | refine bs_n ?_ | refine bs_t (decide_eq_true rfl) ?_ | refine bs_and ?_ | refine bs_d (fun q => ?_) (fun q => ?_) <;> (try simp (disch := ((try unfold I64); omega)) only [wi64_id, td] at q) | refine bs_n ?_ | refine bs_i (fun q => ?_) (fun q => ?_) | refine pK_i (iaD_nt (i := t.i) (by first | rfl | omega | (refine Int.sub_eq_zero.mp ?_; simp (disch := ((try unfold I64); omega)) only [wi64_id, td]; omega)) (by rw [e2] at *; omega)) ?_ | refine eqk rfl ?_ | refine ffin _ rfl rfl hS (Sub.refl _) rfl ⟨?_, rfl, rfl⟩)
  · refine fnext (α := SN) ⟨t.i + 1⟩ (by rw [e2] at *; simp only; omega) (by rw [e2] at *; simp only; omega) (fstep_sub ⟨Sub.int (by first | rfl | omega | (refine Int.sub_eq_zero.mp ?_; simp (disch := ((try unfold I64); omega)) only [wi64_id, td]; omega)), Sub.refl _, Sub.refl _, trivial⟩)
  refine floop (α := SN) rfl rfl hS (fun s => s.i ≤ ls.length) (fun s => ls.length - s.i) (fun s => [(7, .d (.int .i64 s.i)), (2, .lp 0 0), (3, .lp 1 0)])
    (fun _ => [.arr [.sl (dns ds), .sl (nts ns), .sl (u64s ls)], .arr [.sl (dns ds), .sl (nts ns), .sl (u64s ls)]]) (fun _ => []) ⟨0⟩ (Nat.zero_le _) (fstep_sub ⟨Sub.refl _, Sub.refl _, Sub.refl _, trivial⟩) ?_
  rintro u hu
  repeat' first | with_reducible refine fzD_ite (fun q => ?_) (fun q => ?_) | ((try conv => whnf); first | refine bs_n ?_ | refine bs_t (decide_eq_true rfl) ?_ | refine bs_and ?_ | refine bs_d (fun q => ?_) (fun q => ?_) <;> (try simp (disch := ((try unfold I64); omega)) only [wi64_id, td] at q) | refine bs_n ?_ | refine bs_i (fun q => ?_) (fun q => ?_) | refine pK_i (iaD_u64 (i := u.i) (by first | rfl | omega | (refine Int.sub_eq_zero.mp ?_; simp (disch := ((try unfold I64); omega)) only [wi64_id, td]; omega)) (by rw [e3] at *; omega)) ?_ | refine eqk rfl ?_ | refine ffin _ rfl rfl hS (Sub.refl _) rfl ⟨?_, rfl, rfl⟩)
  · refine fnext (α := SN) ⟨u.i + 1⟩ (by rw [e3] at *; simp only; omega) (by rw [e3] at *; simp only; omega) (fstep_sub ⟨Sub.int (by first | rfl | omega | (refine Int.sub_eq_zero.mp ?_; simp (disch := ((try unfold I64); omega)) only [wi64_id, td]; omega)), Sub.refl _, Sub.refl _, trivial⟩)
  rfl

theorem policy : Pure 12 [] (Po.d ⟨[3, 10, 30], 90⟩) := by
  intro S tk
  refine ACalls.fgo c12 rfl fun hS => ?_
  repeat' first | with_reducible refine fzD_ite (fun q => ?_) (fun q => ?_) | ((try conv => whnf); first | refine bs_d (fun q => ?_) (fun q => ?_) | refine bs_n ?_ | refine bs_i (fun q => ?_) (fun q => ?_) | refine eqk rfl ?_ | refine ffin _ rfl rfl hS (Sub.refl _) rfl ⟨?_, rfl, rfl⟩)
  all_goals rfl
def p0 : Po := ⟨[3, 10, 30], 90⟩
def x0 : Iv := ⟨1, 7, 0, 10, 40, 10, 41, 60, 0, 0, 0⟩
theorem p0R : p0.R := ⟨by simp [p0], by simp only [p0, List.mem_cons, List.not_mem_nil, or_false]; rintro n (rfl | rfl | rfl) <;> (unfold I64; omega), by simp only [p0]; unfold I64; omega⟩
theorem x0R : x0.R := by constructor <;> (simp only [x0]; first | unfold I64 | unfold U64) <;> omega
theorem in0 (duns : List Dn) (day : Int) (hd : duns.length ≤ 40) (h : ∀ d ∈ duns, U64 d.inv ∧ I64 d.st ∧ I64 d.si) (hday : I64 day) : RunIn p0 duns [x0] day :=
  ⟨p0R, by simp only [List.mem_singleton]; rintro x rfl; exact x0R, by simp, hd, h, hday⟩
theorem mayL0 : mayL [x0] := ⟨by simp only [List.mem_singleton]; rintro x rfl; decide, by decide⟩
theorem run0 {duns : List Dn} {day : Int} {ds : List Dn} {ns : List Nt} {ls : List Int} (hi : RunIn p0 duns [x0] day) (hd : 1 ≤ day ∧ day ≤ 3652059) (hD : mayD [x0] duns) (h1 : runD p0 duns day [x0] = ds) (h2 : runN p0 duns day [x0] = ns) (h3 : runL p0 day [x0] = ls) :
    Pure 13 [p0.d, .sl (dns duns), .sl (ivs [x0]), .int .i64 day] (.tup [dng ds ns ls, .int .i64 0]) := by
  have := dunRun p0 duns [x0] day hi
  rw [if_pos ⟨by decide, hd, mayL0, hD⟩, runR, h1, h2, h3] at this
  exact this
theorem mayD1 : mayD [x0] [⟨1, 2, 50⟩] := ⟨by decide, by simp only [List.mem_singleton]; rintro d rfl; exact ⟨by decide, by decide, by decide, by decide, by decide⟩⟩
set_option maxHeartbeats 2000000 in
theorem head : Pure 4 [] (.bool true) := by
  intro S tk
  have hU : ∀ d ∈ ([⟨1, 2, 50⟩] : List Dn), U64 d.inv ∧ I64 d.st ∧ I64 d.si := by simp only [List.mem_singleton]; rintro d rfl; exact ⟨by unfold U64; decide, by unfold I64; decide, by unfold I64; decide⟩
  have p1 : Pure 5 [p0.d, .int .i64 2] (.tup [.int .i64 0, .bool false, .int .i64 0]) := dunStage p0 p0R 2
  have p2 : Pure 5 [p0.d, .int .i64 10] (.tup [.int .i64 2, .bool false, .int .i64 0]) := dunStage p0 p0R 10
  have p3 : Pure 5 [p0.d, .int .i64 90] (.tup [.int .i64 3, .bool true, .int .i64 0]) := dunStage p0 p0R 90
  have q1 := run0 (duns := []) (day := 50) (ds := [⟨1, 2, 50⟩]) (ns := [⟨1, 7, 2, 10, 60⟩]) (ls := []) (in0 [] 50 (by simp) (by simp) (by unfold I64; omega)) (by omega) ⟨by decide, by simp⟩ (by decide) (by decide) (by decide)
  have q2 := run0 (duns := [⟨1, 2, 50⟩]) (day := 51) (ds := [⟨1, 2, 50⟩]) (ns := []) (ls := []) (in0 _ 51 (by simp) hU (by unfold I64; omega)) (by omega) mayD1 (by decide) (by decide) (by decide)
  have q3 := run0 (duns := [⟨1, 2, 50⟩]) (day := 70) (ds := [⟨1, 3, 70⟩]) (ns := [⟨1, 7, 3, 30, 60⟩]) (ls := []) (in0 _ 70 (by simp) hU (by unfold I64; omega)) (by omega) mayD1 (by decide) (by decide) (by decide)
  have q4 := run0 (duns := [⟨1, 2, 50⟩]) (day := 130) (ds := []) (ns := []) (ls := [1]) (in0 _ 130 (by simp) hU (by unfold I64; omega)) (by omega) mayD1 (by decide) (by decide) (by decide)
  have s1 := refSame [⟨1, 2, 50⟩] [⟨1, 7, 2, 10, 60⟩] [] (by simp) (by simp) (by simp)
  have s2 := refSame [] [] [1] (by simp) (by simp) (by simp)
  refine ACalls.fgo c4 rfl fun hS => ?_
  repeat' first | with_reducible refine fzD_ite (fun q => ?_) (fun q => ?_) | ((try conv => whnf); first | refine bs_t (decide_eq_true rfl) ?_ | refine bs_d (fun q => ?_) (fun q => ?_) | refine bs_n ?_ | refine bs_i (fun q => ?_) (fun q => ?_) | refine ckz (policy) ?_ | refine cq (policy) ?_ | refine ckz (p1) ?_ | refine cq (p1) ?_ | refine ckz (p2) ?_ | refine cq (p2) ?_ | refine ckz (p3) ?_ | refine cq (p3) ?_ | refine ckz (q2) ?_ | refine cq (q2) ?_ | refine ckz (q3) ?_ | refine cq (q3) ?_ | refine ckz (q4) ?_ | refine cq (q4) ?_ | refine ckS (by first | rfl | simp) rfl q1 (.cons (Sub.refl _) (.cons Sub.nil (SubL.refl _))) ?_ | refine cqS q1 (.cons (Sub.refl _) (.cons Sub.nil (SubL.refl _))) ?_ | refine ckS (by first | rfl | simp) rfl s1 (.cons (Sub.refl _) (.cons (Sub.agg (.cons (Sub.refl _) (.cons (Sub.refl _) (.cons Sub.nil .nil)))) .nil)) ?_ | refine ckS (by first | rfl | simp) rfl s2 (.cons (Sub.refl _) (.cons (Sub.agg (.cons Sub.nil (.cons Sub.nil (.cons (Sub.refl _) .nil)))) .nil)) ?_ | refine eqk rfl ?_ | refine ffin _ rfl rfl hS (Sub.refl _) rfl ⟨?_, rfl, rfl⟩)
  all_goals rfl

open Classical in
theorem run_form (p : Po) (duns : List Dn) (l : List Iv) (day : Int) (hl : l.length ≤ 40) : ∃ ds ns ls e, (if runOK p duns l day then runR p duns l day else runE) = .tup [dng ds ns ls, .int .i64 e] ∧ ds.length ≤ 40 ∧ ns.length ≤ 40 ∧ ls.length ≤ 40 := by
  by_cases h : runOK p duns l day
  · rw [if_pos h]
    exact ⟨_, _, _, 0, rfl, Nat.le_trans (fm_len (fun x => newD_len ..) l) hl, Nat.le_trans (fm_len (fun x => newN_len ..) l) hl, Nat.le_trans (fm_len (fun x => newL_len ..) l) hl⟩
  · rw [if_neg h]
    exact ⟨[], [], [], 2, rfl, by simp, by simp, by simp⟩
def askedD (p : Po) (duns : List Dn) (l : List Iv) (day : Int) : D := .agg [.sl (i64s p.days), .int .i64 p.lose, .sl (dns duns), .sl (ivs l), .int .i64 day]
end Go.KL.YtjjdfplonbgpbaaDoor.U
