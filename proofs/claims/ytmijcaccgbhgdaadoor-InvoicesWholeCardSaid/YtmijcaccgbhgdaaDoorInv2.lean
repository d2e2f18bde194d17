/- package invoices and its reference: which invoices may be, what is open -/
import Derived.Test.YtmijcaccgbhgdaaDoorInv
set_option linter.unusedVariables false
set_option linter.unusedSimpArgs false
set_option maxRecDepth 4000
namespace Go.KL.YtmijcaccgbhgdaaDoor
open Go Go.KL Go.RowKit Go.Proofs

/-- an invoice's numbers -/
structure Iv where
  id : Int
  cu : Int
  co : Int
  day : Int
  due : Int
  fr : Int
  nx : Int
  am : Int
  cr : Int
  pd : Int
  lo : Int
  deriving DecidableEq
def Iv.cs (x : Iv) : List D := [.int .u64 x.id, .int .u64 x.cu, .int .u64 x.co, .int .i64 x.day, .int .i64 x.due, .int .i64 x.fr, .int .i64 x.nx, .int .i64 x.am, .int .i64 x.cr, .int .i64 x.pd, .int .i64 x.lo]
def Iv.d (x : Iv) : D := .agg x.cs
structure Iv.R (x : Iv) : Prop where
  id : U64 x.id
  cu : U64 x.cu
  co : U64 x.co
  day : I64 x.day
  due : I64 x.due
  fr : I64 x.fr
  nx : I64 x.nx
  am : I64 x.am
  cr : I64 x.cr
  pd : I64 x.pd
  lo : I64 x.lo
/-- may it be? -/
def Iv.ok (x : Iv) : Prop :=
  (x.id ≠ 0 ∧ x.cu ≠ 0 ∧ 1 ≤ x.day ∧ x.day ≤ x.due ∧ x.due ≤ 3652059 ∧ 1 ≤ x.fr ∧ x.fr < x.nx ∧ x.nx ≤ 3652060) ∧
  (0 ≤ x.am ∧ x.am ≤ 4611686018427387903 ∧ 0 ≤ x.cr ∧ x.cr ≤ x.am ∧ 0 ≤ x.pd ∧ x.pd ≤ x.am ∧ 0 ≤ x.lo ∧ x.lo ≤ x.am) ∧ x.cr + x.pd + x.lo ≤ x.am
instance (x : Iv) : Decidable x.ok := inferInstanceAs (Decidable ((x.id ≠ 0 ∧ x.cu ≠ 0 ∧ 1 ≤ x.day ∧ x.day ≤ x.due ∧ x.due ≤ 3652059 ∧ 1 ≤ x.fr ∧ x.fr < x.nx ∧ x.nx ≤ 3652060) ∧ (0 ≤ x.am ∧ x.am ≤ 4611686018427387903 ∧ 0 ≤ x.cr ∧ x.cr ≤ x.am ∧ 0 ≤ x.pd ∧ x.pd ≤ x.am ∧ 0 ≤ x.lo ∧ x.lo ≤ x.am) ∧ x.cr + x.pd + x.lo ≤ x.am))

theorem c23 : cFun E0.P 23 = some ⟨71, [(2, none)], .seq (.rg [⟨some 1, none, .box (.t 0) 24⟩, ⟨some 2, none, .mv (.k (.int .i64 0))⟩]) (.seq (.rg [⟨some 6, none, .fa 3 (.t 1)⟩, ⟨some 7, none, .ld 1 false (.t 6)⟩, ⟨some 8, none, .fa 4 (.t 1)⟩, ⟨some 9, none, .ld 1 false (.t 8)⟩, ⟨some 10, none, .fa 4 (.t 1)⟩, ⟨some 11, none, .ld 1 false (.t 10)⟩, ⟨some 12, none, .fa 5 (.t 1)⟩, ⟨some 13, none, .ld 1 false (.t 12)⟩, ⟨some 14, none, .fa 6 (.t 1)⟩, ⟨some 15, none, .ld 1 false (.t 14)⟩, ⟨some 16, none, .bin .sub .leaf (.t 15) (.k (.int .i64 1))⟩, ⟨some 17, none, .fa 6 (.t 1)⟩, ⟨some 18, none, .ld 1 false (.t 17)⟩, ⟨some 19, none, .buildS 12 1 [.int .i64 0] [(0, .k (.int .i64 1)), (1, .t 7), (2, .t 9), (3, .k (.int .i64 1)), (4, .t 11), (5, .k (.int .i64 3652059)), (6, .k (.int .i64 1)), (7, .t 13), (8, .t 16), (9, .k (.int .i64 1)), (10, .t 18), (11, .k (.int .i64 3652060))] 2⟩, ⟨some 20, none, .call 25 [.t 19]⟩, ⟨some 3, none, .mv (.t 20)⟩]) (.seq (.seq (.rg [⟨some 21, none, .fa 0 (.t 1)⟩, ⟨some 22, none, .ld 1 false (.t 21)⟩, ⟨some 23, none, .bin .eql .leaf (.t 22) (.k (.int .u64 0))⟩, ⟨some 24, none, .mv (.t 23)⟩, ⟨some 25, some (24, false), .fa 1 (.t 1)⟩, ⟨some 26, some (24, false), .ld 1 false (.t 25)⟩, ⟨some 27, some (24, false), .bin .eql .leaf (.t 26) (.k (.int .u64 0))⟩, ⟨some 28, none, .pick (.t 24) (.k (.bool true)) (.t 27)⟩, ⟨some 29, none, .mv (.t 28)⟩, ⟨some 30, some (29, false), .mv (.t 3)⟩, ⟨some 31, some (29, false), .un .not (.t 30)⟩, ⟨some 32, none, .pick (.t 29) (.k (.bool true)) (.t 31)⟩, ⟨some 33, none, .mv (.t 32)⟩, ⟨some 34, some (33, false), .fa 7 (.t 1)⟩, ⟨some 35, some (33, false), .ld 1 false (.t 34)⟩, ⟨some 36, some (33, false), .fa 8 (.t 1)⟩, ⟨some 37, some (33, false), .ld 1 false (.t 36)⟩, ⟨some 38, some (33, false), .fa 7 (.t 1)⟩, ⟨some 39, some (33, false), .ld 1 false (.t 38)⟩, ⟨some 40, some (33, false), .fa 9 (.t 1)⟩, ⟨some 41, some (33, false), .ld 1 false (.t 40)⟩, ⟨some 42, some (33, false), .fa 7 (.t 1)⟩, ⟨some 43, some (33, false), .ld 1 false (.t 42)⟩, ⟨some 44, some (33, false), .fa 10 (.t 1)⟩, ⟨some 45, some (33, false), .ld 1 false (.t 44)⟩, ⟨some 46, some (33, false), .fa 7 (.t 1)⟩, ⟨some 47, some (33, false), .ld 1 false (.t 46)⟩, ⟨some 48, some (33, false), .buildS 12 1 [.int .i64 0] [(0, .k (.int .i64 0)), (1, .t 35), (2, .k (.int .i64 4611686018427387903)), (3, .k (.int .i64 0)), (4, .t 37), (5, .t 39), (6, .k (.int .i64 0)), (7, .t 41), (8, .t 43), (9, .k (.int .i64 0)), (10, .t 45), (11, .t 47)] 2⟩, ⟨some 49, some (33, false), .call 25 [.t 48]⟩, ⟨some 50, some (33, false), .un .not (.t 49)⟩, ⟨some 51, none, .pick (.t 33) (.k (.bool true)) (.t 50)⟩]) (.cond (.t 51) (.seq (.rg [⟨some 2, none, .mv (.k (.int .i64 2))⟩]) .ret) .skip)) (.seq (.seq (.rg [⟨some 53, none, .fa 8 (.t 1)⟩, ⟨some 54, none, .ld 1 false (.t 53)⟩, ⟨some 55, none, .fa 9 (.t 1)⟩, ⟨some 56, none, .ld 1 false (.t 55)⟩, ⟨some 57, none, .fa 10 (.t 1)⟩, ⟨some 58, none, .ld 1 false (.t 57)⟩, ⟨some 59, none, .buildS 3 1 [.int .i64 0] [(0, .t 54), (1, .t 56), (2, .t 58)] 2⟩, ⟨some 60, none, .call 13 [.t 59]⟩, ⟨some 52, none, .mv (.t 60)⟩, ⟨some 61, none, .ext 0 (.t 52)⟩, ⟨some 62, none, .ext 1 (.t 52)⟩, ⟨some 4, none, .mv (.t 61)⟩, ⟨some 5, none, .mv (.t 62)⟩]) (.seq (.rg [⟨some 63, none, .mv (.t 5)⟩, ⟨some 64, none, .un .not (.t 63)⟩, ⟨some 65, none, .mv (.t 64)⟩, ⟨some 66, some (65, false), .mv (.t 4)⟩, ⟨some 67, some (65, false), .fa 7 (.t 1)⟩, ⟨some 68, some (65, false), .ld 1 false (.t 67)⟩, ⟨some 69, some (65, false), .bin .gtr .leaf (.t 66) (.t 68)⟩, ⟨some 70, none, .pick (.t 65) (.k (.bool true)) (.t 69)⟩]) (.cond (.t 70) (.seq (.rg [⟨some 2, none, .mv (.k (.int .i64 2))⟩]) .ret) .skip))) (.seq (.rg [⟨some 2, none, .mv (.k (.int .i64 0))⟩]) .ret))))⟩ := by kernel_rfl
theorem c12 : cFun E0.P 12 = some ⟨17, [(2, none)], .seq (.rg [⟨some 1, none, .box (.t 0) 24⟩, ⟨some 2, none, .mv (.k (.int .i64 0))⟩]) (.seq (.seq (.rg [⟨some 3, none, .ld 11 true (.t 1)⟩, ⟨some 4, none, .call 23 [.t 3]⟩, ⟨some 5, none, .bin .neq .leaf (.t 4) (.k (.int .i64 0))⟩]) (.cond (.t 5) (.seq (.rg [⟨some 2, none, .mv (.k (.int .i64 0))⟩]) .ret) .skip)) (.seq (.rg [⟨some 6, none, .fa 7 (.t 1)⟩, ⟨some 7, none, .ld 1 false (.t 6)⟩, ⟨some 8, none, .fa 8 (.t 1)⟩, ⟨some 9, none, .ld 1 false (.t 8)⟩, ⟨some 10, none, .bin .sub .leaf (.t 7) (.t 9)⟩, ⟨some 11, none, .fa 9 (.t 1)⟩, ⟨some 12, none, .ld 1 false (.t 11)⟩, ⟨some 13, none, .bin .sub .leaf (.t 10) (.t 12)⟩, ⟨some 14, none, .fa 10 (.t 1)⟩, ⟨some 15, none, .ld 1 false (.t 14)⟩, ⟨some 16, none, .bin .sub .leaf (.t 13) (.t 15)⟩, ⟨some 2, none, .mv (.t 16)⟩]) .ret))⟩ := by kernel_rfl
theorem c22 : cFun E0.P 22 = some ⟨103, [(2, none), (3, none)], .seq (.rg [⟨some 1, none, .box (.t 0) 24⟩, ⟨some 2, none, .mv (.k (.int .i64 0))⟩, ⟨some 3, none, .mv (.k (.bool false))⟩]) (.seq (.seq (.rg [⟨some 5, none, .fa 0 (.t 1)⟩, ⟨some 6, none, .ld 1 false (.t 5)⟩, ⟨some 7, none, .bin .eql .leaf (.t 6) (.k (.int .u64 0))⟩, ⟨some 8, none, .mv (.t 7)⟩, ⟨some 9, some (8, false), .fa 1 (.t 1)⟩, ⟨some 10, some (8, false), .ld 1 false (.t 9)⟩, ⟨some 11, some (8, false), .bin .eql .leaf (.t 10) (.k (.int .u64 0))⟩, ⟨some 12, none, .pick (.t 8) (.k (.bool true)) (.t 11)⟩, ⟨some 13, none, .mv (.t 12)⟩, ⟨some 14, some (13, false), .fa 3 (.t 1)⟩, ⟨some 15, some (13, false), .ld 1 false (.t 14)⟩, ⟨some 16, some (13, false), .call 26 [.t 15]⟩, ⟨some 17, some (13, false), .un .not (.t 16)⟩, ⟨some 18, none, .pick (.t 13) (.k (.bool true)) (.t 17)⟩, ⟨some 19, none, .mv (.t 18)⟩, ⟨some 20, some (19, false), .fa 4 (.t 1)⟩, ⟨some 21, some (19, false), .ld 1 false (.t 20)⟩, ⟨some 22, some (19, false), .call 26 [.t 21]⟩, ⟨some 23, some (19, false), .un .not (.t 22)⟩, ⟨some 24, none, .pick (.t 19) (.k (.bool true)) (.t 23)⟩, ⟨some 25, none, .mv (.t 24)⟩, ⟨some 26, some (25, false), .fa 4 (.t 1)⟩, ⟨some 27, some (25, false), .ld 1 false (.t 26)⟩, ⟨some 28, some (25, false), .fa 3 (.t 1)⟩, ⟨some 29, some (25, false), .ld 1 false (.t 28)⟩, ⟨some 30, some (25, false), .bin .lss .leaf (.t 27) (.t 29)⟩, ⟨some 31, none, .pick (.t 25) (.k (.bool true)) (.t 30)⟩, ⟨some 32, none, .mv (.t 31)⟩, ⟨some 33, some (32, false), .fa 5 (.t 1)⟩, ⟨some 34, some (32, false), .ld 1 false (.t 33)⟩, ⟨some 35, some (32, false), .call 26 [.t 34]⟩, ⟨some 36, some (32, false), .un .not (.t 35)⟩, ⟨some 37, none, .pick (.t 32) (.k (.bool true)) (.t 36)⟩, ⟨some 38, none, .mv (.t 37)⟩, ⟨some 39, some (38, false), .fa 6 (.t 1)⟩, ⟨some 40, some (38, false), .ld 1 false (.t 39)⟩, ⟨some 41, some (38, false), .fa 5 (.t 1)⟩, ⟨some 42, some (38, false), .ld 1 false (.t 41)⟩, ⟨some 43, some (38, false), .bin .leq .leaf (.t 40) (.t 42)⟩, ⟨some 44, none, .pick (.t 38) (.k (.bool true)) (.t 43)⟩, ⟨some 45, none, .mv (.t 44)⟩, ⟨some 46, some (45, false), .fa 6 (.t 1)⟩, ⟨some 47, some (45, false), .ld 1 false (.t 46)⟩, ⟨some 48, some (45, false), .bin .gtr .leaf (.t 47) (.k (.int .i64 3652060))⟩, ⟨some 49, none, .pick (.t 45) (.k (.bool true)) (.t 48)⟩]) (.cond (.t 49) (.seq (.rg [⟨some 2, none, .mv (.k (.int .i64 0))⟩, ⟨some 3, none, .mv (.k (.bool false))⟩]) .ret) .skip)) (.seq (.seq (.rg [⟨some 50, none, .fa 7 (.t 1)⟩, ⟨some 51, none, .ld 1 false (.t 50)⟩, ⟨some 52, none, .bin .lss .leaf (.t 51) (.k (.int .i64 0))⟩, ⟨some 53, none, .mv (.t 52)⟩, ⟨some 54, some (53, false), .fa 7 (.t 1)⟩, ⟨some 55, some (53, false), .ld 1 false (.t 54)⟩, ⟨some 56, some (53, false), .bin .geq .leaf (.t 55) (.k (.int .i64 4611686018427387904))⟩, ⟨some 57, none, .pick (.t 53) (.k (.bool true)) (.t 56)⟩, ⟨some 58, none, .mv (.t 57)⟩, ⟨some 59, some (58, false), .fa 8 (.t 1)⟩, ⟨some 60, some (58, false), .ld 1 false (.t 59)⟩, ⟨some 61, some (58, false), .fa 7 (.t 1)⟩, ⟨some 62, some (58, false), .ld 1 false (.t 61)⟩, ⟨some 63, some (58, false), .call 31 [.t 60, .t 62]⟩, ⟨some 64, some (58, false), .un .not (.t 63)⟩, ⟨some 65, none, .pick (.t 58) (.k (.bool true)) (.t 64)⟩, ⟨some 66, none, .mv (.t 65)⟩, ⟨some 67, some (66, false), .fa 9 (.t 1)⟩, ⟨some 68, some (66, false), .ld 1 false (.t 67)⟩, ⟨some 69, some (66, false), .fa 7 (.t 1)⟩, ⟨some 70, some (66, false), .ld 1 false (.t 69)⟩, ⟨some 71, some (66, false), .call 31 [.t 68, .t 70]⟩, ⟨some 72, some (66, false), .un .not (.t 71)⟩, ⟨some 73, none, .pick (.t 66) (.k (.bool true)) (.t 72)⟩, ⟨some 74, none, .mv (.t 73)⟩, ⟨some 75, some (74, false), .fa 10 (.t 1)⟩, ⟨some 76, some (74, false), .ld 1 false (.t 75)⟩, ⟨some 77, some (74, false), .fa 7 (.t 1)⟩, ⟨some 78, some (74, false), .ld 1 false (.t 77)⟩, ⟨some 79, some (74, false), .call 31 [.t 76, .t 78]⟩, ⟨some 80, some (74, false), .un .not (.t 79)⟩, ⟨some 81, none, .pick (.t 74) (.k (.bool true)) (.t 80)⟩]) (.cond (.t 81) (.seq (.rg [⟨some 2, none, .mv (.k (.int .i64 0))⟩, ⟨some 3, none, .mv (.k (.bool false))⟩]) .ret) .skip)) (.seq (.rg [⟨some 82, none, .fa 7 (.t 1)⟩, ⟨some 83, none, .ld 1 false (.t 82)⟩, ⟨some 84, none, .fa 8 (.t 1)⟩, ⟨some 85, none, .ld 1 false (.t 84)⟩, ⟨some 86, none, .bin .sub .leaf (.t 83) (.t 85)⟩, ⟨some 4, none, .mv (.t 86)⟩]) (.seq (.seq (.rg [⟨some 87, none, .fa 9 (.t 1)⟩, ⟨some 88, none, .ld 1 false (.t 87)⟩, ⟨some 89, none, .mv (.t 4)⟩, ⟨some 90, none, .bin .gtr .leaf (.t 88) (.t 89)⟩]) (.cond (.t 90) (.seq (.rg [⟨some 2, none, .mv (.k (.int .i64 0))⟩, ⟨some 3, none, .mv (.k (.bool false))⟩]) .ret) .skip)) (.seq (.rg [⟨some 91, none, .mv (.t 4)⟩, ⟨some 92, none, .fa 9 (.t 1)⟩, ⟨some 93, none, .ld 1 false (.t 92)⟩, ⟨some 94, none, .bin .sub .leaf (.t 91) (.t 93)⟩, ⟨some 4, none, .mv (.t 94)⟩]) (.seq (.seq (.rg [⟨some 95, none, .fa 10 (.t 1)⟩, ⟨some 96, none, .ld 1 false (.t 95)⟩, ⟨some 97, none, .mv (.t 4)⟩, ⟨some 98, none, .bin .gtr .leaf (.t 96) (.t 97)⟩]) (.cond (.t 98) (.seq (.rg [⟨some 2, none, .mv (.k (.int .i64 0))⟩, ⟨some 3, none, .mv (.k (.bool false))⟩]) .ret) .skip)) (.seq (.rg [⟨some 99, none, .mv (.t 4)⟩, ⟨some 100, none, .fa 10 (.t 1)⟩, ⟨some 101, none, .ld 1 false (.t 100)⟩, ⟨some 102, none, .bin .sub .leaf (.t 99) (.t 101)⟩, ⟨some 2, none, .mv (.t 102)⟩, ⟨some 3, none, .mv (.k (.bool true))⟩]) .ret)))))))⟩ := by kernel_rfl
theorem c24 : cFun E0.P 24 = some ⟨12, [(2, none)], .seq (.rg [⟨some 1, none, .box (.t 0) 24⟩, ⟨some 2, none, .mv (.k (.int .i64 0))⟩]) (.seq (.rg [⟨some 6, none, .ld 11 true (.t 1)⟩, ⟨some 7, none, .call 22 [.t 6]⟩, ⟨some 5, none, .mv (.t 7)⟩, ⟨some 8, none, .ext 0 (.t 5)⟩, ⟨some 9, none, .ext 1 (.t 5)⟩, ⟨some 3, none, .mv (.t 8)⟩, ⟨some 4, none, .mv (.t 9)⟩]) (.seq (.seq (.rg [⟨some 10, none, .mv (.t 4)⟩, ⟨some 11, none, .un .not (.t 10)⟩]) (.cond (.t 11) (.seq (.rg [⟨some 2, none, .mv (.k (.int .i64 2))⟩]) .ret) .skip)) (.seq (.rg [⟨some 2, none, .mv (.k (.int .i64 0))⟩]) .ret)))⟩ := by kernel_rfl

theorem Check (x : Iv) (hx : x.R) : Pure 23 [x.d] (.int .i64 (if x.ok then 0 else 2)) := by
  intro S tk
  refine ACalls.fgo c23 rfl fun hS => ?_
  refine ck rfl rfl (within [1, x.day, x.due, 1, x.due, 3652059, 1, x.fr, _, 1, x.nx, 3652060] (by simp)) ?_
  have h1 := hx.fr
  have h2 := hx.nx
  unfold I64 at h1 h2
  repeat' first | with_reducible refine fzD_ite (fun q => ?_) (fun q => ?_) | ((try conv => whnf); first
    | refine bs_d (fun q => ?_) (fun q => ?_)
    | refine bs_n ?_
    | refine bs_i (fun q => ?_) (fun q => ?_)
    | refine ck rfl rfl (within [0, x.am, 4611686018427387903, 0, x.cr, x.am, 0, x.pd, x.am, 0, x.lo, x.am] (by simp)) ?_
    | refine cq (within [0, x.am, 4611686018427387903, 0, x.cr, x.am, 0, x.pd, x.am, 0, x.lo, x.am] (by simp)) ?_
    | refine ck rfl rfl (Sum [x.cr, x.pd, x.lo] (by simp) (by simp [hx.cr, hx.pd, hx.lo])) ?_
    | refine cq (Sum [x.cr, x.pd, x.lo] (by simp) (by simp [hx.cr, hx.pd, hx.lo])) ?_
    | refine ffin _ rfl rfl hS (Sub.refl _) rfl ⟨?_, rfl, rfl⟩)
  all_goals try simp only [withinS_cons, withinS_nil, Bool.and_eq_true, Bool.and_eq_false_iff, decide_eq_true_eq, decide_eq_false_iff_not, wi64, List.sum_cons, List.sum_nil, reduceCtorEq, or_false, and_true, Bool.true_eq_false, Bool.false_eq_true] at *
  all_goals try simp only [tupD, D.int.injEq, true_and]
  all_goals first
    | (rw [if_neg (by unfold Iv.ok; omega)])
    | (rw [if_pos (by unfold Iv.ok; omega)])

theorem refOpen (x : Iv) (hx : x.R) : Pure 22 [x.d] (if x.ok then .tup [.int .i64 (x.am - x.cr - x.pd - x.lo), .bool true] else .tup [.int .i64 0, .bool false]) := by
  intro S tk
  refine ACalls.fgo c22 rfl fun hS => ?_
  have h1 := hx.fr
  have h2 := hx.nx
  unfold I64 at h1 h2
  repeat' first | with_reducible refine fzD_ite (fun q => ?_) (fun q => ?_) | ((try conv => whnf); first
    | refine bs_d (fun q => ?_) (fun q => ?_)
    | refine bs_n ?_
    | refine bs_i (fun q => ?_) (fun q => ?_)
    | refine ck rfl rfl (day _) ?_
    | refine cq (day _) ?_
    | refine ck rfl rfl (part _ _) ?_
    | refine cq (part _ _) ?_
    | refine ffin _ rfl rfl hS (Sub.refl _) rfl ⟨?_, rfl, rfl⟩)
  all_goals try simp only [wi64] at *
  all_goals try simp only [tupD]
  all_goals first
    | (rw [if_neg (by unfold Iv.ok; omega)])
    | (rw [if_pos (by unfold Iv.ok; omega)]; simp only [D.tup.injEq, List.cons.injEq, D.int.injEq, true_and, and_true]; omega)

theorem refCheck (x : Iv) (hx : x.R) : Pure 24 [x.d] (.int .i64 (if x.ok then 0 else 2)) := by
  intro S tk
  refine ACalls.fgo c24 rfl fun hS => ?_
  repeat' first | with_reducible refine fzD_ite (fun q => ?_) (fun q => ?_) | ((try conv => whnf); first
    | refine bs_d (fun q => ?_) (fun q => ?_)
    | refine bs_n ?_
    | refine bs_i (fun q => ?_) (fun q => ?_)
    | refine ck rfl rfl (refOpen x hx) ?_
    | refine cq (refOpen x hx) ?_
    | refine ffin _ rfl rfl hS (Sub.refl _) rfl ⟨?_, rfl, rfl⟩)
  all_goals simp only [tupD, D.int.injEq, true_and]
  all_goals first
    | rw [if_neg ‹_›]
    | rw [if_pos ‹_›]

/-- what is open -/
def Iv.op (x : Iv) : Int := if x.ok then x.am - x.cr - x.pd - x.lo else 0

theorem Open (x : Iv) (hx : x.R) : Pure 12 [x.d] (.int .i64 x.op) := by
  intro S tk
  have hc := Check x hx
  by_cases hok : x.ok
  · rw [if_pos hok] at hc
    refine ACalls.fgo c12 rfl fun hS => ?_
    repeat' first | with_reducible refine fzD_ite (fun q => ?_) (fun q => ?_) | ((try conv => whnf); first
      | refine bs_d (fun q => ?_) (fun q => ?_)
      | refine bs_n ?_
      | refine bs_i (fun q => ?_) (fun q => ?_)
      | refine ck rfl rfl (hc) ?_
      | refine cq (hc) ?_
      | refine ffin _ rfl rfl hS (Sub.refl _) rfl ⟨?_, rfl, rfl⟩)
    have hk := hok
    unfold Iv.ok at hk
    simp only [tupD, Iv.op, wi64, D.int.injEq, true_and, if_pos hok]
    omega
  · rw [if_neg hok] at hc
    refine ACalls.fgo c12 rfl fun hS => ?_
    repeat' first | with_reducible refine fzD_ite (fun q => ?_) (fun q => ?_) | ((try conv => whnf); first
      | refine bs_d (fun q => ?_) (fun q => ?_)
      | refine bs_n ?_
      | refine bs_i (fun q => ?_) (fun q => ?_)
      | refine ck rfl rfl (hc) ?_
      | refine cq (hc) ?_
      | refine ffin _ rfl rfl hS (Sub.refl _) rfl ⟨?_, rfl, rfl⟩)
    simp only [tupD, Iv.op, D.int.injEq, true_and, if_neg hok]

end Go.KL.YtmijcaccgbhgdaaDoor
