/- BooksNone: books that nobody made -/
import Derived.Test.YtkojphmejddhiaaDoorBe
set_option linter.unusedVariables false
set_option linter.unusedSimpArgs false
set_option linter.unusedSectionVars false
set_option maxRecDepth 4000
namespace Go.KL.YtkojphmejddhiaaDoor.J
open Go Go.KL Go.RowKit Go.Proofs Go.KL.YtkojphmejddhiaaDoor

theorem c27 : cFun E0.P 27 = some ⟨26, [(4, none)], .seq (.rg [⟨some 4, none, .mv (.k (.int .i64 0))⟩]) (.seq (.seq (.rg [⟨some 9, none, .mv (.t 0)⟩, ⟨some 10, none, .call 34 [.t 9]⟩]) (.cond (.t 10) (.seq (.rg [⟨some 4, none, .mv (.k (.int .i64 1))⟩]) .ret) .skip)) (.seq (.rg [⟨some 11, none, .mkmap (KT.agg [KLf.i .i64, KLf.i .i64, KLf.i .u64])⟩, ⟨some 5, none, .mv (.t 11)⟩]) (.seq (.seq (.rg [⟨some 12, none, .mv (.t 1)⟩, ⟨some 13, none, .len 1 (.t 12)⟩, ⟨some 14, none, .mv (.k (.int .i64 0))⟩]) (.block 0 (.loop (.seq (.rg [⟨some 15, none, .bin .lss .leaf (.t 14) (.t 13)⟩]) (.seq (.cond (.t 15) .skip (.exit 0)) (.seq (.block 1 (.seq (.rg [⟨some 16, none, .ia 4 (.t 12) (.t 14)⟩, ⟨some 17, none, .ld 4 true (.t 16)⟩, ⟨some 7, none, .alloc [.int .i64 0, .int .u8 0, .int .u64 0, .nilsl] 32⟩, ⟨none, none, .st 4 (.t 7) (.t 17)⟩]) (.seq (.rg [⟨some 18, none, .mv (.t 0)⟩, ⟨some 19, none, .mv (.t 5)⟩, ⟨some 20, none, .ld 4 true (.t 7)⟩, ⟨some 21, none, .call 36 [.t 18, .t 19, .t 20]⟩, ⟨some 8, none, .mv (.t 21)⟩]) (.seq (.rg [⟨some 22, none, .mv (.t 8)⟩, ⟨some 23, none, .bin .neq .leaf (.t 22) (.k (.int .i64 0))⟩]) (.cond (.t 23) (.seq (.rg [⟨some 24, none, .mv (.t 8)⟩, ⟨some 4, none, .mv (.t 24)⟩]) .ret) .skip))))) (.rg [⟨some 25, none, .bin .add .leaf (.t 14) (.k (.int .i64 1))⟩, ⟨some 14, none, .mv (.t 25)⟩]))))))) (.seq (.rg [⟨some 4, none, .mv (.k (.int .i64 0))⟩]) .ret))))⟩ := by kernel_rfl
theorem c28 : cFun E0.P 28 = some ⟨38, [(4, some (4, true)), (5, none)], .seq (.rg [⟨some 4, none, .alloc [.int .i64 0, .int .u8 0, .int .u64 0, .nilsl] 32⟩, ⟨some 5, none, .mv (.k (.int .i64 0))⟩]) (.seq (.block 0 (.seq (.rg [⟨some 8, none, .mv (.t 0)⟩, ⟨some 9, none, .call 34 [.t 8]⟩, ⟨some 7, none, .mv (.t 9)⟩]) (.cond (.t 7) (.seq (.rg [⟨some 10, none, .build [.int .i64 0, .int .u8 0, .int .u64 0, .nilsl] []⟩, ⟨none, none, .st 4 (.t 4) (.t 10)⟩, ⟨some 5, none, .mv (.k (.int .i64 1))⟩]) .ret) (.seq (.rg [⟨some 12, none, .mv (.t 1)⟩, ⟨some 13, none, .bin .lss .leaf (.t 12) (.k (.int .u64 1))⟩, ⟨some 14, none, .mv (.t 13)⟩, ⟨some 15, some (14, false), .mv (.t 1)⟩, ⟨some 16, some (14, false), .mv (.t 0)⟩, ⟨some 17, some (14, false), .nilck (.t 16)⟩, ⟨some 18, some (14, false), .fa 1 (.t 17)⟩, ⟨some 19, some (14, false), .ld 1 false (.t 18)⟩, ⟨some 20, some (14, false), .len 1 (.t 19)⟩, ⟨some 21, some (14, false), .conv .u64 (.t 20)⟩, ⟨some 22, some (14, false), .bin .gtr .leaf (.t 15) (.t 21)⟩, ⟨some 23, none, .pick (.t 14) (.k (.bool true)) (.t 22)⟩, ⟨some 11, none, .mv (.t 23)⟩]) (.cond (.t 11) (.seq (.rg [⟨some 24, none, .build [.int .i64 0, .int .u8 0, .int .u64 0, .nilsl] []⟩, ⟨none, none, .st 4 (.t 4) (.t 24)⟩, ⟨some 5, none, .mv (.k (.int .i64 7))⟩]) .ret) .skip))))) (.seq (.rg [⟨some 25, none, .mv (.t 0)⟩, ⟨some 26, none, .nilck (.t 25)⟩, ⟨some 27, none, .fa 1 (.t 26)⟩, ⟨some 28, none, .ld 1 false (.t 27)⟩, ⟨some 29, none, .mv (.t 1)⟩, ⟨some 30, none, .bin .sub .leaf (.t 29) (.k (.int .u64 1))⟩, ⟨some 31, none, .ia 4 (.t 28) (.t 30)⟩, ⟨some 32, none, .ld 4 true (.t 31)⟩, ⟨some 6, none, .alloc [.int .i64 0, .int .u8 0, .int .u64 0, .nilsl] 32⟩, ⟨none, none, .st 4 (.t 6) (.t 32)⟩]) (.seq (.rg [⟨some 33, none, .fa 3 (.t 6)⟩, ⟨some 34, none, .ld 1 false (.t 33)⟩, ⟨some 35, none, .call 38 [.t 34]⟩, ⟨some 36, none, .fa 3 (.t 6)⟩, ⟨none, none, .st 1 (.t 36) (.t 35)⟩]) (.seq (.rg [⟨some 37, none, .ld 4 true (.t 6)⟩, ⟨none, none, .st 4 (.t 4) (.t 37)⟩, ⟨some 5, none, .mv (.k (.int .i64 0))⟩]) .ret))))⟩ := by kernel_rfl
theorem c7 : cFun E0.P 7 = some ⟨119, [(4, none)], .seq (.rg [⟨some 2, none, .box (.t 0) 32⟩, ⟨some 4, none, .mv (.k (.bool false))⟩]) (.seq (.seq (.rg [⟨some 17, none, .fa 3 (.t 2)⟩, ⟨some 18, none, .ld 1 false (.t 17)⟩, ⟨some 19, none, .len 1 (.t 18)⟩, ⟨some 20, none, .bin .gtr .leaf (.t 19) (.k (.int .i64 20))⟩]) (.cond (.t 20) (.seq (.rg [⟨some 21, none, .call 9 []⟩, ⟨some 4, none, .mv (.t 21)⟩]) .ret) .skip)) (.seq (.rg [⟨some 5, none, .mv (.k .nilp)⟩]) (.seq (.rg [⟨some 6, none, .alloc [.nilp, .nilsl, .nilmap, .int .i64 0] 68⟩]) (.seq (.rg [⟨some 23, none, .mv (.t 5)⟩, ⟨some 24, none, .ld 4 true (.t 2)⟩, ⟨some 25, none, .call 18 [.t 23, .t 24]⟩, ⟨some 22, none, .mv (.t 25)⟩, ⟨some 26, none, .ext 0 (.t 22)⟩, ⟨some 27, none, .ext 1 (.t 22)⟩, ⟨some 7, none, .mv (.t 26)⟩, ⟨some 8, none, .mv (.t 27)⟩]) (.seq (.rg [⟨some 29, none, .ld 4 true (.t 2)⟩, ⟨some 30, none, .call 18 [.t 6, .t 29]⟩, ⟨some 28, none, .mv (.t 30)⟩, ⟨some 31, none, .ext 0 (.t 28)⟩, ⟨some 32, none, .ext 1 (.t 28)⟩, ⟨some 9, none, .mv (.t 31)⟩, ⟨some 10, none, .mv (.t 32)⟩]) (.seq (.rd [(⟨some 35, none, .ld 4 true (.t 2)⟩, none), (⟨some 34, none, .call 11 [.k .nilp]⟩, some [⟨some 35, none, .ld 4 true (.t 2)⟩]), (⟨some 36, none, .call 18 [.t 34, .t 35]⟩, some []), (⟨some 33, none, .mv (.t 36)⟩, none), (⟨some 37, none, .ext 0 (.t 33)⟩, none), (⟨some 38, none, .ext 1 (.t 33)⟩, none), (⟨some 11, none, .mv (.t 37)⟩, none), (⟨some 12, none, .mv (.t 38)⟩, none)]) (.seq (.rg [⟨some 40, none, .mv (.t 5)⟩, ⟨some 41, none, .call 23 [.t 40, .k (.int .i64 1100)]⟩, ⟨some 39, none, .mv (.t 41)⟩, ⟨some 42, none, .ext 0 (.t 39)⟩, ⟨some 43, none, .ext 1 (.t 39)⟩, ⟨some 13, none, .mv (.t 42)⟩, ⟨some 14, none, .mv (.t 43)⟩]) (.seq (.rg [⟨some 45, none, .call 28 [.t 6, .k (.int .u64 1)]⟩, ⟨some 44, none, .mv (.t 45)⟩, ⟨some 46, none, .ext 0 (.t 44)⟩, ⟨some 47, none, .ext 1 (.t 44)⟩, ⟨some 15, none, .alloc [.int .i64 0, .int .u8 0, .int .u64 0, .nilsl] 32⟩, ⟨none, none, .st 4 (.t 15) (.t 46)⟩, ⟨some 16, none, .mv (.t 47)⟩]) (.seq (.rg [⟨some 48, none, .mv (.t 8)⟩, ⟨some 49, none, .bin .eql .leaf (.t 48) (.k (.int .i64 1))⟩, ⟨some 50, none, .mv (.t 49)⟩, ⟨some 51, some (50, true), .mv (.t 10)⟩, ⟨some 52, some (50, true), .bin .eql .leaf (.t 51) (.k (.int .i64 1))⟩, ⟨some 53, none, .pick (.t 50) (.t 52) (.k (.bool false))⟩, ⟨some 54, none, .mv (.t 53)⟩, ⟨some 55, some (54, true), .mv (.t 12)⟩, ⟨some 56, some (54, true), .bin .eql .leaf (.t 55) (.k (.int .i64 1))⟩, ⟨some 57, none, .pick (.t 54) (.t 56) (.k (.bool false))⟩, ⟨some 58, none, .mv (.t 57)⟩, ⟨some 59, some (58, true), .mv (.t 14)⟩, ⟨some 60, some (58, true), .bin .eql .leaf (.t 59) (.k (.int .i64 1))⟩, ⟨some 61, none, .pick (.t 58) (.t 60) (.k (.bool false))⟩, ⟨some 62, none, .mv (.t 61)⟩, ⟨some 63, some (62, true), .mv (.t 16)⟩, ⟨some 64, some (62, true), .bin .eql .leaf (.t 63) (.k (.int .i64 1))⟩, ⟨some 65, none, .pick (.t 62) (.t 64) (.k (.bool false))⟩, ⟨some 66, none, .mv (.t 65)⟩, ⟨some 67, some (66, true), .mv (.t 5)⟩, ⟨some 68, some (66, true), .mv (.t 1)⟩, ⟨some 69, some (66, true), .call 16 [.t 67, .t 68]⟩, ⟨some 70, some (66, true), .bin .eql .leaf (.t 69) (.k (.int .i64 1))⟩, ⟨some 71, none, .pick (.t 66) (.t 70) (.k (.bool false))⟩, ⟨some 72, none, .mv (.t 71)⟩, ⟨some 73, some (72, true), .mv (.t 1)⟩, ⟨some 74, some (72, true), .call 16 [.t 6, .t 73]⟩, ⟨some 75, some (72, true), .bin .eql .leaf (.t 74) (.k (.int .i64 1))⟩, ⟨some 76, none, .pick (.t 72) (.t 75) (.k (.bool false))⟩, ⟨some 77, none, .mv (.t 76)⟩, ⟨some 78, some (77, true), .mv (.t 5)⟩, ⟨some 79, some (77, true), .call 27 [.t 78, .k .nilsl]⟩, ⟨some 80, some (77, true), .bin .eql .leaf (.t 79) (.k (.int .i64 1))⟩, ⟨some 81, none, .pick (.t 77) (.t 80) (.k (.bool false))⟩, ⟨some 82, none, .mv (.t 81)⟩, ⟨some 83, some (82, true), .call 27 [.t 6, .k .nilsl]⟩, ⟨some 84, some (82, true), .bin .eql .leaf (.t 83) (.k (.int .i64 1))⟩, ⟨some 85, none, .pick (.t 82) (.t 84) (.k (.bool false))⟩, ⟨some 86, none, .mv (.t 85)⟩, ⟨some 87, some (86, true), .mv (.t 5)⟩, ⟨some 88, some (86, true), .call 15 [.t 87]⟩, ⟨some 89, some (86, true), .mv (.t 5)⟩, ⟨some 90, some (86, true), .call 13 [.t 89]⟩, ⟨some 91, some (86, true), .bin .add .leaf (.t 88) (.t 90)⟩, ⟨some 92, some (86, true), .mv (.t 5)⟩, ⟨some 93, some (86, true), .call 12 [.t 92]⟩, ⟨some 94, some (86, true), .len 1 (.t 93)⟩, ⟨some 95, some (86, true), .bin .add .leaf (.t 91) (.t 94)⟩, ⟨some 96, some (86, true), .call 12 [.t 6]⟩, ⟨some 97, some (86, true), .len 1 (.t 96)⟩, ⟨some 98, some (86, true), .bin .add .leaf (.t 95) (.t 97)⟩, ⟨some 99, some (86, true), .bin .eql .leaf (.t 98) (.k (.int .i64 0))⟩, ⟨some 100, none, .pick (.t 86) (.t 99) (.k (.bool false))⟩, ⟨some 101, none, .mv (.t 100)⟩, ⟨some 102, some (101, true), .mv (.t 5)⟩, ⟨some 103, some (101, true), .call 25 [.t 102, .k (.int .i64 1100), .k (.int .u64 1)]⟩, ⟨some 104, some (101, true), .mv (.t 5)⟩, ⟨some 105, some (101, true), .call 26 [.t 104, .k (.int .i64 1100), .k (.int .u64 1)]⟩, ⟨some 106, some (101, true), .bin .add .leaf (.t 103) (.t 105)⟩, ⟨some 107, some (101, true), .mv (.t 5)⟩, ⟨some 108, some (101, true), .mv (.t 1)⟩, ⟨some 109, some (101, true), .call 14 [.t 107, .k (.int .i64 1100), .t 108]⟩, ⟨some 110, some (101, true), .bin .add .leaf (.t 106) (.t 109)⟩, ⟨some 111, some (101, true), .mv (.t 1)⟩, ⟨some 112, some (101, true), .call 14 [.t 6, .k (.int .i64 1100), .t 111]⟩, ⟨some 113, some (101, true), .bin .add .leaf (.t 110) (.t 112)⟩, ⟨some 114, some (101, true), .bin .eql .leaf (.t 113) (.k (.int .i64 0))⟩, ⟨some 115, none, .pick (.t 101) (.t 114) (.k (.bool false))⟩, ⟨some 116, none, .mv (.t 115)⟩, ⟨some 117, some (116, true), .call 9 []⟩, ⟨some 118, none, .pick (.t 116) (.t 117) (.k (.bool false))⟩, ⟨some 4, none, .mv (.t 118)⟩]) .ret)))))))))⟩ := by kernel_rfl

/-! ## nil books -/
theorem post_nil (e : Ent) : Pure 18 [.nilp, e.d] (.tup [.int .u64 0, .int .i64 1]) := by
  intro S tk
  refine ACalls.fgo c18 rfl fun hS => ?_
  repeat' first | with_reducible refine fzD_ite (fun q => ?_) (fun q => ?_) | ((try conv => whnf); first | refine bs_d (fun q => ?_) (fun q => ?_) | refine bs_n ?_ | refine bs_i (fun q => ?_) (fun q => ?_) | refine ckz (none_nil) ?_ | refine cq (none_nil) ?_ | refine eqk rfl ?_ | refine ffin _ rfl rfl hS (Sub.refl _) rfl ⟨?_, rfl, rfl⟩)
  all_goals rfl
theorem bal_nil (a : Int) : Pure 23 [.nilp, .int .i64 a] (.tup [.int .i64 0, .int .i64 1]) := by
  intro S tk
  refine ACalls.fgo c23 rfl fun hS => ?_
  repeat' first | with_reducible refine fzD_ite (fun q => ?_) (fun q => ?_) | ((try conv => whnf); first | refine bs_d (fun q => ?_) (fun q => ?_) | refine bs_n ?_ | refine bs_i (fun q => ?_) (fun q => ?_) | refine ckz (none_nil) ?_ | refine cq (none_nil) ?_ | refine eqk rfl ?_ | refine ffin _ rfl rfl hS (Sub.refl _) rfl ⟨?_, rfl, rfl⟩)
  all_goals rfl
theorem close_nil (a : Int) : Pure 16 [.nilp, .int .i64 a] (.int .i64 1) := by
  intro S tk
  refine ACalls.fgo c16 rfl fun hS => ?_
  repeat' first | with_reducible refine fzD_ite (fun q => ?_) (fun q => ?_) | ((try conv => whnf); first | refine bs_d (fun q => ?_) (fun q => ?_) | refine bs_n ?_ | refine bs_i (fun q => ?_) (fun q => ?_) | refine ckz (none_nil) ?_ | refine cq (none_nil) ?_ | refine eqk rfl ?_ | refine ffin _ rfl rfl hS (Sub.refl _) rfl ⟨?_, rfl, rfl⟩)
  all_goals rfl
theorem may_nil : Pure 27 [.nilp, .nilsl] (.int .i64 1) := by
  intro S tk
  refine ACalls.fgo c27 rfl fun hS => ?_
  repeat' first | with_reducible refine fzD_ite (fun q => ?_) (fun q => ?_) | ((try conv => whnf); first | refine bs_d (fun q => ?_) (fun q => ?_) | refine bs_n ?_ | refine bs_i (fun q => ?_) (fun q => ?_) | refine ckz (none_nil) ?_ | refine cq (none_nil) ?_ | refine eqk rfl ?_ | refine ffin _ rfl rfl hS (Sub.refl _) rfl ⟨?_, rfl, rfl⟩)
  all_goals rfl
theorem closed_nil : Pure 15 [.nilp] (.int .i64 0) := by
  intro S tk
  refine ACalls.fgo c15 rfl fun hS => ?_
  repeat' first | with_reducible refine fzD_ite (fun q => ?_) (fun q => ?_) | ((try conv => whnf); first | refine bs_d (fun q => ?_) (fun q => ?_) | refine bs_n ?_ | refine bs_i (fun q => ?_) (fun q => ?_) | refine ckz (none_nil) ?_ | refine cq (none_nil) ?_ | refine eqk rfl ?_ | refine ffin _ rfl rfl hS (Sub.refl _) rfl ⟨?_, rfl, rfl⟩)
  all_goals rfl
theorem len_nil : Pure 13 [.nilp] (.int .i64 0) := by
  intro S tk
  refine ACalls.fgo c13 rfl fun hS => ?_
  repeat' first | with_reducible refine fzD_ite (fun q => ?_) (fun q => ?_) | ((try conv => whnf); first | refine bs_d (fun q => ?_) (fun q => ?_) | refine bs_n ?_ | refine bs_i (fun q => ?_) (fun q => ?_) | refine ckz (none_nil) ?_ | refine cq (none_nil) ?_ | refine eqk rfl ?_ | refine ffin _ rfl rfl hS (Sub.refl _) rfl ⟨?_, rfl, rfl⟩)
  all_goals rfl
theorem trial_nil : Pure 12 [.nilp] .nilsl := by
  intro S tk
  refine ACalls.fgo c12 rfl fun hS => ?_
  repeat' first | with_reducible refine fzD_ite (fun q => ?_) (fun q => ?_) | ((try conv => whnf); first | refine bs_d (fun q => ?_) (fun q => ?_) | refine bs_n ?_ | refine bs_i (fun q => ?_) (fun q => ?_) | refine ckz (none_nil) ?_ | refine cq (none_nil) ?_ | refine eqk rfl ?_ | refine ffin _ rfl rfl hS (Sub.refl _) rfl ⟨?_, rfl, rfl⟩)
  all_goals rfl
theorem sum_nil (a k i : Int) : Pure 35 [.nilp, .int .i64 a, .int .i64 k, .int .u64 i] (.int .i64 0) := by
  intro S tk
  refine ACalls.fgo c35 rfl fun hS => ?_
  repeat' first | with_reducible refine fzD_ite (fun q => ?_) (fun q => ?_) | ((try conv => whnf); first | refine bs_d (fun q => ?_) (fun q => ?_) | refine bs_n ?_ | refine bs_i (fun q => ?_) (fun q => ?_) | refine ckz (none_nil) ?_ | refine cq (none_nil) ?_ | refine eqk rfl ?_ | refine ffin _ rfl rfl hS (Sub.refl _) rfl ⟨?_, rfl, rfl⟩)
  all_goals rfl
theorem of_nil (a i : Int) : Pure 25 [.nilp, .int .i64 a, .int .u64 i] (.int .i64 0) := by
  intro S tk
  refine ACalls.fgo c25 rfl fun hS => ?_
  repeat' first | with_reducible refine fzD_ite (fun q => ?_) (fun q => ?_) | ((try conv => whnf); first | refine bs_d (fun q => ?_) (fun q => ?_) | refine bs_n ?_ | refine bs_i (fun q => ?_) (fun q => ?_) | refine ckz (sum_nil _ _ _) ?_ | refine cq (sum_nil _ _ _) ?_ | refine eqk rfl ?_ | refine ffin _ rfl rfl hS (Sub.refl _) rfl ⟨?_, rfl, rfl⟩)
  all_goals rfl
theorem by_nil (a i : Int) : Pure 26 [.nilp, .int .i64 a, .int .u64 i] (.int .i64 0) := by
  intro S tk
  refine ACalls.fgo c26 rfl fun hS => ?_
  repeat' first | with_reducible refine fzD_ite (fun q => ?_) (fun q => ?_) | ((try conv => whnf); first | refine bs_d (fun q => ?_) (fun q => ?_) | refine bs_n ?_ | refine bs_i (fun q => ?_) (fun q => ?_) | refine ckz (sum_nil _ _ _) ?_ | refine cq (sum_nil _ _ _) ?_ | refine eqk rfl ?_ | refine ffin _ rfl rfl hS (Sub.refl _) rfl ⟨?_, rfl, rfl⟩)
  all_goals rfl
theorem in_nil (a i : Int) : Pure 14 [.nilp, .int .i64 a, .int .i64 i] (.int .i64 0) := by
  intro S tk
  refine ACalls.fgo c14 rfl fun hS => ?_
  repeat' first | with_reducible refine fzD_ite (fun q => ?_) (fun q => ?_) | ((try conv => whnf); first | refine bs_d (fun q => ?_) (fun q => ?_) | refine bs_n ?_ | refine bs_i (fun q => ?_) (fun q => ?_) | refine ckz (sum_nil _ _ _) ?_ | refine cq (sum_nil _ _ _) ?_ | refine eqk rfl ?_ | refine ffin _ rfl rfl hS (Sub.refl _) rfl ⟨?_, rfl, rfl⟩)
  all_goals rfl
/-! ## books without sums -/
section
variable {X : List O} {tk : Tks} {bid : Nat}
abbrev zB : O := .arr [.nilp, .nilsl, .nilmap, .int .i64 0]
theorem none_z (hb : X[bid]? = some zB) : ACalls E0 34 [.po bid 0] X tk (fun r S' tk' => r = .bool true ∧ S' = X ∧ tk' = tk) := by
  refine ACalls.fgo c34 rfl fun hS => ?_
  repeat' first | with_reducible refine fzD_ite (fun q => ?_) (fun q => ?_) | ((try conv => whnf); first | refine bs_d (fun q => ?_) (fun q => ?_) | refine bs_n ?_ | refine bs_i (fun q => ?_) (fun q => ?_) | refine pK_i (ldO_old hb rfl) ?_ | refine eqk rfl ?_ | refine ffin _ rfl rfl hS (Sub.refl _) rfl ⟨?_, rfl, rfl⟩)
  all_goals rfl
theorem post_z (hb : X[bid]? = some zB) (e : Ent) : ACalls E0 18 [.po bid 0, e.d] X tk (fun r S' tk' => r = .tup [.int .u64 0, .int .i64 1] ∧ S' = X ∧ tk' = tk) := by
  refine ACalls.fgo c18 rfl fun hS => ?_
  repeat' first | with_reducible refine fzD_ite (fun q => ?_) (fun q => ?_) | ((try conv => whnf); first | refine bs_d (fun q => ?_) (fun q => ?_) | refine bs_n ?_ | refine bs_i (fun q => ?_) (fun q => ?_) | refine ckA rfl rfl (none_z (at_old hb)) ?_ | refine eqk rfl ?_ | refine ffin _ rfl rfl hS (Sub.refl _) rfl ⟨?_, rfl, rfl⟩)
  all_goals rfl
theorem close_z (hb : X[bid]? = some zB) (a : Int) : ACalls E0 16 [.po bid 0, .int .i64 a] X tk (fun r S' tk' => r = .int .i64 1 ∧ S' = X ∧ tk' = tk) := by
  refine ACalls.fgo c16 rfl fun hS => ?_
  repeat' first | with_reducible refine fzD_ite (fun q => ?_) (fun q => ?_) | ((try conv => whnf); first | refine bs_d (fun q => ?_) (fun q => ?_) | refine bs_n ?_ | refine bs_i (fun q => ?_) (fun q => ?_) | refine ckA rfl rfl (none_z (at_old hb)) ?_ | refine eqk rfl ?_ | refine ffin _ rfl rfl hS (Sub.refl _) rfl ⟨?_, rfl, rfl⟩)
  all_goals rfl
theorem may_z (hb : X[bid]? = some zB) : ACalls E0 27 [.po bid 0, .nilsl] X tk (fun r S' tk' => r = .int .i64 1 ∧ S' = X ∧ tk' = tk) := by
  refine ACalls.fgo c27 rfl fun hS => ?_
  repeat' first | with_reducible refine fzD_ite (fun q => ?_) (fun q => ?_) | ((try conv => whnf); first | refine bs_d (fun q => ?_) (fun q => ?_) | refine bs_n ?_ | refine bs_i (fun q => ?_) (fun q => ?_) | refine ckA rfl rfl (none_z (at_old hb)) ?_ | refine eqk rfl ?_ | refine ffin _ rfl rfl hS (Sub.refl _) rfl ⟨?_, rfl, rfl⟩)
  all_goals rfl
theorem trial_z (hb : X[bid]? = some zB) : ACalls E0 12 [.po bid 0] X tk (fun r S' tk' => r = .nilsl ∧ S' = X ∧ tk' = tk) := by
  refine ACalls.fgo c12 rfl fun hS => ?_
  repeat' first | with_reducible refine fzD_ite (fun q => ?_) (fun q => ?_) | ((try conv => whnf); first | refine bs_d (fun q => ?_) (fun q => ?_) | refine bs_n ?_ | refine bs_i (fun q => ?_) (fun q => ?_) | refine ckA rfl rfl (none_z (at_old hb)) ?_ | refine eqk rfl ?_ | refine ffin _ rfl rfl hS (Sub.refl _) rfl ⟨?_, rfl, rfl⟩)
  all_goals rfl
theorem sum_z (hb : X[bid]? = some zB) (a k i : Int) : ACalls E0 35 [.po bid 0, .int .i64 a, .int .i64 k, .int .u64 i] X tk (fun r S' tk' => r = .int .i64 0 ∧ S' = X ∧ tk' = tk) := by
  refine ACalls.fgo c35 rfl fun hS => ?_
  repeat' first | with_reducible refine fzD_ite (fun q => ?_) (fun q => ?_) | ((try conv => whnf); first | refine bs_d (fun q => ?_) (fun q => ?_) | refine bs_n ?_ | refine bs_i (fun q => ?_) (fun q => ?_) | refine ckA rfl rfl (none_z (at_old hb)) ?_ | refine eqk rfl ?_ | refine ffin _ rfl rfl hS (Sub.refl _) rfl ⟨?_, rfl, rfl⟩)
  all_goals rfl
theorem in_z (hb : X[bid]? = some zB) (a i : Int) : ACalls E0 14 [.po bid 0, .int .i64 a, .int .i64 i] X tk (fun r S' tk' => r = .int .i64 0 ∧ S' = X ∧ tk' = tk) := by
  refine ACalls.fgo c14 rfl fun hS => ?_
  repeat' first | with_reducible refine fzD_ite (fun q => ?_) (fun q => ?_) | ((try conv => whnf); first | refine bs_d (fun q => ?_) (fun q => ?_) | refine bs_n ?_ | refine bs_i (fun q => ?_) (fun q => ?_) | refine ckA rfl rfl (sum_z (at_old hb) _ _ _) ?_ | refine eqk rfl ?_ | refine ffin _ rfl rfl hS (Sub.refl _) rfl ⟨?_, rfl, rfl⟩)
  all_goals rfl
theorem entry_z (hb : X[bid]? = some zB) (i : Int) : ACalls E0 28 [.po bid 0, .int .u64 i] X tk (fun r S' tk' => r = .tup [.agg [.int .i64 0, .int .u8 0, .int .u64 0, .nilsl], .int .i64 1] ∧ S' = X ∧ tk' = tk) := by
  refine ACalls.fgo c28 rfl fun hS => ?_
  repeat' first | with_reducible refine fzD_ite (fun q => ?_) (fun q => ?_) | ((try conv => whnf); first | refine bs_d (fun q => ?_) (fun q => ?_) | refine bs_n ?_ | refine bs_i (fun q => ?_) (fun q => ?_) | refine ckA rfl rfl (none_z (at_old hb)) ?_ | refine eqk rfl ?_ | refine ffin _ rfl rfl hS (Sub.refl _) rfl ⟨?_, rfl, rfl⟩)
  all_goals rfl
/-- books without a chart -/
theorem adds_c (e : Ent) {ent : D} {mid nid : Nat} {cl : Int} (hb : X[bid]? = some (.arr [.nilp, ent, .map mid, .int .i64 cl])) : ACalls E0 36 [.po bid 0, .map nid, e.d] X tk (fun r S' tk' => r = .int .i64 1 ∧ S' = X ∧ tk' = tk) := by
  have hn := on_nil e
  refine ACalls.fgo c36 rfl fun hS => ?_
  repeat' first | with_reducible refine fzD_ite (fun q => ?_) (fun q => ?_) | ((try conv => whnf); first | refine bs_d (fun q => ?_) (fun q => ?_) | refine bs_n ?_ | refine bs_i (fun q => ?_) (fun q => ?_) | refine pK_i (ldO_old hb rfl) ?_ | refine ckz (hn) ?_ | refine cq (hn) ?_ | refine eqk rfl ?_ | refine ffin _ rfl rfl hS (Sub.refl _) rfl ⟨?_, rfl, rfl⟩)
  all_goals rfl
theorem post_c (e : Ent) {ent : D} {mid : Nat} {cl : Int} (hb : X[bid]? = some (.arr [.nilp, ent, .map mid, .int .i64 cl])) : ACalls E0 18 [.po bid 0, e.d] X tk (fun r S' tk' => r = .tup [.int .u64 0, .int .i64 1] ∧ S' = X ∧ tk' = tk) := by
  refine ACalls.fgo c18 rfl fun hS => ?_
  repeat' first | with_reducible refine fzD_ite (fun q => ?_) (fun q => ?_) | ((try conv => whnf); first | refine bs_d (fun q => ?_) (fun q => ?_) | refine bs_n ?_ | refine bs_i (fun q => ?_) (fun q => ?_) | refine ckA rfl rfl (none_b (at_old hb)) ?_ | refine ckA rfl rfl (adds_c e (at_old hb)) ?_ | refine eqk rfl ?_ | refine ffin _ rfl rfl hS (Sub.refl _) rfl ⟨?_, rfl, rfl⟩)
  all_goals rfl
end
theorem newN_at {n : Nat} {X : List O} {tk : Tks} (hn : X.length = n) : ACalls E0 11 [.nilp] X tk (fun r S' tk' => r = .po (n + 1) 0 ∧ S' = X ++ [.map kSl (MG.entKv sD []) 0, .arr [.nilp, .nilsl, .map n, .int .i64 0]] ∧ tk' = tk) := by subst hn; exact new_b _ (.inl rfl)
set_option maxHeartbeats 4000000 in
theorem booksNone (e : Ent) (month : Int) : Pure 7 [e.d, .int .i64 month] (.bool true) := by
  intro S tk
  have hlen := lns_len e.L
  by_cases hl : (e.L.length : Int) > 20
  · refine ACalls.fgo c7 rfl fun hS => ?_
    repeat' first | with_reducible refine fzD_ite (fun q => ?_) (fun q => ?_) | ((try conv => whnf); first | refine bs_t (decide_eq_true (show ((lns e.L).length : Int) > 20 by omega)) ?_ | refine bs_d (fun q => ?_) (fun q => ?_) | refine bs_n ?_ | refine bs_i (fun q => ?_) (fun q => ?_) | refine ckz (head_b) ?_ | refine cq (head_b) ?_ | refine eqk rfl ?_ | refine ffin _ rfl rfl hS (Sub.refl _) rfl ⟨?_, rfl, rfl⟩)
    all_goals rfl
  have hz : ∀ (J : List O), J[1]? = some zB → (S ++ J)[S.length + 1]? = some zB := fun J h => at_own rfl h
  refine ACalls.fgo c7 rfl fun hS => ?_
  repeat' first | with_reducible refine fzD_ite (fun q => ?_) (fun q => ?_) | ((try conv => whnf); first | refine bs_f (decide_eq_false (show ¬ ((lns e.L).length : Int) > 20 by omega)) ?_ | refine bs_d (fun q => ?_) (fun q => ?_) | refine bs_n ?_ | refine bs_i (fun q => ?_) (fun q => ?_) | refine ckz (post_nil e) ?_ | refine cq (post_nil e) ?_ | refine ckz (bal_nil _) ?_ | refine cq (bal_nil _) ?_ | refine ckz (close_nil _) ?_ | refine cq (close_nil _) ?_ | refine ckz (may_nil) ?_ | refine cq (may_nil) ?_ | refine ckz (closed_nil) ?_ | refine cq (closed_nil) ?_ | refine ckz (len_nil) ?_ | refine cq (len_nil) ?_ | refine ckz (trial_nil) ?_ | refine cq (trial_nil) ?_ | refine ckz (of_nil _ _) ?_ | refine cq (of_nil _ _) ?_ | refine ckz (by_nil _ _) ?_ | refine cq (by_nil _ _) ?_ | refine ckz (in_nil _ _) ?_ | refine cq (in_nil _ _) ?_ | refine ckz (head_b) ?_ | refine cq (head_b) ?_ | refine ckA rfl rfl (post_z (hz _ rfl) e) ?_ | refine ckN (d := .po (S.length + 2 + 1) 0) (Jn := [.map kSl (MG.entKv sD []) 0, .arr [.nilp, .nilsl, .map (S.length + 2), .int .i64 0]]) rfl rfl (newN_at (by simp)) ?_ | refine ckA rfl rfl (post_c e (mid := S.length + 2) (at_own (k := 3) rfl rfl)) ?_ | refine ckA rfl rfl (entry_z (hz _ rfl) _) ?_ | refine ckA rfl rfl (close_z (hz _ rfl) _) ?_ | refine ckA rfl rfl (may_z (hz _ rfl)) ?_ | refine ckA rfl rfl (trial_z (hz _ rfl)) ?_ | refine ckA rfl rfl (in_z (hz _ rfl) _ _) ?_ | refine eqk rfl ?_ | refine ffin _ rfl rfl hS (Sub.refl _) rfl ⟨?_, rfl, rfl⟩)
  all_goals rfl
end Go.KL.YtkojphmejddhiaaDoor.J
