/- package invoices and its reference: what is done -/
import Derived.Test.YtmijcaccgbhgdaaDoorInv2
set_option linter.unusedVariables false
set_option linter.unusedSimpArgs false
set_option maxRecDepth 4000
namespace Go.KL.YtmijcaccgbhgdaaDoor
open Go Go.KL Go.RowKit Go.Proofs

theorem c30 : cFun E0.P 30 = some ⟨19, [(6, none)], .seq (.rg [⟨some 3, none, .box (.t 0) 24⟩, ⟨some 6, none, .mv (.k (.int .i64 0))⟩]) (.seq (.block 0 (.seq (.rg [⟨some 8, none, .ld 11 true (.t 3)⟩, ⟨some 9, none, .call 23 [.t 8]⟩, ⟨some 10, none, .bin .neq .leaf (.t 9) (.k (.int .i64 0))⟩, ⟨some 11, none, .mv (.t 10)⟩, ⟨some 12, some (11, false), .mv (.t 1)⟩, ⟨some 13, some (11, false), .bin .lss .leaf (.t 12) (.k (.int .i64 1))⟩, ⟨some 14, none, .pick (.t 11) (.k (.bool true)) (.t 13)⟩, ⟨some 7, none, .mv (.t 14)⟩]) (.cond (.t 7) (.seq (.rg [⟨some 6, none, .mv (.k (.int .i64 2))⟩]) .ret) (.seq (.rg [⟨some 16, none, .mv (.t 1)⟩, ⟨some 17, none, .mv (.t 2)⟩, ⟨some 18, none, .bin .gtr .leaf (.t 16) (.t 17)⟩, ⟨some 15, none, .mv (.t 18)⟩]) (.cond (.t 15) (.seq (.rg [⟨some 6, none, .mv (.k (.int .i64 9))⟩]) .ret) .skip))))) (.seq (.rg [⟨some 6, none, .mv (.k (.int .i64 0))⟩]) .ret))⟩ := by kernel_rfl
theorem c14 : cFun E0.P 14 = some ⟨37, [(4, some (11, true)), (5, none), (6, none)], .seq (.rg [⟨some 2, none, .box (.t 0) 24⟩, ⟨some 4, none, .alloc [.int .u64 0, .int .u64 0, .int .u64 0, .int .i64 0, .int .i64 0, .int .i64 0, .int .i64 0, .int .i64 0, .int .i64 0, .int .i64 0, .int .i64 0] 24⟩, ⟨some 5, none, .mv (.k (.int .i64 0))⟩, ⟨some 6, none, .mv (.k (.int .i64 0))⟩]) (.seq (.seq (.rd [(⟨some 8, none, .ld 11 true (.t 2)⟩, false), (⟨some 9, none, .mv (.t 1)⟩, false), (⟨some 10, none, .ld 11 true (.t 2)⟩, false), (⟨some 11, none, .call 12 [.t 10]⟩, false), (⟨some 12, none, .fa 9 (.t 2)⟩, false), (⟨some 13, none, .ld 1 false (.t 12)⟩, false), (⟨some 14, none, .bin .add .leaf (.t 11) (.t 13)⟩, false), (⟨some 15, none, .call 30 [.t 8, .t 9, .t 14]⟩, true), (⟨some 7, none, .mv (.t 15)⟩, false)]) (.seq (.rg [⟨some 16, none, .mv (.t 7)⟩, ⟨some 17, none, .bin .neq .leaf (.t 16) (.k (.int .i64 0))⟩]) (.cond (.t 17) (.seq (.rg [⟨some 18, none, .build [.int .u64 0, .int .u64 0, .int .u64 0, .int .i64 0, .int .i64 0, .int .i64 0, .int .i64 0, .int .i64 0, .int .i64 0, .int .i64 0, .int .i64 0] []⟩, ⟨some 19, none, .mv (.t 7)⟩, ⟨none, none, .st 11 (.t 4) (.t 18)⟩, ⟨some 5, none, .mv (.k (.int .i64 0))⟩, ⟨some 6, none, .mv (.t 19)⟩]) .ret) .skip))) (.seq (.rg [⟨some 20, none, .mv (.t 1)⟩, ⟨some 21, none, .ld 11 true (.t 2)⟩, ⟨some 22, none, .call 12 [.t 21]⟩, ⟨some 23, none, .bin .sub .leaf (.t 20) (.t 22)⟩, ⟨some 24, none, .mm true [.t 23, .k (.int .i64 0)]⟩, ⟨some 5, none, .mv (.t 24)⟩]) (.seq (.rg [⟨some 25, none, .fa 8 (.t 2)⟩, ⟨some 26, none, .ld 1 false (.t 25)⟩, ⟨some 27, none, .mv (.t 1)⟩, ⟨some 28, none, .bin .add .leaf (.t 26) (.t 27)⟩, ⟨some 29, none, .fa 9 (.t 2)⟩, ⟨some 30, none, .ld 1 false (.t 29)⟩, ⟨some 31, none, .mv (.t 5)⟩, ⟨some 32, none, .bin .sub .leaf (.t 30) (.t 31)⟩, ⟨some 33, none, .fa 8 (.t 2)⟩, ⟨none, none, .st 1 (.t 33) (.t 28)⟩, ⟨some 34, none, .fa 9 (.t 2)⟩, ⟨none, none, .st 1 (.t 34) (.t 32)⟩]) (.seq (.rg [⟨some 35, none, .ld 11 true (.t 2)⟩, ⟨some 36, none, .mv (.t 5)⟩, ⟨none, none, .st 11 (.t 4) (.t 35)⟩, ⟨some 5, none, .mv (.t 36)⟩, ⟨some 6, none, .mv (.k (.int .i64 0))⟩]) .ret))))⟩ := by kernel_rfl
theorem c16 : cFun E0.P 16 = some ⟨22, [(4, some (11, true)), (5, none)], .seq (.rg [⟨some 2, none, .box (.t 0) 24⟩, ⟨some 4, none, .alloc [.int .u64 0, .int .u64 0, .int .u64 0, .int .i64 0, .int .i64 0, .int .i64 0, .int .i64 0, .int .i64 0, .int .i64 0, .int .i64 0, .int .i64 0] 24⟩, ⟨some 5, none, .mv (.k (.int .i64 0))⟩]) (.seq (.seq (.rd [(⟨some 7, none, .ld 11 true (.t 2)⟩, false), (⟨some 8, none, .mv (.t 1)⟩, false), (⟨some 9, none, .ld 11 true (.t 2)⟩, false), (⟨some 10, none, .call 12 [.t 9]⟩, false), (⟨some 11, none, .call 30 [.t 7, .t 8, .t 10]⟩, true), (⟨some 6, none, .mv (.t 11)⟩, false)]) (.seq (.rg [⟨some 12, none, .mv (.t 6)⟩, ⟨some 13, none, .bin .neq .leaf (.t 12) (.k (.int .i64 0))⟩]) (.cond (.t 13) (.seq (.rg [⟨some 14, none, .build [.int .u64 0, .int .u64 0, .int .u64 0, .int .i64 0, .int .i64 0, .int .i64 0, .int .i64 0, .int .i64 0, .int .i64 0, .int .i64 0, .int .i64 0] []⟩, ⟨some 15, none, .mv (.t 6)⟩, ⟨none, none, .st 11 (.t 4) (.t 14)⟩, ⟨some 5, none, .mv (.t 15)⟩]) .ret) .skip))) (.seq (.rg [⟨some 16, none, .fa 9 (.t 2)⟩, ⟨some 17, none, .ld 1 false (.t 16)⟩, ⟨some 18, none, .mv (.t 1)⟩, ⟨some 19, none, .bin .add .leaf (.t 17) (.t 18)⟩, ⟨some 20, none, .fa 9 (.t 2)⟩, ⟨none, none, .st 1 (.t 20) (.t 19)⟩]) (.seq (.rg [⟨some 21, none, .ld 11 true (.t 2)⟩, ⟨none, none, .st 11 (.t 4) (.t 21)⟩, ⟨some 5, none, .mv (.k (.int .i64 0))⟩]) .ret)))⟩ := by kernel_rfl
theorem c18 : cFun E0.P 18 = some ⟨22, [(4, some (11, true)), (5, none)], .seq (.rg [⟨some 2, none, .box (.t 0) 24⟩, ⟨some 4, none, .alloc [.int .u64 0, .int .u64 0, .int .u64 0, .int .i64 0, .int .i64 0, .int .i64 0, .int .i64 0, .int .i64 0, .int .i64 0, .int .i64 0, .int .i64 0] 24⟩, ⟨some 5, none, .mv (.k (.int .i64 0))⟩]) (.seq (.seq (.rg [⟨some 7, none, .ld 11 true (.t 2)⟩, ⟨some 8, none, .mv (.t 1)⟩, ⟨some 9, none, .fa 9 (.t 2)⟩, ⟨some 10, none, .ld 1 false (.t 9)⟩, ⟨some 11, none, .call 30 [.t 7, .t 8, .t 10]⟩, ⟨some 6, none, .mv (.t 11)⟩]) (.seq (.rg [⟨some 12, none, .mv (.t 6)⟩, ⟨some 13, none, .bin .neq .leaf (.t 12) (.k (.int .i64 0))⟩]) (.cond (.t 13) (.seq (.rg [⟨some 14, none, .build [.int .u64 0, .int .u64 0, .int .u64 0, .int .i64 0, .int .i64 0, .int .i64 0, .int .i64 0, .int .i64 0, .int .i64 0, .int .i64 0, .int .i64 0] []⟩, ⟨some 15, none, .mv (.t 6)⟩, ⟨none, none, .st 11 (.t 4) (.t 14)⟩, ⟨some 5, none, .mv (.t 15)⟩]) .ret) .skip))) (.seq (.rg [⟨some 16, none, .fa 9 (.t 2)⟩, ⟨some 17, none, .ld 1 false (.t 16)⟩, ⟨some 18, none, .mv (.t 1)⟩, ⟨some 19, none, .bin .sub .leaf (.t 17) (.t 18)⟩, ⟨some 20, none, .fa 9 (.t 2)⟩, ⟨none, none, .st 1 (.t 20) (.t 19)⟩]) (.seq (.rg [⟨some 21, none, .ld 11 true (.t 2)⟩, ⟨none, none, .st 11 (.t 4) (.t 21)⟩, ⟨some 5, none, .mv (.k (.int .i64 0))⟩]) .ret)))⟩ := by kernel_rfl
theorem c20 : cFun E0.P 20 = some ⟨24, [(2, some (11, true)), (3, none), (4, none)], .seq (.rg [⟨some 1, none, .box (.t 0) 24⟩, ⟨some 2, none, .alloc [.int .u64 0, .int .u64 0, .int .u64 0, .int .i64 0, .int .i64 0, .int .i64 0, .int .i64 0, .int .i64 0, .int .i64 0, .int .i64 0, .int .i64 0] 24⟩, ⟨some 3, none, .mv (.k (.int .i64 0))⟩, ⟨some 4, none, .mv (.k (.int .i64 0))⟩]) (.seq (.rg [⟨some 6, none, .ld 11 true (.t 1)⟩, ⟨some 7, none, .call 12 [.t 6]⟩, ⟨some 3, none, .mv (.t 7)⟩]) (.seq (.seq (.rg [⟨some 8, none, .ld 11 true (.t 1)⟩, ⟨some 9, none, .mv (.t 3)⟩, ⟨some 10, none, .mm true [.t 9, .k (.int .i64 1)]⟩, ⟨some 11, none, .mv (.t 3)⟩, ⟨some 12, none, .call 30 [.t 8, .t 10, .t 11]⟩, ⟨some 5, none, .mv (.t 12)⟩]) (.seq (.rg [⟨some 13, none, .mv (.t 5)⟩, ⟨some 14, none, .bin .neq .leaf (.t 13) (.k (.int .i64 0))⟩]) (.cond (.t 14) (.seq (.rg [⟨some 15, none, .build [.int .u64 0, .int .u64 0, .int .u64 0, .int .i64 0, .int .i64 0, .int .i64 0, .int .i64 0, .int .i64 0, .int .i64 0, .int .i64 0, .int .i64 0] []⟩, ⟨some 16, none, .mv (.t 5)⟩, ⟨none, none, .st 11 (.t 2) (.t 15)⟩, ⟨some 3, none, .mv (.k (.int .i64 0))⟩, ⟨some 4, none, .mv (.t 16)⟩]) .ret) .skip))) (.seq (.rg [⟨some 17, none, .fa 10 (.t 1)⟩, ⟨some 18, none, .ld 1 false (.t 17)⟩, ⟨some 19, none, .mv (.t 3)⟩, ⟨some 20, none, .bin .add .leaf (.t 18) (.t 19)⟩, ⟨some 21, none, .fa 10 (.t 1)⟩, ⟨none, none, .st 1 (.t 21) (.t 20)⟩]) (.seq (.rg [⟨some 22, none, .ld 11 true (.t 1)⟩, ⟨some 23, none, .mv (.t 3)⟩, ⟨none, none, .st 11 (.t 2) (.t 22)⟩, ⟨some 3, none, .mv (.t 23)⟩, ⟨some 4, none, .mv (.k (.int .i64 0))⟩]) .ret))))⟩ := by kernel_rfl
theorem c15 : cFun E0.P 15 = some ⟨47, [(4, some (11, true)), (5, none), (6, none)], .seq (.rg [⟨some 2, none, .box (.t 0) 24⟩, ⟨some 4, none, .alloc [.int .u64 0, .int .u64 0, .int .u64 0, .int .i64 0, .int .i64 0, .int .i64 0, .int .i64 0, .int .i64 0, .int .i64 0, .int .i64 0, .int .i64 0] 24⟩, ⟨some 5, none, .mv (.k (.int .i64 0))⟩, ⟨some 6, none, .mv (.k (.int .i64 0))⟩]) (.seq (.rg [⟨some 11, none, .ld 11 true (.t 2)⟩, ⟨some 12, none, .call 22 [.t 11]⟩, ⟨some 10, none, .mv (.t 12)⟩, ⟨some 13, none, .ext 0 (.t 10)⟩, ⟨some 14, none, .ext 1 (.t 10)⟩, ⟨some 7, none, .mv (.t 13)⟩, ⟨some 8, none, .mv (.t 14)⟩]) (.seq (.seq (.rg [⟨some 15, none, .mv (.t 8)⟩, ⟨some 16, none, .un .not (.t 15)⟩, ⟨some 17, none, .mv (.t 16)⟩, ⟨some 18, some (17, false), .mv (.t 1)⟩, ⟨some 19, some (17, false), .bin .lss .leaf (.t 18) (.k (.int .i64 1))⟩, ⟨some 20, none, .pick (.t 17) (.k (.bool true)) (.t 19)⟩]) (.cond (.t 20) (.seq (.rg [⟨some 21, none, .build [.int .u64 0, .int .u64 0, .int .u64 0, .int .i64 0, .int .i64 0, .int .i64 0, .int .i64 0, .int .i64 0, .int .i64 0, .int .i64 0, .int .i64 0] []⟩, ⟨none, none, .st 11 (.t 4) (.t 21)⟩, ⟨some 5, none, .mv (.k (.int .i64 0))⟩, ⟨some 6, none, .mv (.k (.int .i64 2))⟩]) .ret) .skip)) (.seq (.seq (.rg [⟨some 22, none, .mv (.t 1)⟩, ⟨some 23, none, .mv (.t 7)⟩, ⟨some 24, none, .fa 9 (.t 2)⟩, ⟨some 25, none, .ld 1 false (.t 24)⟩, ⟨some 26, none, .bin .add .leaf (.t 23) (.t 25)⟩, ⟨some 27, none, .bin .gtr .leaf (.t 22) (.t 26)⟩]) (.cond (.t 27) (.seq (.rg [⟨some 28, none, .build [.int .u64 0, .int .u64 0, .int .u64 0, .int .i64 0, .int .i64 0, .int .i64 0, .int .i64 0, .int .i64 0, .int .i64 0, .int .i64 0, .int .i64 0] []⟩, ⟨none, none, .st 11 (.t 4) (.t 28)⟩, ⟨some 5, none, .mv (.k (.int .i64 0))⟩, ⟨some 6, none, .mv (.k (.int .i64 9))⟩]) .ret) .skip)) (.seq (.rg [⟨some 9, none, .mv (.k (.int .i64 0))⟩]) (.seq (.seq (.rg [⟨some 29, none, .mv (.t 1)⟩, ⟨some 30, none, .mv (.t 7)⟩, ⟨some 31, none, .bin .gtr .leaf (.t 29) (.t 30)⟩]) (.cond (.t 31) (.rg [⟨some 32, none, .mv (.t 1)⟩, ⟨some 33, none, .mv (.t 7)⟩, ⟨some 34, none, .bin .sub .leaf (.t 32) (.t 33)⟩, ⟨some 9, none, .mv (.t 34)⟩]) .skip)) (.seq (.rg [⟨some 35, none, .fa 8 (.t 2)⟩, ⟨some 36, none, .ld 1 false (.t 35)⟩, ⟨some 37, none, .mv (.t 1)⟩, ⟨some 38, none, .bin .add .leaf (.t 36) (.t 37)⟩, ⟨some 39, none, .fa 8 (.t 2)⟩, ⟨none, none, .st 1 (.t 39) (.t 38)⟩]) (.seq (.rg [⟨some 40, none, .fa 9 (.t 2)⟩, ⟨some 41, none, .ld 1 false (.t 40)⟩, ⟨some 42, none, .mv (.t 9)⟩, ⟨some 43, none, .bin .sub .leaf (.t 41) (.t 42)⟩, ⟨some 44, none, .fa 9 (.t 2)⟩, ⟨none, none, .st 1 (.t 44) (.t 43)⟩]) (.seq (.rg [⟨some 45, none, .ld 11 true (.t 2)⟩, ⟨some 46, none, .mv (.t 9)⟩, ⟨none, none, .st 11 (.t 4) (.t 45)⟩, ⟨some 5, none, .mv (.t 46)⟩, ⟨some 6, none, .mv (.k (.int .i64 0))⟩]) .ret))))))))⟩ := by kernel_rfl
theorem c17 : cFun E0.P 17 = some ⟨30, [(4, some (11, true)), (5, none)], .seq (.rg [⟨some 2, none, .box (.t 0) 24⟩, ⟨some 4, none, .alloc [.int .u64 0, .int .u64 0, .int .u64 0, .int .i64 0, .int .i64 0, .int .i64 0, .int .i64 0, .int .i64 0, .int .i64 0, .int .i64 0, .int .i64 0] 24⟩, ⟨some 5, none, .mv (.k (.int .i64 0))⟩]) (.seq (.rg [⟨some 9, none, .ld 11 true (.t 2)⟩, ⟨some 10, none, .call 22 [.t 9]⟩, ⟨some 8, none, .mv (.t 10)⟩, ⟨some 11, none, .ext 0 (.t 8)⟩, ⟨some 12, none, .ext 1 (.t 8)⟩, ⟨some 6, none, .mv (.t 11)⟩, ⟨some 7, none, .mv (.t 12)⟩]) (.seq (.seq (.rg [⟨some 13, none, .mv (.t 7)⟩, ⟨some 14, none, .un .not (.t 13)⟩, ⟨some 15, none, .mv (.t 14)⟩, ⟨some 16, some (15, false), .mv (.t 1)⟩, ⟨some 17, some (15, false), .bin .lss .leaf (.t 16) (.k (.int .i64 1))⟩, ⟨some 18, none, .pick (.t 15) (.k (.bool true)) (.t 17)⟩]) (.cond (.t 18) (.seq (.rg [⟨some 19, none, .build [.int .u64 0, .int .u64 0, .int .u64 0, .int .i64 0, .int .i64 0, .int .i64 0, .int .i64 0, .int .i64 0, .int .i64 0, .int .i64 0, .int .i64 0] []⟩, ⟨none, none, .st 11 (.t 4) (.t 19)⟩, ⟨some 5, none, .mv (.k (.int .i64 2))⟩]) .ret) .skip)) (.seq (.seq (.rg [⟨some 20, none, .mv (.t 1)⟩, ⟨some 21, none, .mv (.t 6)⟩, ⟨some 22, none, .bin .gtr .leaf (.t 20) (.t 21)⟩]) (.cond (.t 22) (.seq (.rg [⟨some 23, none, .build [.int .u64 0, .int .u64 0, .int .u64 0, .int .i64 0, .int .i64 0, .int .i64 0, .int .i64 0, .int .i64 0, .int .i64 0, .int .i64 0, .int .i64 0] []⟩, ⟨none, none, .st 11 (.t 4) (.t 23)⟩, ⟨some 5, none, .mv (.k (.int .i64 9))⟩]) .ret) .skip)) (.seq (.rg [⟨some 24, none, .fa 9 (.t 2)⟩, ⟨some 25, none, .ld 1 false (.t 24)⟩, ⟨some 26, none, .mv (.t 1)⟩, ⟨some 27, none, .bin .add .leaf (.t 25) (.t 26)⟩, ⟨some 28, none, .fa 9 (.t 2)⟩, ⟨none, none, .st 1 (.t 28) (.t 27)⟩]) (.seq (.rg [⟨some 29, none, .ld 11 true (.t 2)⟩, ⟨none, none, .st 11 (.t 4) (.t 29)⟩, ⟨some 5, none, .mv (.k (.int .i64 0))⟩]) .ret)))))⟩ := by kernel_rfl
theorem c19 : cFun E0.P 19 = some ⟨31, [(4, some (11, true)), (5, none)], .seq (.rg [⟨some 2, none, .box (.t 0) 24⟩, ⟨some 4, none, .alloc [.int .u64 0, .int .u64 0, .int .u64 0, .int .i64 0, .int .i64 0, .int .i64 0, .int .i64 0, .int .i64 0, .int .i64 0, .int .i64 0, .int .i64 0] 24⟩, ⟨some 5, none, .mv (.k (.int .i64 0))⟩]) (.seq (.rg [⟨some 9, none, .ld 11 true (.t 2)⟩, ⟨some 10, none, .call 22 [.t 9]⟩, ⟨some 8, none, .mv (.t 10)⟩, ⟨some 11, none, .ext 0 (.t 8)⟩, ⟨some 12, none, .ext 1 (.t 8)⟩, ⟨some 6, none, .mv (.t 11)⟩, ⟨some 7, none, .mv (.t 12)⟩]) (.seq (.seq (.rg [⟨some 13, none, .mv (.t 7)⟩, ⟨some 14, none, .un .not (.t 13)⟩, ⟨some 15, none, .mv (.t 14)⟩, ⟨some 16, some (15, false), .mv (.t 1)⟩, ⟨some 17, some (15, false), .bin .lss .leaf (.t 16) (.k (.int .i64 1))⟩, ⟨some 18, none, .pick (.t 15) (.k (.bool true)) (.t 17)⟩]) (.cond (.t 18) (.seq (.rg [⟨some 19, none, .build [.int .u64 0, .int .u64 0, .int .u64 0, .int .i64 0, .int .i64 0, .int .i64 0, .int .i64 0, .int .i64 0, .int .i64 0, .int .i64 0, .int .i64 0] []⟩, ⟨none, none, .st 11 (.t 4) (.t 19)⟩, ⟨some 5, none, .mv (.k (.int .i64 2))⟩]) .ret) .skip)) (.seq (.seq (.rg [⟨some 20, none, .mv (.t 1)⟩, ⟨some 21, none, .fa 9 (.t 2)⟩, ⟨some 22, none, .ld 1 false (.t 21)⟩, ⟨some 23, none, .bin .gtr .leaf (.t 20) (.t 22)⟩]) (.cond (.t 23) (.seq (.rg [⟨some 24, none, .build [.int .u64 0, .int .u64 0, .int .u64 0, .int .i64 0, .int .i64 0, .int .i64 0, .int .i64 0, .int .i64 0, .int .i64 0, .int .i64 0, .int .i64 0] []⟩, ⟨none, none, .st 11 (.t 4) (.t 24)⟩, ⟨some 5, none, .mv (.k (.int .i64 9))⟩]) .ret) .skip)) (.seq (.rg [⟨some 25, none, .fa 9 (.t 2)⟩, ⟨some 26, none, .ld 1 false (.t 25)⟩, ⟨some 27, none, .mv (.t 1)⟩, ⟨some 28, none, .bin .sub .leaf (.t 26) (.t 27)⟩, ⟨some 29, none, .fa 9 (.t 2)⟩, ⟨none, none, .st 1 (.t 29) (.t 28)⟩]) (.seq (.rg [⟨some 30, none, .ld 11 true (.t 2)⟩, ⟨none, none, .st 11 (.t 4) (.t 30)⟩, ⟨some 5, none, .mv (.k (.int .i64 0))⟩]) .ret)))))⟩ := by kernel_rfl
theorem c21 : cFun E0.P 21 = some ⟨25, [(2, some (11, true)), (3, none), (4, none)], .seq (.rg [⟨some 1, none, .box (.t 0) 24⟩, ⟨some 2, none, .alloc [.int .u64 0, .int .u64 0, .int .u64 0, .int .i64 0, .int .i64 0, .int .i64 0, .int .i64 0, .int .i64 0, .int .i64 0, .int .i64 0, .int .i64 0] 24⟩, ⟨some 3, none, .mv (.k (.int .i64 0))⟩, ⟨some 4, none, .mv (.k (.int .i64 0))⟩]) (.seq (.rg [⟨some 8, none, .ld 11 true (.t 1)⟩, ⟨some 9, none, .call 22 [.t 8]⟩, ⟨some 7, none, .mv (.t 9)⟩, ⟨some 10, none, .ext 0 (.t 7)⟩, ⟨some 11, none, .ext 1 (.t 7)⟩, ⟨some 5, none, .mv (.t 10)⟩, ⟨some 6, none, .mv (.t 11)⟩]) (.seq (.seq (.rg [⟨some 12, none, .mv (.t 6)⟩, ⟨some 13, none, .un .not (.t 12)⟩]) (.cond (.t 13) (.seq (.rg [⟨some 14, none, .build [.int .u64 0, .int .u64 0, .int .u64 0, .int .i64 0, .int .i64 0, .int .i64 0, .int .i64 0, .int .i64 0, .int .i64 0, .int .i64 0, .int .i64 0] []⟩, ⟨none, none, .st 11 (.t 2) (.t 14)⟩, ⟨some 3, none, .mv (.k (.int .i64 0))⟩, ⟨some 4, none, .mv (.k (.int .i64 2))⟩]) .ret) .skip)) (.seq (.seq (.rg [⟨some 15, none, .mv (.t 5)⟩, ⟨some 16, none, .bin .eql .leaf (.t 15) (.k (.int .i64 0))⟩]) (.cond (.t 16) (.seq (.rg [⟨some 17, none, .build [.int .u64 0, .int .u64 0, .int .u64 0, .int .i64 0, .int .i64 0, .int .i64 0, .int .i64 0, .int .i64 0, .int .i64 0, .int .i64 0, .int .i64 0] []⟩, ⟨none, none, .st 11 (.t 2) (.t 17)⟩, ⟨some 3, none, .mv (.k (.int .i64 0))⟩, ⟨some 4, none, .mv (.k (.int .i64 9))⟩]) .ret) .skip)) (.seq (.rg [⟨some 18, none, .fa 10 (.t 1)⟩, ⟨some 19, none, .ld 1 false (.t 18)⟩, ⟨some 20, none, .mv (.t 5)⟩, ⟨some 21, none, .bin .add .leaf (.t 19) (.t 20)⟩, ⟨some 22, none, .fa 10 (.t 1)⟩, ⟨none, none, .st 1 (.t 22) (.t 21)⟩]) (.seq (.rg [⟨some 23, none, .ld 11 true (.t 1)⟩, ⟨some 24, none, .mv (.t 5)⟩, ⟨none, none, .st 11 (.t 2) (.t 23)⟩, ⟨some 3, none, .mv (.t 24)⟩, ⟨some 4, none, .mv (.k (.int .i64 0))⟩]) .ret)))))⟩ := by kernel_rfl
theorem c8 : cFun E0.P 8 = some ⟨35, [(4, none), (5, none), (6, none)], .seq (.rg [⟨some 2, none, .box (.t 0) 24⟩, ⟨some 4, none, .mv (.k (.int .i64 0))⟩, ⟨some 5, none, .mv (.k (.int .i64 0))⟩, ⟨some 6, none, .mv (.k (.int .i64 0))⟩]) (.seq (.seq (.rg [⟨some 9, none, .ld 11 true (.t 2)⟩, ⟨some 10, none, .call 23 [.t 9]⟩, ⟨some 11, none, .bin .neq .leaf (.t 10) (.k (.int .i64 0))⟩, ⟨some 12, none, .mv (.t 11)⟩, ⟨some 13, some (12, false), .mv (.t 1)⟩, ⟨some 14, some (12, false), .buildS 3 1 [.int .i64 0] [(0, .k (.int .i64 1)), (1, .t 13), (2, .k (.int .i64 3652059))] 2⟩, ⟨some 15, some (12, false), .call 25 [.t 14]⟩, ⟨some 16, some (12, false), .un .not (.t 15)⟩, ⟨some 17, none, .pick (.t 12) (.k (.bool true)) (.t 16)⟩]) (.cond (.t 17) (.seq (.rg [⟨some 4, none, .mv (.k (.int .i64 0))⟩, ⟨some 5, none, .mv (.k (.int .i64 0))⟩, ⟨some 6, none, .mv (.k (.int .i64 2))⟩]) .ret) .skip)) (.seq (.rg [⟨some 18, none, .mv (.t 1)⟩, ⟨some 19, none, .fa 4 (.t 2)⟩, ⟨some 20, none, .ld 1 false (.t 19)⟩, ⟨some 21, none, .bin .sub .leaf (.t 18) (.t 20)⟩, ⟨some 22, none, .mm true [.t 21, .k (.int .i64 0)]⟩, ⟨some 4, none, .mv (.t 22)⟩]) (.seq (.seq (.rg [⟨some 23, none, .ld 4 true (.g 0)⟩, ⟨some 24, none, .mv (.k (.int .i64 0))⟩]) (.block 0 (.loop (.seq (.rg [⟨some 25, none, .bin .lss .leaf (.t 24) (.k (.int .i64 4))⟩]) (.seq (.cond (.t 25) .skip (.exit 0)) (.seq (.block 1 (.seq (.rg [⟨some 26, none, .ixA 4 1 false (.t 23) (.t 24)⟩, ⟨some 8, none, .mv (.t 26)⟩]) (.seq (.rg [⟨some 27, none, .mv (.t 4)⟩, ⟨some 28, none, .mv (.t 8)⟩, ⟨some 29, none, .bin .gtr .leaf (.t 27) (.t 28)⟩]) (.cond (.t 29) (.rg [⟨some 30, none, .mv (.t 5)⟩, ⟨some 31, none, .bin .add .leaf (.t 30) (.k (.int .i64 1))⟩, ⟨some 5, none, .mv (.t 31)⟩]) .skip)))) (.rg [⟨some 32, none, .bin .add .leaf (.t 24) (.k (.int .i64 1))⟩, ⟨some 24, none, .mv (.t 32)⟩]))))))) (.seq (.rg [⟨some 33, none, .mv (.t 4)⟩, ⟨some 34, none, .mv (.t 5)⟩, ⟨some 4, none, .mv (.t 33)⟩, ⟨some 5, none, .mv (.t 34)⟩, ⟨some 6, none, .mv (.k (.int .i64 0))⟩]) .ret))))⟩ := by kernel_rfl
theorem c9 : cFun E0.P 9 = some ⟨34, [(4, none), (5, none), (6, none)], .seq (.rg [⟨some 2, none, .box (.t 0) 24⟩, ⟨some 4, none, .mv (.k (.int .i64 0))⟩, ⟨some 5, none, .mv (.k (.int .i64 0))⟩, ⟨some 6, none, .mv (.k (.int .i64 0))⟩]) (.seq (.seq (.rg [⟨some 8, none, .ld 11 true (.t 2)⟩, ⟨some 9, none, .call 24 [.t 8]⟩, ⟨some 10, none, .bin .neq .leaf (.t 9) (.k (.int .i64 0))⟩, ⟨some 11, none, .mv (.t 10)⟩, ⟨some 12, some (11, false), .mv (.t 1)⟩, ⟨some 13, some (11, false), .call 26 [.t 12]⟩, ⟨some 14, some (11, false), .un .not (.t 13)⟩, ⟨some 15, none, .pick (.t 11) (.k (.bool true)) (.t 14)⟩]) (.cond (.t 15) (.seq (.rg [⟨some 4, none, .mv (.k (.int .i64 0))⟩, ⟨some 5, none, .mv (.k (.int .i64 0))⟩, ⟨some 6, none, .mv (.k (.int .i64 2))⟩]) .ret) .skip)) (.seq (.seq (.rg [⟨some 16, none, .mv (.t 1)⟩, ⟨some 17, none, .fa 4 (.t 2)⟩, ⟨some 18, none, .ld 1 false (.t 17)⟩, ⟨some 19, none, .bin .leq .leaf (.t 16) (.t 18)⟩]) (.cond (.t 19) (.seq (.rg [⟨some 4, none, .mv (.k (.int .i64 0))⟩, ⟨some 5, none, .mv (.k (.int .i64 0))⟩, ⟨some 6, none, .mv (.k (.int .i64 0))⟩]) .ret) .skip)) (.seq (.rg [⟨some 20, none, .mv (.t 1)⟩, ⟨some 21, none, .fa 4 (.t 2)⟩, ⟨some 22, none, .ld 1 false (.t 21)⟩, ⟨some 23, none, .bin .sub .leaf (.t 20) (.t 22)⟩, ⟨some 7, none, .mv (.t 23)⟩]) (.seq (.seq (.rg [⟨some 24, none, .mv (.t 7)⟩, ⟨some 25, none, .bin .leq .leaf (.t 24) (.k (.int .i64 30))⟩]) (.cond (.t 25) (.seq (.rg [⟨some 26, none, .mv (.t 7)⟩, ⟨some 4, none, .mv (.t 26)⟩, ⟨some 5, none, .mv (.k (.int .i64 1))⟩, ⟨some 6, none, .mv (.k (.int .i64 0))⟩]) .ret) .skip)) (.seq (.seq (.rg [⟨some 27, none, .mv (.t 7)⟩, ⟨some 28, none, .bin .leq .leaf (.t 27) (.k (.int .i64 60))⟩]) (.cond (.t 28) (.seq (.rg [⟨some 29, none, .mv (.t 7)⟩, ⟨some 4, none, .mv (.t 29)⟩, ⟨some 5, none, .mv (.k (.int .i64 2))⟩, ⟨some 6, none, .mv (.k (.int .i64 0))⟩]) .ret) .skip)) (.seq (.seq (.rg [⟨some 30, none, .mv (.t 7)⟩, ⟨some 31, none, .bin .leq .leaf (.t 30) (.k (.int .i64 90))⟩]) (.cond (.t 31) (.seq (.rg [⟨some 32, none, .mv (.t 7)⟩, ⟨some 4, none, .mv (.t 32)⟩, ⟨some 5, none, .mv (.k (.int .i64 3))⟩, ⟨some 6, none, .mv (.k (.int .i64 0))⟩]) .ret) .skip)) (.seq (.rg [⟨some 33, none, .mv (.t 7)⟩, ⟨some 4, none, .mv (.t 33)⟩, ⟨some 5, none, .mv (.k (.int .i64 4))⟩, ⟨some 6, none, .mv (.k (.int .i64 0))⟩]) .ret)))))))⟩ := by kernel_rfl

theorem asked (x : Iv) (hx : x.R) (n most : Int) : Pure 30 [x.d, .int .i64 n, .int .i64 most] (.int .i64 (if x.ok ∧ 1 ≤ n then (if n ≤ most then 0 else 9) else 2)) := by
  intro S tk
  have hc := Check x hx
  by_cases hok : x.ok
  · rw [if_pos hok] at hc
    refine ACalls.fgo c30 rfl fun hS => ?_
    repeat' first | with_reducible refine fzD_ite (fun q => ?_) (fun q => ?_) | ((try conv => whnf); first
      | refine bs_d (fun q => ?_) (fun q => ?_)
      | refine bs_n ?_
      | refine bs_i (fun q => ?_) (fun q => ?_)
      | refine ck rfl rfl (hc) ?_
      | refine cq (hc) ?_
      | refine ffin _ rfl rfl hS (Sub.refl _) rfl ⟨?_, rfl, rfl⟩)
    all_goals simp only [tupD, D.int.injEq, true_and, hok]
    all_goals first
      | (rw [if_neg (by omega)])
      | (rw [if_pos (by omega), if_neg (by omega)])
      | (rw [if_pos (by omega), if_pos (by omega)])
  · rw [if_neg hok] at hc
    refine ACalls.fgo c30 rfl fun hS => ?_
    repeat' first | with_reducible refine fzD_ite (fun q => ?_) (fun q => ?_) | ((try conv => whnf); first
      | refine bs_d (fun q => ?_) (fun q => ?_)
      | refine bs_n ?_
      | refine bs_i (fun q => ?_) (fun q => ?_)
      | refine ck rfl rfl (hc) ?_
      | refine cq (hc) ?_
      | refine ffin _ rfl rfl hS (Sub.refl _) rfl ⟨?_, rfl, rfl⟩)
    all_goals simp only [tupD, D.int.injEq, true_and, hok, false_and, if_false]

def Iv.zero : Iv := ⟨0, 0, 0, 0, 0, 0, 0, 0, 0, 0, 0⟩
/-- what is answered: the invoice as it is now, or a refusal -/
def did (r : Except Int Iv) : D := match r with
  | .ok x => .tup [x.d, .int .i64 0]
  | .error e => .tup [Iv.zero.d, .int .i64 e]
def did2 (r : Except Int (Iv × Int)) : D := match r with
  | .ok (x, n) => .tup [x.d, .int .i64 n, .int .i64 0]
  | .error e => .tup [Iv.zero.d, .int .i64 0, .int .i64 e]
def Iv.credit (x : Iv) (n : Int) : Except Int (Iv × Int) :=
  if x.ok ∧ 1 ≤ n then (if n ≤ x.op + x.pd then .ok (if n ≤ x.op then ({ x with cr := x.cr + n }, 0) else ({ x with cr := x.cr + n, pd := x.pd - (n - x.op) }, n - x.op)) else .error 9) else .error 2
def Iv.pay (x : Iv) (n : Int) : Except Int Iv :=
  if x.ok ∧ 1 ≤ n then (if n ≤ x.op then .ok { x with pd := x.pd + n } else .error 9) else .error 2
def Iv.unpay (x : Iv) (n : Int) : Except Int Iv :=
  if x.ok ∧ 1 ≤ n then (if n ≤ x.pd then .ok { x with pd := x.pd - n } else .error 9) else .error 2
def Iv.lose (x : Iv) : Except Int (Iv × Int) :=
  if x.ok then (if x.op = 0 then .error 9 else .ok ({ x with lo := x.lo + x.op }, x.op)) else .error 2

theorem op_bd (x : Iv) : 0 ≤ x.op ∧ x.op ≤ 4611686018427387903 := by
  unfold Iv.op
  by_cases h : x.ok
  · rw [if_pos h]; unfold Iv.ok at h; omega
  · rw [if_neg h]; omega

theorem op_ok {x : Iv} (h : x.ok) : x.op = x.am - x.cr - x.pd - x.lo := if_pos h

theorem Pay (x : Iv) (hx : x.R) (n : Int) (hn : I64 n) : Pure 16 [x.d, .int .i64 n] (did (x.pay n)) := by
  intro S tk
  have hc := asked x hx n x.op
  unfold Iv.pay
  by_cases h1 : x.ok ∧ 1 ≤ n
  · rw [if_pos h1] at hc ⊢
    by_cases h2 : n ≤ x.op
    · rw [if_pos h2] at hc ⊢
      refine ACalls.fgo c16 rfl fun hS => ?_
      repeat' first | with_reducible refine fzD_ite (fun q => ?_) (fun q => ?_) | ((try conv => whnf); first
        | refine bs_d (fun q => ?_) (fun q => ?_)
        | refine bs_n ?_
        | refine bs_i (fun q => ?_) (fun q => ?_)
        | refine ck rfl rfl (Open x hx) ?_
        | refine cq (Open x hx) ?_
        | refine ck rfl rfl (hc) ?_
        | refine cq (hc) ?_
        | refine ffin _ rfl rfl hS (Sub.refl _) rfl ⟨?_, rfl, rfl⟩)
      have hk := h1.1
      rw [op_ok hk] at h2
      unfold Iv.ok at hk
      rw [wi64_id (by unfold I64; omega)]
      rfl
    · rw [if_neg h2] at hc ⊢
      refine ACalls.fgo c16 rfl fun hS => ?_
      repeat' first | with_reducible refine fzD_ite (fun q => ?_) (fun q => ?_) | ((try conv => whnf); first
        | refine bs_d (fun q => ?_) (fun q => ?_)
        | refine bs_n ?_
        | refine bs_i (fun q => ?_) (fun q => ?_)
        | refine ck rfl rfl (Open x hx) ?_
        | refine cq (Open x hx) ?_
        | refine ck rfl rfl (hc) ?_
        | refine cq (hc) ?_
        | refine ffin _ rfl rfl hS (Sub.refl _) rfl ⟨?_, rfl, rfl⟩)
      rfl
  · rw [if_neg h1] at hc ⊢
    refine ACalls.fgo c16 rfl fun hS => ?_
    repeat' first | with_reducible refine fzD_ite (fun q => ?_) (fun q => ?_) | ((try conv => whnf); first
      | refine bs_d (fun q => ?_) (fun q => ?_)
      | refine bs_n ?_
      | refine bs_i (fun q => ?_) (fun q => ?_)
      | refine ck rfl rfl (Open x hx) ?_
      | refine cq (Open x hx) ?_
      | refine ck rfl rfl (hc) ?_
      | refine cq (hc) ?_
      | refine ffin _ rfl rfl hS (Sub.refl _) rfl ⟨?_, rfl, rfl⟩)
    rfl

theorem refPay (x : Iv) (hx : x.R) (n : Int) (hn : I64 n) : Pure 17 [x.d, .int .i64 n] (did (x.pay n)) := by
  intro S tk
  have hc := refOpen x hx
  unfold Iv.pay
  by_cases h1 : x.ok
  · rw [if_pos h1, ← op_ok h1] at hc
    refine ACalls.fgo c17 rfl fun hS => ?_
    repeat' first | with_reducible refine fzD_ite (fun q => ?_) (fun q => ?_) | ((try conv => whnf); first
      | refine bs_d (fun q => ?_) (fun q => ?_)
      | refine bs_n ?_
      | refine bs_i (fun q => ?_) (fun q => ?_)
      | refine ck rfl rfl (hc) ?_
      | refine cq (hc) ?_
      | refine ffin _ rfl rfl hS (Sub.refl _) rfl ⟨?_, rfl, rfl⟩)
    · rw [if_neg (by omega)]; rfl
    · rw [if_pos ⟨h1, by omega⟩, if_neg (by omega)]; rfl
    · rw [if_pos ⟨h1, by omega⟩, if_pos (by omega)]
      have ho := op_ok h1
      unfold Iv.ok at h1
      rw [wi64_id (by unfold I64; omega)]
      rfl
  · rw [if_neg h1] at hc
    rw [if_neg (fun h => h1 h.1)]
    refine ACalls.fgo c17 rfl fun hS => ?_
    repeat' first | with_reducible refine fzD_ite (fun q => ?_) (fun q => ?_) | ((try conv => whnf); first
      | refine bs_d (fun q => ?_) (fun q => ?_)
      | refine bs_n ?_
      | refine bs_i (fun q => ?_) (fun q => ?_)
      | refine ck rfl rfl (hc) ?_
      | refine cq (hc) ?_
      | refine ffin _ rfl rfl hS (Sub.refl _) rfl ⟨?_, rfl, rfl⟩)
    rfl

theorem Unpay (x : Iv) (hx : x.R) (n : Int) (hn : I64 n) : Pure 18 [x.d, .int .i64 n] (did (x.unpay n)) := by
  intro S tk
  have hc := asked x hx n x.pd
  unfold Iv.unpay
  by_cases h1 : x.ok ∧ 1 ≤ n
  · rw [if_pos h1] at hc ⊢
    by_cases h2 : n ≤ x.pd
    · rw [if_pos h2] at hc ⊢
      refine ACalls.fgo c18 rfl fun hS => ?_
      repeat' first | with_reducible refine fzD_ite (fun q => ?_) (fun q => ?_) | ((try conv => whnf); first
        | refine bs_d (fun q => ?_) (fun q => ?_)
        | refine bs_n ?_
        | refine bs_i (fun q => ?_) (fun q => ?_)
        | refine ck rfl rfl (hc) ?_
        | refine cq (hc) ?_
        | refine ffin _ rfl rfl hS (Sub.refl _) rfl ⟨?_, rfl, rfl⟩)
      have hk := h1.1
      unfold Iv.ok at hk
      rw [wi64_id (by unfold I64; omega)]
      rfl
    · rw [if_neg h2] at hc ⊢
      refine ACalls.fgo c18 rfl fun hS => ?_
      repeat' first | with_reducible refine fzD_ite (fun q => ?_) (fun q => ?_) | ((try conv => whnf); first
        | refine bs_d (fun q => ?_) (fun q => ?_)
        | refine bs_n ?_
        | refine bs_i (fun q => ?_) (fun q => ?_)
        | refine ck rfl rfl (hc) ?_
        | refine cq (hc) ?_
        | refine ffin _ rfl rfl hS (Sub.refl _) rfl ⟨?_, rfl, rfl⟩)
      rfl
  · rw [if_neg h1] at hc ⊢
    refine ACalls.fgo c18 rfl fun hS => ?_
    repeat' first | with_reducible refine fzD_ite (fun q => ?_) (fun q => ?_) | ((try conv => whnf); first
      | refine bs_d (fun q => ?_) (fun q => ?_)
      | refine bs_n ?_
      | refine bs_i (fun q => ?_) (fun q => ?_)
      | refine ck rfl rfl (hc) ?_
      | refine cq (hc) ?_
      | refine ffin _ rfl rfl hS (Sub.refl _) rfl ⟨?_, rfl, rfl⟩)
    rfl

theorem refUnpay (x : Iv) (hx : x.R) (n : Int) (hn : I64 n) : Pure 19 [x.d, .int .i64 n] (did (x.unpay n)) := by
  intro S tk
  have hc := refOpen x hx
  unfold Iv.unpay
  by_cases h1 : x.ok
  · rw [if_pos h1] at hc
    refine ACalls.fgo c19 rfl fun hS => ?_
    repeat' first | with_reducible refine fzD_ite (fun q => ?_) (fun q => ?_) | ((try conv => whnf); first
      | refine bs_d (fun q => ?_) (fun q => ?_)
      | refine bs_n ?_
      | refine bs_i (fun q => ?_) (fun q => ?_)
      | refine ck rfl rfl (hc) ?_
      | refine cq (hc) ?_
      | refine ffin _ rfl rfl hS (Sub.refl _) rfl ⟨?_, rfl, rfl⟩)
    · rw [if_neg (by omega)]; rfl
    · rw [if_pos ⟨h1, by omega⟩, if_neg (by omega)]; rfl
    · rw [if_pos ⟨h1, by omega⟩, if_pos (by omega)]
      unfold Iv.ok at h1
      rw [wi64_id (by unfold I64; omega)]
      rfl
  · rw [if_neg h1] at hc
    rw [if_neg (fun h => h1 h.1)]
    refine ACalls.fgo c19 rfl fun hS => ?_
    repeat' first | with_reducible refine fzD_ite (fun q => ?_) (fun q => ?_) | ((try conv => whnf); first
      | refine bs_d (fun q => ?_) (fun q => ?_)
      | refine bs_n ?_
      | refine bs_i (fun q => ?_) (fun q => ?_)
      | refine ck rfl rfl (hc) ?_
      | refine cq (hc) ?_
      | refine ffin _ rfl rfl hS (Sub.refl _) rfl ⟨?_, rfl, rfl⟩)
    rfl

theorem Lose (x : Iv) (hx : x.R) : Pure 20 [x.d] (did2 x.lose) := by
  intro S tk
  have ho := Open x hx
  have hb := op_bd x
  obtain ⟨m, hm⟩ : ∃ m, m = max x.op 1 := ⟨_, rfl⟩
  have hm1 : 1 ≤ m := by omega
  have hc := asked x hx m x.op
  unfold Iv.lose
  by_cases h1 : x.ok
  · rw [if_pos h1]
    rw [if_pos ⟨h1, hm1⟩] at hc
    by_cases h2 : x.op = 0
    · rw [if_pos h2]
      rw [if_neg (by omega)] at hc
      subst hm
      refine ACalls.fgo c20 rfl fun hS => ?_
      repeat' first | with_reducible refine fzD_ite (fun q => ?_) (fun q => ?_) | ((try conv => whnf); first
        | refine bs_d (fun q => ?_) (fun q => ?_)
        | refine bs_n ?_
        | refine bs_i (fun q => ?_) (fun q => ?_)
        | refine ck rfl rfl (ho) ?_
        | refine cq (ho) ?_
        | refine ck rfl rfl (hc) ?_
        | refine cq (hc) ?_
        | refine ffin _ rfl rfl hS (Sub.refl _) rfl ⟨?_, rfl, rfl⟩)
      rfl
    · rw [if_neg h2]
      rw [if_pos (by omega)] at hc
      subst hm
      refine ACalls.fgo c20 rfl fun hS => ?_
      repeat' first | with_reducible refine fzD_ite (fun q => ?_) (fun q => ?_) | ((try conv => whnf); first
        | refine bs_d (fun q => ?_) (fun q => ?_)
        | refine bs_n ?_
        | refine bs_i (fun q => ?_) (fun q => ?_)
        | refine ck rfl rfl (ho) ?_
        | refine cq (ho) ?_
        | refine ck rfl rfl (hc) ?_
        | refine cq (hc) ?_
        | refine ffin _ rfl rfl hS (Sub.refl _) rfl ⟨?_, rfl, rfl⟩)
      have e := op_ok h1
      unfold Iv.ok at h1
      rw [wi64_id (by unfold I64; omega)]
      rfl
  · rw [if_neg h1]
    rw [if_neg (fun h => h1 h.1)] at hc
    subst hm
    refine ACalls.fgo c20 rfl fun hS => ?_
    repeat' first | with_reducible refine fzD_ite (fun q => ?_) (fun q => ?_) | ((try conv => whnf); first
      | refine bs_d (fun q => ?_) (fun q => ?_)
      | refine bs_n ?_
      | refine bs_i (fun q => ?_) (fun q => ?_)
      | refine ck rfl rfl (ho) ?_
      | refine cq (ho) ?_
      | refine ck rfl rfl (hc) ?_
      | refine cq (hc) ?_
      | refine ffin _ rfl rfl hS (Sub.refl _) rfl ⟨?_, rfl, rfl⟩)
    rfl

theorem refLose (x : Iv) (hx : x.R) : Pure 21 [x.d] (did2 x.lose) := by
  intro S tk
  have hc := refOpen x hx
  unfold Iv.lose
  by_cases h1 : x.ok
  · rw [if_pos h1, ← op_ok h1] at hc
    refine ACalls.fgo c21 rfl fun hS => ?_
    repeat' first | with_reducible refine fzD_ite (fun q => ?_) (fun q => ?_) | ((try conv => whnf); first
      | refine bs_d (fun q => ?_) (fun q => ?_)
      | refine bs_n ?_
      | refine bs_i (fun q => ?_) (fun q => ?_)
      | refine ck rfl rfl (hc) ?_
      | refine cq (hc) ?_
      | refine ffin _ rfl rfl hS (Sub.refl _) rfl ⟨?_, rfl, rfl⟩)
    · rw [if_pos h1, if_pos ‹_›]; rfl
    · rw [if_pos h1, if_neg ‹_›]
      have ho := op_ok h1
      unfold Iv.ok at h1
      rw [wi64_id (by unfold I64; omega)]
      rfl
  · rw [if_neg h1] at hc
    rw [if_neg h1]
    refine ACalls.fgo c21 rfl fun hS => ?_
    repeat' first | with_reducible refine fzD_ite (fun q => ?_) (fun q => ?_) | ((try conv => whnf); first
      | refine bs_d (fun q => ?_) (fun q => ?_)
      | refine bs_n ?_
      | refine bs_i (fun q => ?_) (fun q => ?_)
      | refine ck rfl rfl (hc) ?_
      | refine cq (hc) ?_
      | refine ffin _ rfl rfl hS (Sub.refl _) rfl ⟨?_, rfl, rfl⟩)
    rfl

theorem Credit (x : Iv) (hx : x.R) (n : Int) (hn : I64 n) : Pure 14 [x.d, .int .i64 n] (did2 (x.credit n)) := by
  intro S tk
  have ho := Open x hx
  have hb := op_bd x
  have hc := asked x hx n (IntKind.wrap .i64 (x.op + x.pd))
  unfold Iv.credit
  by_cases h1 : x.ok ∧ 1 ≤ n
  · rw [if_pos h1] at hc ⊢
    have hk := h1.1
    have e := op_ok hk
    unfold Iv.ok at hk
    have e2 : IntKind.wrap .i64 (x.op + x.pd) = x.op + x.pd := wi64_id (by unfold I64; omega)
    by_cases h2 : n ≤ x.op + x.pd
    · rw [if_pos h2]
      rw [if_pos (by rw [e2]; exact h2)] at hc
      have e3 : IntKind.wrap .i64 (n - x.op) = n - x.op := wi64_id (by unfold I64; omega)
      have e4 : IntKind.wrap .i64 (x.cr + n) = x.cr + n := wi64_id (by unfold I64; omega)
      refine ACalls.fgo c14 rfl fun hS => ?_
      repeat' first | with_reducible refine fzD_ite (fun q => ?_) (fun q => ?_) | ((try conv => whnf); first
        | refine bs_d (fun q => ?_) (fun q => ?_)
        | refine bs_n ?_
        | refine bs_i (fun q => ?_) (fun q => ?_)
        | refine ck rfl rfl (ho) ?_
        | refine cq (ho) ?_
        | refine ck rfl rfl (hc) ?_
        | refine cq (hc) ?_
        | refine ffin _ rfl rfl hS (Sub.refl _) rfl ⟨?_, rfl, rfl⟩)
      rw [e3, e4, show IntKind.wrap .i64 (x.pd - max (n - x.op) 0) = x.pd - max (n - x.op) 0 from wi64_id (by unfold I64; omega)]
      by_cases h3 : n ≤ x.op
      · rw [if_pos h3, show max (n - x.op) 0 = 0 from by omega, Int.sub_zero]
        rfl
      · rw [if_neg h3, show max (n - x.op) 0 = n - x.op from by omega]
        rfl
    · rw [if_neg h2]
      rw [if_neg (by rw [e2]; exact h2)] at hc
      refine ACalls.fgo c14 rfl fun hS => ?_
      repeat' first | with_reducible refine fzD_ite (fun q => ?_) (fun q => ?_) | ((try conv => whnf); first
        | refine bs_d (fun q => ?_) (fun q => ?_)
        | refine bs_n ?_
        | refine bs_i (fun q => ?_) (fun q => ?_)
        | refine ck rfl rfl (ho) ?_
        | refine cq (ho) ?_
        | refine ck rfl rfl (hc) ?_
        | refine cq (hc) ?_
        | refine ffin _ rfl rfl hS (Sub.refl _) rfl ⟨?_, rfl, rfl⟩)
      rfl
  · rw [if_neg h1] at hc ⊢
    refine ACalls.fgo c14 rfl fun hS => ?_
    repeat' first | with_reducible refine fzD_ite (fun q => ?_) (fun q => ?_) | ((try conv => whnf); first
      | refine bs_d (fun q => ?_) (fun q => ?_)
      | refine bs_n ?_
      | refine bs_i (fun q => ?_) (fun q => ?_)
      | refine ck rfl rfl (ho) ?_
      | refine cq (ho) ?_
      | refine ck rfl rfl (hc) ?_
      | refine cq (hc) ?_
      | refine ffin _ rfl rfl hS (Sub.refl _) rfl ⟨?_, rfl, rfl⟩)
    rfl

theorem refCredit (x : Iv) (hx : x.R) (n : Int) (hn : I64 n) : Pure 15 [x.d, .int .i64 n] (did2 (x.credit n)) := by
  intro S tk
  have hc := refOpen x hx
  have hb := op_bd x
  unfold Iv.credit
  by_cases h1 : x.ok
  · rw [if_pos h1, ← op_ok h1] at hc
    have hk := h1
    have e := op_ok hk
    unfold Iv.ok at hk
    have e2 : IntKind.wrap .i64 (x.op + x.pd) = x.op + x.pd := wi64_id (by unfold I64; omega)
    refine ACalls.fgo c15 rfl fun hS => ?_
    repeat' first | with_reducible refine fzD_ite (fun q => ?_) (fun q => ?_) | ((try conv => whnf); first
      | refine bs_d (fun q => ?_) (fun q => ?_)
      | refine bs_n ?_
      | refine bs_i (fun q => ?_) (fun q => ?_)
      | refine ck rfl rfl (hc) ?_
      | refine cq (hc) ?_
      | refine ffin _ rfl rfl hS (Sub.refl _) rfl ⟨?_, rfl, rfl⟩)
    all_goals try rw [e2] at *
    · rw [if_neg (by omega)]; rfl
    · rw [if_pos ⟨h1, by omega⟩, if_neg (by omega)]; rfl
    · rw [if_pos ⟨h1, by omega⟩, if_pos (by omega), if_neg (by omega), wi64_id (n := n - x.op) (by unfold I64; omega), wi64_id (n := x.cr + n) (by unfold I64; omega), wi64_id (n := x.pd - (n - x.op)) (by unfold I64; omega)]
      rfl
    · rw [if_pos ⟨h1, by omega⟩, if_pos (by omega), if_pos (by omega), wi64_id (n := x.cr + n) (by unfold I64; omega), Int.sub_zero, wi64_id (n := x.pd) (by unfold I64; omega)]
      rfl
  · rw [if_neg h1] at hc
    rw [if_neg (fun h => h1 h.1)]
    refine ACalls.fgo c15 rfl fun hS => ?_
    repeat' first | with_reducible refine fzD_ite (fun q => ?_) (fun q => ?_) | ((try conv => whnf); first
      | refine bs_d (fun q => ?_) (fun q => ?_)
      | refine bs_n ?_
      | refine bs_i (fun q => ?_) (fun q => ?_)
      | refine ck rfl rfl (hc) ?_
      | refine cq (hc) ?_
      | refine ffin _ rfl rfl hS (Sub.refl _) rfl ⟨?_, rfl, rfl⟩)
    rfl

end Go.KL.YtmijcaccgbhgdaaDoor
