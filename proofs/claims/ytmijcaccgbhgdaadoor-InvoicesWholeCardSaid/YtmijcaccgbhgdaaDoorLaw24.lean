/- the laws of layer 24 -/
import Derived.Test.YtmijcaccgbhgdaaDoorInv6
set_option linter.unusedVariables false
set_option linter.unusedSimpArgs false
set_option maxRecDepth 4000
set_option maxHeartbeats 4000000
namespace Go.KL.YtmijcaccgbhgdaaDoor
open Go Go.KL Go.RowKit Go.Proofs

theorem c7 : cFun E0.P 7 = some ⟨121, [(0, none)], .seq (.rg [⟨some 0, none, .mv (.k (.bool false))⟩]) (.seq (.rg [⟨some 17, none, .build [.int .u64 0, .int .u64 0, .int .u64 0, .int .i64 0, .int .i64 0, .int .i64 0, .int .i64 0, .int .i64 0, .int .i64 0, .int .i64 0, .int .i64 0] [(0, 1, .k (.int .u64 1)), (1, 1, .k (.int .u64 1)), (3, 1, .k (.int .i64 10)), (4, 1, .k (.int .i64 40)), (5, 1, .k (.int .i64 10)), (6, 1, .k (.int .i64 41)), (7, 1, .k (.int .i64 100))]⟩, ⟨some 1, none, .alloc [.int .u64 0, .int .u64 0, .int .u64 0, .int .i64 0, .int .i64 0, .int .i64 0, .int .i64 0, .int .i64 0, .int .i64 0, .int .i64 0, .int .i64 0] 24⟩, ⟨none, none, .st 11 (.t 1) (.t 17)⟩]) (.seq (.rg [⟨some 19, none, .ld 11 true (.t 1)⟩, ⟨some 20, none, .call 16 [.t 19, .k (.int .i64 60)]⟩, ⟨some 18, none, .mv (.t 20)⟩, ⟨some 21, none, .ext 0 (.t 18)⟩, ⟨some 22, none, .ext 1 (.t 18)⟩, ⟨some 2, none, .alloc [.int .u64 0, .int .u64 0, .int .u64 0, .int .i64 0, .int .i64 0, .int .i64 0, .int .i64 0, .int .i64 0, .int .i64 0, .int .i64 0, .int .i64 0] 24⟩, ⟨none, none, .st 11 (.t 2) (.t 21)⟩, ⟨some 3, none, .mv (.t 22)⟩]) (.seq (.rg [⟨some 24, none, .ld 11 true (.t 2)⟩, ⟨some 25, none, .call 16 [.t 24, .k (.int .i64 41)]⟩, ⟨some 23, none, .mv (.t 25)⟩, ⟨some 26, none, .ext 0 (.t 23)⟩, ⟨some 27, none, .ext 1 (.t 23)⟩, ⟨some 4, none, .alloc [.int .u64 0, .int .u64 0, .int .u64 0, .int .i64 0, .int .i64 0, .int .i64 0, .int .i64 0, .int .i64 0, .int .i64 0, .int .i64 0, .int .i64 0] 24⟩, ⟨none, none, .st 11 (.t 4) (.t 26)⟩, ⟨some 5, none, .mv (.t 27)⟩]) (.seq (.rg [⟨some 29, none, .ld 11 true (.t 2)⟩, ⟨some 30, none, .call 14 [.t 29, .k (.int .i64 50)]⟩, ⟨some 28, none, .mv (.t 30)⟩, ⟨some 31, none, .ext 0 (.t 28)⟩, ⟨some 32, none, .ext 1 (.t 28)⟩, ⟨some 33, none, .ext 2 (.t 28)⟩, ⟨some 6, none, .alloc [.int .u64 0, .int .u64 0, .int .u64 0, .int .i64 0, .int .i64 0, .int .i64 0, .int .i64 0, .int .i64 0, .int .i64 0, .int .i64 0, .int .i64 0] 24⟩, ⟨none, none, .st 11 (.t 6) (.t 31)⟩, ⟨some 7, none, .mv (.t 32)⟩, ⟨some 8, none, .mv (.t 33)⟩]) (.seq (.rg [⟨some 35, none, .ld 11 true (.t 2)⟩, ⟨some 36, none, .call 20 [.t 35]⟩, ⟨some 34, none, .mv (.t 36)⟩, ⟨some 37, none, .ext 0 (.t 34)⟩, ⟨some 38, none, .ext 1 (.t 34)⟩, ⟨some 39, none, .ext 2 (.t 34)⟩, ⟨some 9, none, .alloc [.int .u64 0, .int .u64 0, .int .u64 0, .int .i64 0, .int .i64 0, .int .i64 0, .int .i64 0, .int .i64 0, .int .i64 0, .int .i64 0, .int .i64 0] 24⟩, ⟨none, none, .st 11 (.t 9) (.t 37)⟩, ⟨some 10, none, .mv (.t 38)⟩, ⟨some 11, none, .mv (.t 39)⟩]) (.seq (.rg [⟨some 41, none, .ld 11 true (.t 1)⟩, ⟨some 42, none, .call 8 [.t 41, .k (.int .i64 71)]⟩, ⟨some 40, none, .mv (.t 42)⟩, ⟨some 43, none, .ext 0 (.t 40)⟩, ⟨some 44, none, .ext 1 (.t 40)⟩, ⟨some 45, none, .ext 2 (.t 40)⟩, ⟨some 12, none, .mv (.t 43)⟩, ⟨some 13, none, .mv (.t 44)⟩, ⟨some 14, none, .mv (.t 45)⟩]) (.seq (.rg [⟨some 47, none, .ld 11 true (.t 1)⟩, ⟨some 48, none, .ld 11 true (.t 2)⟩, ⟨some 49, none, .buildS 2 11 [.int .u64 0, .int .u64 0, .int .u64 0, .int .i64 0, .int .i64 0, .int .i64 0, .int .i64 0, .int .i64 0, .int .i64 0, .int .i64 0, .int .i64 0] [(0, .t 47), (1, .t 48)] 24⟩, ⟨some 50, none, .call 10 [.t 49, .k (.int .i64 131)]⟩, ⟨some 46, none, .mv (.t 50)⟩, ⟨some 51, none, .ext 0 (.t 46)⟩, ⟨some 52, none, .ext 1 (.t 46)⟩, ⟨some 15, none, .alloc [.int .i64 0, .int .i64 0, .int .i64 0, .int .i64 0, .int .i64 0] 32⟩, ⟨none, none, .st 5 (.t 15) (.t 51)⟩, ⟨some 16, none, .mv (.t 52)⟩]) (.seq (.rg [⟨some 53, none, .mv (.t 3)⟩, ⟨some 54, none, .bin .eql .leaf (.t 53) (.k (.int .i64 0))⟩, ⟨some 55, none, .mv (.t 54)⟩, ⟨some 56, some (55, true), .ld 11 true (.t 2)⟩, ⟨some 57, some (55, true), .call 12 [.t 56]⟩, ⟨some 58, some (55, true), .bin .eql .leaf (.t 57) (.k (.int .i64 40))⟩, ⟨some 59, none, .pick (.t 55) (.t 58) (.k (.bool false))⟩, ⟨some 60, none, .mv (.t 59)⟩, ⟨some 61, some (60, true), .mv (.t 5)⟩, ⟨some 62, some (60, true), .bin .eql .leaf (.t 61) (.k (.int .i64 9))⟩, ⟨some 63, none, .pick (.t 60) (.t 62) (.k (.bool false))⟩, ⟨some 64, none, .mv (.t 63)⟩, ⟨some 65, some (64, true), .fa 8 (.t 6)⟩, ⟨some 66, some (64, true), .ld 1 false (.t 65)⟩, ⟨some 67, some (64, true), .bin .eql .leaf (.t 66) (.k (.int .i64 50))⟩, ⟨some 68, none, .pick (.t 64) (.t 67) (.k (.bool false))⟩, ⟨some 69, none, .mv (.t 68)⟩, ⟨some 70, some (69, true), .fa 9 (.t 6)⟩, ⟨some 71, some (69, true), .ld 1 false (.t 70)⟩, ⟨some 72, some (69, true), .bin .eql .leaf (.t 71) (.k (.int .i64 50))⟩, ⟨some 73, none, .pick (.t 69) (.t 72) (.k (.bool false))⟩, ⟨some 74, none, .mv (.t 73)⟩, ⟨some 75, some (74, true), .mv (.t 7)⟩, ⟨some 76, some (74, true), .bin .eql .leaf (.t 75) (.k (.int .i64 10))⟩, ⟨some 77, none, .pick (.t 74) (.t 76) (.k (.bool false))⟩, ⟨some 78, none, .mv (.t 77)⟩, ⟨some 79, some (78, true), .mv (.t 8)⟩, ⟨some 80, some (78, true), .bin .eql .leaf (.t 79) (.k (.int .i64 0))⟩, ⟨some 81, none, .pick (.t 78) (.t 80) (.k (.bool false))⟩, ⟨some 82, none, .mv (.t 81)⟩, ⟨some 83, some (82, true), .ld 11 true (.t 6)⟩, ⟨some 84, some (82, true), .call 12 [.t 83]⟩, ⟨some 85, some (82, true), .bin .eql .leaf (.t 84) (.k (.int .i64 0))⟩, ⟨some 86, none, .pick (.t 82) (.t 85) (.k (.bool false))⟩, ⟨some 87, none, .mv (.t 86)⟩, ⟨some 88, some (87, true), .fa 10 (.t 9)⟩, ⟨some 89, some (87, true), .ld 1 false (.t 88)⟩, ⟨some 90, some (87, true), .bin .eql .leaf (.t 89) (.k (.int .i64 40))⟩, ⟨some 91, none, .pick (.t 87) (.t 90) (.k (.bool false))⟩, ⟨some 92, none, .mv (.t 91)⟩, ⟨some 93, some (92, true), .mv (.t 10)⟩, ⟨some 94, some (92, true), .bin .eql .leaf (.t 93) (.k (.int .i64 40))⟩, ⟨some 95, none, .pick (.t 92) (.t 94) (.k (.bool false))⟩, ⟨some 96, none, .mv (.t 95)⟩, ⟨some 97, some (96, true), .mv (.t 11)⟩, ⟨some 98, some (96, true), .bin .eql .leaf (.t 97) (.k (.int .i64 0))⟩, ⟨some 99, none, .pick (.t 96) (.t 98) (.k (.bool false))⟩, ⟨some 100, none, .mv (.t 99)⟩, ⟨some 101, some (100, true), .mv (.t 12)⟩, ⟨some 102, some (100, true), .bin .eql .leaf (.t 101) (.k (.int .i64 31))⟩, ⟨some 103, none, .pick (.t 100) (.t 102) (.k (.bool false))⟩, ⟨some 104, none, .mv (.t 103)⟩, ⟨some 105, some (104, true), .mv (.t 13)⟩, ⟨some 106, some (104, true), .bin .eql .leaf (.t 105) (.k (.int .i64 2))⟩, ⟨some 107, none, .pick (.t 104) (.t 106) (.k (.bool false))⟩, ⟨some 108, none, .mv (.t 107)⟩, ⟨some 109, some (108, true), .mv (.t 14)⟩, ⟨some 110, some (108, true), .bin .eql .leaf (.t 109) (.k (.int .i64 0))⟩, ⟨some 111, none, .pick (.t 108) (.t 110) (.k (.bool false))⟩, ⟨some 112, none, .mv (.t 111)⟩, ⟨some 113, some (112, true), .ld 5 true (.t 15)⟩, ⟨some 114, some (112, true), .build [.int .i64 0, .int .i64 0, .int .i64 0, .int .i64 0, .int .i64 0] [(0, 1, .k (.int .i64 0)), (1, 1, .k (.int .i64 0)), (2, 1, .k (.int .i64 0)), (3, 1, .k (.int .i64 0)), (4, 1, .k (.int .i64 140))]⟩, ⟨some 115, some (112, true), .bin .eql (.agg [(0, .i), (1, .i), (2, .i), (3, .i), (4, .i)]) (.t 113) (.t 114)⟩, ⟨some 116, none, .pick (.t 112) (.t 115) (.k (.bool false))⟩, ⟨some 117, none, .mv (.t 116)⟩, ⟨some 118, some (117, true), .mv (.t 16)⟩, ⟨some 119, some (117, true), .bin .eql .leaf (.t 118) (.k (.int .i64 0))⟩, ⟨some 120, none, .pick (.t 117) (.t 119) (.k (.bool false))⟩, ⟨some 0, none, .mv (.t 120)⟩]) .ret))))))))⟩ := by kernel_rfl
theorem c5 : cFun E0.P 5 = some ⟨126, [(4, none)], .seq (.rg [⟨some 2, none, .box (.t 0) 24⟩, ⟨some 4, none, .mv (.k (.bool false))⟩]) (.seq (.rg [⟨some 14, none, .ld 11 true (.t 2)⟩, ⟨some 15, none, .mv (.t 1)⟩, ⟨some 16, none, .call 14 [.t 14, .t 15]⟩, ⟨some 13, none, .mv (.t 16)⟩, ⟨some 17, none, .ext 0 (.t 13)⟩, ⟨some 18, none, .ext 1 (.t 13)⟩, ⟨some 19, none, .ext 2 (.t 13)⟩, ⟨some 5, none, .alloc [.int .u64 0, .int .u64 0, .int .u64 0, .int .i64 0, .int .i64 0, .int .i64 0, .int .i64 0, .int .i64 0, .int .i64 0, .int .i64 0, .int .i64 0] 24⟩, ⟨none, none, .st 11 (.t 5) (.t 17)⟩, ⟨some 6, none, .mv (.t 18)⟩, ⟨some 7, none, .mv (.t 19)⟩]) (.seq (.rg [⟨some 21, none, .ld 11 true (.t 2)⟩, ⟨some 22, none, .mv (.t 1)⟩, ⟨some 23, none, .call 15 [.t 21, .t 22]⟩, ⟨some 20, none, .mv (.t 23)⟩, ⟨some 24, none, .ext 0 (.t 20)⟩, ⟨some 25, none, .ext 1 (.t 20)⟩, ⟨some 26, none, .ext 2 (.t 20)⟩, ⟨some 8, none, .alloc [.int .u64 0, .int .u64 0, .int .u64 0, .int .i64 0, .int .i64 0, .int .i64 0, .int .i64 0, .int .i64 0, .int .i64 0, .int .i64 0, .int .i64 0] 24⟩, ⟨none, none, .st 11 (.t 8) (.t 24)⟩, ⟨some 9, none, .mv (.t 25)⟩, ⟨some 10, none, .mv (.t 26)⟩]) (.seq (.seq (.rg [⟨some 27, none, .ld 11 true (.t 5)⟩, ⟨some 28, none, .ld 11 true (.t 8)⟩, ⟨some 29, none, .bin .neq (.agg [(0, .i), (1, .i), (2, .i), (3, .i), (4, .i), (5, .i), (6, .i), (7, .i), (8, .i), (9, .i), (10, .i)]) (.t 27) (.t 28)⟩, ⟨some 30, none, .mv (.t 29)⟩, ⟨some 31, some (30, false), .mv (.t 6)⟩, ⟨some 32, some (30, false), .mv (.t 9)⟩, ⟨some 33, some (30, false), .bin .neq .leaf (.t 31) (.t 32)⟩, ⟨some 34, none, .pick (.t 30) (.k (.bool true)) (.t 33)⟩, ⟨some 35, none, .mv (.t 34)⟩, ⟨some 36, some (35, false), .mv (.t 7)⟩, ⟨some 37, some (35, false), .mv (.t 10)⟩, ⟨some 38, some (35, false), .bin .neq .leaf (.t 36) (.t 37)⟩, ⟨some 39, none, .pick (.t 35) (.k (.bool true)) (.t 38)⟩]) (.cond (.t 39) (.seq (.rg [⟨some 4, none, .mv (.k (.bool false))⟩]) .ret) .skip)) (.seq (.rg [⟨some 41, none, .ld 11 true (.t 2)⟩, ⟨some 42, none, .mv (.t 1)⟩, ⟨some 43, none, .call 16 [.t 41, .t 42]⟩, ⟨some 40, none, .mv (.t 43)⟩, ⟨some 44, none, .ext 0 (.t 40)⟩, ⟨some 45, none, .ext 1 (.t 40)⟩, ⟨none, none, .st 11 (.t 5) (.t 44)⟩, ⟨some 7, none, .mv (.t 45)⟩]) (.seq (.rg [⟨some 47, none, .ld 11 true (.t 2)⟩, ⟨some 48, none, .mv (.t 1)⟩, ⟨some 49, none, .call 17 [.t 47, .t 48]⟩, ⟨some 46, none, .mv (.t 49)⟩, ⟨some 50, none, .ext 0 (.t 46)⟩, ⟨some 51, none, .ext 1 (.t 46)⟩, ⟨none, none, .st 11 (.t 8) (.t 50)⟩, ⟨some 10, none, .mv (.t 51)⟩]) (.seq (.seq (.rg [⟨some 52, none, .ld 11 true (.t 5)⟩, ⟨some 53, none, .ld 11 true (.t 8)⟩, ⟨some 54, none, .bin .neq (.agg [(0, .i), (1, .i), (2, .i), (3, .i), (4, .i), (5, .i), (6, .i), (7, .i), (8, .i), (9, .i), (10, .i)]) (.t 52) (.t 53)⟩, ⟨some 55, none, .mv (.t 54)⟩, ⟨some 56, some (55, false), .mv (.t 7)⟩, ⟨some 57, some (55, false), .mv (.t 10)⟩, ⟨some 58, some (55, false), .bin .neq .leaf (.t 56) (.t 57)⟩, ⟨some 59, none, .pick (.t 55) (.k (.bool true)) (.t 58)⟩]) (.cond (.t 59) (.seq (.rg [⟨some 4, none, .mv (.k (.bool false))⟩]) .ret) .skip)) (.seq (.rg [⟨some 61, none, .ld 11 true (.t 2)⟩, ⟨some 62, none, .mv (.t 1)⟩, ⟨some 63, none, .call 18 [.t 61, .t 62]⟩, ⟨some 60, none, .mv (.t 63)⟩, ⟨some 64, none, .ext 0 (.t 60)⟩, ⟨some 65, none, .ext 1 (.t 60)⟩, ⟨none, none, .st 11 (.t 5) (.t 64)⟩, ⟨some 7, none, .mv (.t 65)⟩]) (.seq (.rg [⟨some 67, none, .ld 11 true (.t 2)⟩, ⟨some 68, none, .mv (.t 1)⟩, ⟨some 69, none, .call 19 [.t 67, .t 68]⟩, ⟨some 66, none, .mv (.t 69)⟩, ⟨some 70, none, .ext 0 (.t 66)⟩, ⟨some 71, none, .ext 1 (.t 66)⟩, ⟨none, none, .st 11 (.t 8) (.t 70)⟩, ⟨some 10, none, .mv (.t 71)⟩]) (.seq (.seq (.rg [⟨some 72, none, .ld 11 true (.t 5)⟩, ⟨some 73, none, .ld 11 true (.t 8)⟩, ⟨some 74, none, .bin .neq (.agg [(0, .i), (1, .i), (2, .i), (3, .i), (4, .i), (5, .i), (6, .i), (7, .i), (8, .i), (9, .i), (10, .i)]) (.t 72) (.t 73)⟩, ⟨some 75, none, .mv (.t 74)⟩, ⟨some 76, some (75, false), .mv (.t 7)⟩, ⟨some 77, some (75, false), .mv (.t 10)⟩, ⟨some 78, some (75, false), .bin .neq .leaf (.t 76) (.t 77)⟩, ⟨some 79, none, .pick (.t 75) (.k (.bool true)) (.t 78)⟩]) (.cond (.t 79) (.seq (.rg [⟨some 4, none, .mv (.k (.bool false))⟩]) .ret) .skip)) (.seq (.rg [⟨some 81, none, .ld 11 true (.t 2)⟩, ⟨some 82, none, .call 20 [.t 81]⟩, ⟨some 80, none, .mv (.t 82)⟩, ⟨some 83, none, .ext 0 (.t 80)⟩, ⟨some 84, none, .ext 1 (.t 80)⟩, ⟨some 85, none, .ext 2 (.t 80)⟩, ⟨none, none, .st 11 (.t 5) (.t 83)⟩, ⟨some 6, none, .mv (.t 84)⟩, ⟨some 7, none, .mv (.t 85)⟩]) (.seq (.rg [⟨some 87, none, .ld 11 true (.t 2)⟩, ⟨some 88, none, .call 21 [.t 87]⟩, ⟨some 86, none, .mv (.t 88)⟩, ⟨some 89, none, .ext 0 (.t 86)⟩, ⟨some 90, none, .ext 1 (.t 86)⟩, ⟨some 91, none, .ext 2 (.t 86)⟩, ⟨none, none, .st 11 (.t 8) (.t 89)⟩, ⟨some 9, none, .mv (.t 90)⟩, ⟨some 10, none, .mv (.t 91)⟩]) (.seq (.rg [⟨some 93, none, .ld 11 true (.t 2)⟩, ⟨some 94, none, .call 22 [.t 93]⟩, ⟨some 92, none, .mv (.t 94)⟩, ⟨some 95, none, .ext 0 (.t 92)⟩, ⟨some 96, none, .ext 1 (.t 92)⟩, ⟨some 11, none, .mv (.t 95)⟩, ⟨some 12, none, .mv (.t 96)⟩]) (.seq (.rd [(⟨some 97, none, .ld 11 true (.t 5)⟩, false), (⟨some 98, none, .ld 11 true (.t 8)⟩, false), (⟨some 99, none, .bin .eql (.agg [(0, .i), (1, .i), (2, .i), (3, .i), (4, .i), (5, .i), (6, .i), (7, .i), (8, .i), (9, .i), (10, .i)]) (.t 97) (.t 98)⟩, false), (⟨some 100, none, .mv (.t 99)⟩, false), (⟨some 101, some (100, true), .mv (.t 6)⟩, false), (⟨some 102, some (100, true), .mv (.t 9)⟩, false), (⟨some 103, some (100, true), .bin .eql .leaf (.t 101) (.t 102)⟩, false), (⟨some 104, none, .pick (.t 100) (.t 103) (.k (.bool false))⟩, false), (⟨some 105, none, .mv (.t 104)⟩, false), (⟨some 106, some (105, true), .mv (.t 7)⟩, false), (⟨some 107, some (105, true), .mv (.t 10)⟩, false), (⟨some 108, some (105, true), .bin .eql .leaf (.t 106) (.t 107)⟩, false), (⟨some 109, none, .pick (.t 105) (.t 108) (.k (.bool false))⟩, false), (⟨some 110, none, .mv (.t 109)⟩, false), (⟨some 111, some (110, true), .ld 11 true (.t 2)⟩, false), (⟨some 113, some (110, true), .mv (.t 11)⟩, false), (⟨some 112, some (110, true), .call 12 [.t 111]⟩, true), (⟨some 114, some (110, true), .bin .eql .leaf (.t 112) (.t 113)⟩, false), (⟨some 115, none, .pick (.t 110) (.t 114) (.k (.bool false))⟩, false), (⟨some 116, none, .mv (.t 115)⟩, false), (⟨some 117, some (116, true), .ld 11 true (.t 2)⟩, false), (⟨some 118, some (116, true), .call 23 [.t 117]⟩, false), (⟨some 119, some (116, true), .ld 11 true (.t 2)⟩, false), (⟨some 120, some (116, true), .call 24 [.t 119]⟩, true), (⟨some 121, some (116, true), .bin .eql .leaf (.t 118) (.t 120)⟩, false), (⟨some 122, none, .pick (.t 116) (.t 121) (.k (.bool false))⟩, false), (⟨some 123, none, .mv (.t 122)⟩, false), (⟨some 124, some (123, true), .call 7 []⟩, true), (⟨some 125, none, .pick (.t 123) (.t 124) (.k (.bool false))⟩, false), (⟨some 4, none, .mv (.t 125)⟩, false)]) .ret)))))))))))))⟩ := by kernel_rfl
theorem c3 : cFun E0.P 3 = some ⟨73, [(6, none)], .seq (.rg [⟨some 3, none, .box (.t 0) 24⟩, ⟨some 6, none, .mv (.k (.bool false))⟩]) (.seq (.seq (.rg [⟨some 17, none, .mv (.t 1)⟩, ⟨some 18, none, .len 1 (.t 17)⟩, ⟨some 19, none, .bin .gtr .leaf (.t 18) (.k (.int .i64 100))⟩]) (.cond (.t 19) (.seq (.rg [⟨some 20, none, .call 7 []⟩, ⟨some 6, none, .mv (.t 20)⟩]) .ret) .skip)) (.seq (.rg [⟨some 22, none, .ld 11 true (.t 3)⟩, ⟨some 23, none, .mv (.t 2)⟩, ⟨some 24, none, .call 8 [.t 22, .t 23]⟩, ⟨some 21, none, .mv (.t 24)⟩, ⟨some 25, none, .ext 0 (.t 21)⟩, ⟨some 26, none, .ext 1 (.t 21)⟩, ⟨some 27, none, .ext 2 (.t 21)⟩, ⟨some 7, none, .mv (.t 25)⟩, ⟨some 8, none, .mv (.t 26)⟩, ⟨some 9, none, .mv (.t 27)⟩]) (.seq (.rg [⟨some 29, none, .ld 11 true (.t 3)⟩, ⟨some 30, none, .mv (.t 2)⟩, ⟨some 31, none, .call 9 [.t 29, .t 30]⟩, ⟨some 28, none, .mv (.t 31)⟩, ⟨some 32, none, .ext 0 (.t 28)⟩, ⟨some 33, none, .ext 1 (.t 28)⟩, ⟨some 34, none, .ext 2 (.t 28)⟩, ⟨some 10, none, .mv (.t 32)⟩, ⟨some 11, none, .mv (.t 33)⟩, ⟨some 12, none, .mv (.t 34)⟩]) (.seq (.rg [⟨some 36, none, .mv (.t 1)⟩, ⟨some 37, none, .mv (.t 2)⟩, ⟨some 38, none, .call 10 [.t 36, .t 37]⟩, ⟨some 35, none, .mv (.t 38)⟩, ⟨some 39, none, .ext 0 (.t 35)⟩, ⟨some 40, none, .ext 1 (.t 35)⟩, ⟨some 13, none, .alloc [.int .i64 0, .int .i64 0, .int .i64 0, .int .i64 0, .int .i64 0] 32⟩, ⟨none, none, .st 5 (.t 13) (.t 39)⟩, ⟨some 14, none, .mv (.t 40)⟩]) (.seq (.rg [⟨some 42, none, .mv (.t 1)⟩, ⟨some 43, none, .mv (.t 2)⟩, ⟨some 44, none, .call 11 [.t 42, .t 43]⟩, ⟨some 41, none, .mv (.t 44)⟩, ⟨some 45, none, .ext 0 (.t 41)⟩, ⟨some 46, none, .ext 1 (.t 41)⟩, ⟨some 15, none, .alloc [.int .i64 0, .int .i64 0, .int .i64 0, .int .i64 0, .int .i64 0] 32⟩, ⟨none, none, .st 5 (.t 15) (.t 45)⟩, ⟨some 16, none, .mv (.t 46)⟩]) (.seq (.rg [⟨some 47, none, .mv (.t 7)⟩, ⟨some 48, none, .mv (.t 10)⟩, ⟨some 49, none, .bin .eql .leaf (.t 47) (.t 48)⟩, ⟨some 50, none, .mv (.t 49)⟩, ⟨some 51, some (50, true), .mv (.t 8)⟩, ⟨some 52, some (50, true), .mv (.t 11)⟩, ⟨some 53, some (50, true), .bin .eql .leaf (.t 51) (.t 52)⟩, ⟨some 54, none, .pick (.t 50) (.t 53) (.k (.bool false))⟩, ⟨some 55, none, .mv (.t 54)⟩, ⟨some 56, some (55, true), .mv (.t 9)⟩, ⟨some 57, some (55, true), .mv (.t 12)⟩, ⟨some 58, some (55, true), .bin .eql .leaf (.t 56) (.t 57)⟩, ⟨some 59, none, .pick (.t 55) (.t 58) (.k (.bool false))⟩, ⟨some 60, none, .mv (.t 59)⟩, ⟨some 61, some (60, true), .ld 5 true (.t 13)⟩, ⟨some 62, some (60, true), .ld 5 true (.t 15)⟩, ⟨some 63, some (60, true), .bin .eql (.agg [(0, .i), (1, .i), (2, .i), (3, .i), (4, .i)]) (.t 61) (.t 62)⟩, ⟨some 64, none, .pick (.t 60) (.t 63) (.k (.bool false))⟩, ⟨some 65, none, .mv (.t 64)⟩, ⟨some 66, some (65, true), .mv (.t 14)⟩, ⟨some 67, some (65, true), .mv (.t 16)⟩, ⟨some 68, some (65, true), .bin .eql .leaf (.t 66) (.t 67)⟩, ⟨some 69, none, .pick (.t 65) (.t 68) (.k (.bool false))⟩, ⟨some 70, none, .mv (.t 69)⟩, ⟨some 71, some (70, true), .call 7 []⟩, ⟨some 72, none, .pick (.t 70) (.t 71) (.k (.bool false))⟩, ⟨some 6, none, .mv (.t 72)⟩]) .ret))))))⟩ := by kernel_rfl

def x0 : Iv := ⟨1, 1, 0, 10, 40, 10, 41, 100, 0, 0, 0⟩
def x1 : Iv := ⟨1, 1, 0, 10, 40, 10, 41, 100, 0, 60, 0⟩
def x2 : Iv := ⟨1, 1, 0, 10, 40, 10, 41, 100, 50, 50, 0⟩
def x3 : Iv := ⟨1, 1, 0, 10, 40, 10, 41, 100, 0, 60, 40⟩
theorem x0R : x0.R := by constructor <;> (simp only [x0]; first | unfold I64 | unfold U64) <;> omega
theorem x1R : x1.R := by constructor <;> (simp only [x1]; first | unfold I64 | unfold U64) <;> omega
theorem x2R : x2.R := by constructor <;> (simp only [x2]; first | unfold I64 | unfold U64) <;> omega
theorem fits0 : fits 131 [x0, x1] := by
  intro a h0 h5
  have : a = 0 ∨ a = 1 ∨ a = 2 ∨ a = 3 ∨ a = 4 := by omega
  rcases this with rfl | rfl | rfl | rfl | rfl <;> decide
theorem head : Pure 7 [] (.bool true) := by
  intro S tk
  have p1 : Pure 16 [x0.d, .int .i64 60] (.tup [x1.d, .int .i64 0]) := Pay x0 x0R 60 (by unfold I64; omega)
  have p2 : Pure 16 [x1.d, .int .i64 41] (.tup [Iv.zero.d, .int .i64 9]) := Pay x1 x1R 41 (by unfold I64; omega)
  have p3 : Pure 14 [x1.d, .int .i64 50] (.tup [x2.d, .int .i64 10, .int .i64 0]) := Credit x1 x1R 50 (by unfold I64; omega)
  have p4 : Pure 20 [x1.d] (.tup [x3.d, .int .i64 40, .int .i64 0]) := Lose x1 x1R
  have p5 : Pure 8 [x0.d, .int .i64 71] (.tup [.int .i64 31, .int .i64 2, .int .i64 0]) := Late x0 x0R 71 (by unfold I64; omega)
  have e0 : agesE 131 [x0, x1] = 0 := by
    rw [agesE, if_pos ⟨by omega, by omega, by intro x hx; simp at hx; rcases hx with rfl | rfl <;> decide⟩, if_pos fits0]
  have p6 : Pure 10 [.sl (ivs [x0, x1]), .int .i64 131] (.tup [.agg [.int .i64 0, .int .i64 0, .int .i64 0, .int .i64 0, .int .i64 140], .int .i64 0]) := by
    have := Ages [x0, x1] (by simp) (by intro x hx; simp at hx; rcases hx with rfl | rfl; exact x0R; exact x1R) 131 (by unfold I64; omega)
    rw [e0] at this
    exact this
  have p7 : Pure 12 [x1.d] (.int .i64 40) := Open x1 x1R
  have p8 : Pure 12 [x2.d] (.int .i64 0) := Open x2 x2R
  refine ACalls.fgo c7 rfl fun hS => ?_
  repeat' first | with_reducible refine fzD_ite (fun q => ?_) (fun q => ?_) | ((try conv => whnf); first
    | refine bs_d (fun q => ?_) (fun q => ?_)
    | refine bs_n ?_
    | refine bs_i (fun q => ?_) (fun q => ?_)
    | refine ck rfl rfl (p1) ?_
    | refine cq (p1) ?_
    | refine ck rfl rfl (p2) ?_
    | refine cq (p2) ?_
    | refine ck rfl rfl (p3) ?_
    | refine cq (p3) ?_
    | refine ck rfl rfl (p4) ?_
    | refine cq (p4) ?_
    | refine ck rfl rfl (p5) ?_
    | refine cq (p5) ?_
    | refine ck rfl rfl (p6) ?_
    | refine cq (p6) ?_
    | refine ck rfl rfl (p7) ?_
    | refine cq (p7) ?_
    | refine ck rfl rfl (p8) ?_
    | refine cq (p8) ?_
    | refine ffin _ rfl rfl hS (Sub.refl _) rfl ⟨?_, rfl, rfl⟩)
  all_goals rfl

theorem did_form (r : Except Int Iv) : ∃ (y : Iv) (e : Int), did r = .tup [y.d, .int .i64 e] := by
  cases r with
  | ok y => exact ⟨y, 0, rfl⟩
  | error e => exact ⟨Iv.zero, e, rfl⟩
theorem did2_form (r : Except Int (Iv × Int)) : ∃ (y : Iv) (m e : Int), did2 r = .tup [y.d, .int .i64 m, .int .i64 e] := by
  cases r with
  | ok y => exact ⟨y.1, y.2, 0, rfl⟩
  | error e => exact ⟨Iv.zero, 0, e, rfl⟩
theorem ref_form (x : Iv) : (if x.ok then D.tup [.int .i64 (x.am - x.cr - x.pd - x.lo), .bool true] else .tup [.int .i64 0, .bool false]) = .tup [.int .i64 x.op, .bool (decide x.ok)] := by
  by_cases h : x.ok
  · rw [if_pos h, op_ok h, decide_eq_true h]
  · rw [if_neg h, decide_eq_false h, Iv.op, if_neg h]

theorem Tell (x : Iv) (hx : x.R) (n : Int) (hn : I64 n) : Pure 5 [x.d, .int .i64 n] (.bool true) := by
  intro S tk
  have p1 := Credit x hx n hn
  have r1 := refCredit x hx n hn
  have p2 := Pay x hx n hn
  have r2 := refPay x hx n hn
  have p3 := Unpay x hx n hn
  have r3 := refUnpay x hx n hn
  have p4 := Lose x hx
  have r4 := refLose x hx
  have r5 := refOpen x hx
  have p5 := Open x hx
  have p6 := Check x hx
  have r6 := refCheck x hx
  obtain ⟨y1, m1, e1, h1⟩ := did2_form (x.credit n)
  obtain ⟨y2, e2, h2⟩ := did_form (x.pay n)
  obtain ⟨y3, e3, h3⟩ := did_form (x.unpay n)
  obtain ⟨y4, m4, e4, h4⟩ := did2_form x.lose
  rw [h1] at p1 r1
  rw [h2] at p2 r2
  rw [h3] at p3 r3
  rw [h4] at p4 r4
  rw [ref_form] at r5
  generalize (if x.ok then (0 : Int) else 2) = e6 at p6 r6
  refine ACalls.fgo c5 rfl fun hS => ?_
  repeat' first | with_reducible refine fzD_ite (fun q => ?_) (fun q => ?_) | ((try conv => whnf); first
    | refine bs_t (decide_eq_true rfl) ?_
    | refine bs_and ?_
    | refine bs_d (fun q => ?_) (fun q => ?_)
    | refine bs_n ?_
    | refine bs_i (fun q => ?_) (fun q => ?_)
    | refine ck rfl rfl (p1) ?_
    | refine cq (p1) ?_
    | refine ck rfl rfl (r1) ?_
    | refine cq (r1) ?_
    | refine ck rfl rfl (p2) ?_
    | refine cq (p2) ?_
    | refine ck rfl rfl (r2) ?_
    | refine cq (r2) ?_
    | refine ck rfl rfl (p3) ?_
    | refine cq (p3) ?_
    | refine ck rfl rfl (r3) ?_
    | refine cq (r3) ?_
    | refine ck rfl rfl (p4) ?_
    | refine cq (p4) ?_
    | refine ck rfl rfl (r4) ?_
    | refine cq (r4) ?_
    | refine ck rfl rfl (p5) ?_
    | refine cq (p5) ?_
    | refine ck rfl rfl (r5) ?_
    | refine cq (r5) ?_
    | refine ck rfl rfl (p6) ?_
    | refine cq (p6) ?_
    | refine ck rfl rfl (r6) ?_
    | refine cq (r6) ?_
    | refine ck rfl rfl (head) ?_
    | refine cq (head) ?_
    | refine ffin _ rfl rfl hS (Sub.refl _) rfl ⟨?_, rfl, rfl⟩)
  all_goals first
    | rfl
    | trace_state

theorem Age (x : Iv) (hx : x.R) (l : List Iv) (hr : ∀ y ∈ l, y.R) (day : Int) (hd : I64 day) : Pure 3 [x.d, .sl (ivs l), .int .i64 day] (.bool true) := by
  intro S tk
  by_cases h100 : l.length ≤ 100
  · have p1 := Late x hx day hd
    have r1 := refLate x hx day hd
    have p2 := Ages l (by omega) hr day hd
    have r2 := refAges l (by omega) hr day hd
    obtain ⟨a, b, c, h1⟩ : ∃ a b c : Int, lateD x day = .tup [.int .i64 a, .int .i64 b, .int .i64 c] := by
      unfold lateD
      split
      · exact ⟨_, _, _, rfl⟩
      · exact ⟨_, _, _, rfl⟩
    obtain ⟨s0, s1, s2, s3, s4, e, h2⟩ : ∃ s0 s1 s2 s3 s4 e : Int, agesD day l (agesE day l) = .tup [.agg [.int .i64 s0, .int .i64 s1, .int .i64 s2, .int .i64 s3, .int .i64 s4], .int .i64 e] := by
      unfold agesD
      split
      · exact ⟨_, _, _, _, _, _, rfl⟩
      · exact ⟨_, _, _, _, _, _, rfl⟩
    rw [h1] at p1 r1
    rw [h2] at p2 r2
    have hlen : ¬ (100 : Int) < ((ivs l).length : Int) := by rw [ivs_len]; omega
    refine ACalls.fgo c3 rfl fun hS => ?_
    repeat' first | with_reducible refine fzD_ite (fun q => ?_) (fun q => ?_) | ((try conv => whnf); first
      | refine bs_t (decide_eq_true rfl) ?_
      | refine bs_f (decide_eq_false hlen) ?_
      | refine bs_and ?_
      | refine bs_d (fun q => ?_) (fun q => ?_)
      | refine bs_n ?_
      | refine bs_i (fun q => ?_) (fun q => ?_)
      | refine ck rfl rfl (p1) ?_
      | refine cq (p1) ?_
      | refine ck rfl rfl (r1) ?_
      | refine cq (r1) ?_
      | refine ck rfl rfl (p2) ?_
      | refine cq (p2) ?_
      | refine ck rfl rfl (r2) ?_
      | refine cq (r2) ?_
      | refine ck rfl rfl (head) ?_
      | refine cq (head) ?_
      | refine ffin _ rfl rfl hS (Sub.refl _) rfl ⟨?_, rfl, rfl⟩)
    all_goals rfl
  · have hlen : (100 : Int) < ((ivs l).length : Int) := by rw [ivs_len]; omega
    refine ACalls.fgo c3 rfl fun hS => ?_
    repeat' first | with_reducible refine fzD_ite (fun q => ?_) (fun q => ?_) | ((try conv => whnf); first
      | refine bs_t (decide_eq_true hlen) ?_
      | refine bs_d (fun q => ?_) (fun q => ?_)
      | refine bs_n ?_
      | refine bs_i (fun q => ?_) (fun q => ?_)
      | refine ck rfl rfl (head) ?_
      | refine cq (head) ?_
      | refine ffin _ rfl rfl hS (Sub.refl _) rfl ⟨?_, rfl, rfl⟩)
    all_goals rfl

end Go.KL.YtmijcaccgbhgdaaDoor
