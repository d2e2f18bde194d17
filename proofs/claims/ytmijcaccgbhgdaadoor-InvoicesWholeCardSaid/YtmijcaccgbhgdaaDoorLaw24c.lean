/- the laws of layer 24: whatever is done -/
import Derived.Test.YtmijcaccgbhgdaaDoorLaw24
set_option linter.unusedVariables false
set_option linter.unusedSimpArgs false
set_option maxRecDepth 4000
set_option maxHeartbeats 8000000
namespace Go.KL.YtmijcaccgbhgdaaDoor
open Go Go.KL Go.RowKit Go.Proofs

theorem c6 : cFun E0.P 6 = some ⟨175, [(4, none)], .seq (.rg [⟨some 2, none, .box (.t 0) 24⟩, ⟨some 4, none, .mv (.k (.bool false))⟩]) (.seq (.seq (.rg [⟨some 12, none, .ld 11 true (.t 2)⟩, ⟨some 13, none, .call 23 [.t 12]⟩, ⟨some 14, none, .bin .neq .leaf (.t 13) (.k (.int .i64 0))⟩]) (.cond (.t 14) (.seq (.rg [⟨some 15, none, .ld 11 true (.t 2)⟩, ⟨some 16, none, .call 12 [.t 15]⟩, ⟨some 17, none, .bin .eql .leaf (.t 16) (.k (.int .i64 0))⟩, ⟨some 18, none, .mv (.t 17)⟩, ⟨some 19, some (18, true), .call 7 []⟩, ⟨some 20, none, .pick (.t 18) (.t 19) (.k (.bool false))⟩, ⟨some 4, none, .mv (.t 20)⟩]) .ret) .skip)) (.seq (.seq (.rg [⟨some 5, none, .mv (.k (.int .i64 0))⟩]) (.block 0 (.loop (.seq (.seq (.rg [⟨some 21, none, .mv (.t 5)⟩, ⟨some 22, none, .mv (.t 1)⟩, ⟨some 23, none, .len 1 (.t 22)⟩, ⟨some 24, none, .bin .lss .leaf (.t 21) (.t 23)⟩, ⟨some 25, none, .mv (.t 24)⟩, ⟨some 26, some (25, true), .mv (.t 5)⟩, ⟨some 27, some (25, true), .bin .lss .leaf (.t 26) (.k (.int .i64 60))⟩, ⟨some 28, none, .pick (.t 25) (.t 27) (.k (.bool false))⟩]) (.cond (.t 28) .skip (.exit 0))) (.seq (.block 1 (.seq (.rg [⟨some 31, none, .ld 11 true (.t 2)⟩, ⟨some 6, none, .alloc [.int .u64 0, .int .u64 0, .int .u64 0, .int .i64 0, .int .i64 0, .int .i64 0, .int .i64 0, .int .i64 0, .int .i64 0, .int .i64 0, .int .i64 0] 24⟩, ⟨none, none, .st 11 (.t 6) (.t 31)⟩, ⟨some 7, none, .mv (.k (.int .i64 0))⟩, ⟨some 8, none, .mv (.k (.int .i64 0))⟩]) (.seq (.seq (.rg [⟨some 32, none, .mv (.t 1)⟩, ⟨some 33, none, .mv (.t 5)⟩, ⟨some 34, none, .ia 2 (.t 32) (.t 33)⟩, ⟨some 35, none, .fa 0 (.t 34)⟩, ⟨some 36, none, .ld 1 false (.t 35)⟩, ⟨some 37, none, .bin .rem .leaf (.t 36) (.k (.int .u8 4))⟩]) (.block 2 (.seq (.rg [⟨some 39, none, .bin .eql .leaf (.t 37) (.k (.int .u8 0))⟩, ⟨some 38, none, .mv (.t 39)⟩]) (.cond (.t 38) (.rd [(⟨some 41, none, .ld 11 true (.t 2)⟩, false), (⟨some 42, none, .mv (.t 1)⟩, false), (⟨some 43, none, .mv (.t 5)⟩, false), (⟨some 44, none, .ia 2 (.t 42) (.t 43)⟩, false), (⟨some 45, none, .fa 1 (.t 44)⟩, false), (⟨some 46, none, .ld 1 false (.t 45)⟩, false), (⟨some 47, none, .call 14 [.t 41, .t 46]⟩, true), (⟨some 40, none, .mv (.t 47)⟩, false), (⟨some 48, none, .ext 0 (.t 40)⟩, false), (⟨some 49, none, .ext 1 (.t 40)⟩, false), (⟨some 50, none, .ext 2 (.t 40)⟩, false), (⟨none, none, .st 11 (.t 6) (.t 48)⟩, true), (⟨some 7, none, .mv (.t 49)⟩, false), (⟨some 8, none, .mv (.t 50)⟩, false)]) (.seq (.rg [⟨some 52, none, .bin .eql .leaf (.t 37) (.k (.int .u8 1))⟩, ⟨some 51, none, .mv (.t 52)⟩]) (.cond (.t 51) (.rd [(⟨some 54, none, .ld 11 true (.t 2)⟩, false), (⟨some 55, none, .mv (.t 1)⟩, false), (⟨some 56, none, .mv (.t 5)⟩, false), (⟨some 57, none, .ia 2 (.t 55) (.t 56)⟩, false), (⟨some 58, none, .fa 1 (.t 57)⟩, false), (⟨some 59, none, .ld 1 false (.t 58)⟩, false), (⟨some 60, none, .call 16 [.t 54, .t 59]⟩, true), (⟨some 53, none, .mv (.t 60)⟩, false), (⟨some 61, none, .ext 0 (.t 53)⟩, false), (⟨some 62, none, .ext 1 (.t 53)⟩, false), (⟨none, none, .st 11 (.t 6) (.t 61)⟩, true), (⟨some 8, none, .mv (.t 62)⟩, false)]) (.seq (.rg [⟨some 64, none, .bin .eql .leaf (.t 37) (.k (.int .u8 2))⟩, ⟨some 63, none, .mv (.t 64)⟩]) (.cond (.t 63) (.rd [(⟨some 66, none, .ld 11 true (.t 2)⟩, false), (⟨some 67, none, .mv (.t 1)⟩, false), (⟨some 68, none, .mv (.t 5)⟩, false), (⟨some 69, none, .ia 2 (.t 67) (.t 68)⟩, false), (⟨some 70, none, .fa 1 (.t 69)⟩, false), (⟨some 71, none, .ld 1 false (.t 70)⟩, false), (⟨some 72, none, .call 18 [.t 66, .t 71]⟩, true), (⟨some 65, none, .mv (.t 72)⟩, false), (⟨some 73, none, .ext 0 (.t 65)⟩, false), (⟨some 74, none, .ext 1 (.t 65)⟩, false), (⟨none, none, .st 11 (.t 6) (.t 73)⟩, true), (⟨some 8, none, .mv (.t 74)⟩, false)]) (.seq (.rg [⟨some 76, none, .bin .eql .leaf (.t 37) (.k (.int .u8 3))⟩, ⟨some 75, none, .mv (.t 76)⟩]) (.cond (.t 75) (.rg [⟨some 78, none, .ld 11 true (.t 2)⟩, ⟨some 79, none, .call 20 [.t 78]⟩, ⟨some 77, none, .mv (.t 79)⟩, ⟨some 80, none, .ext 0 (.t 77)⟩, ⟨some 81, none, .ext 1 (.t 77)⟩, ⟨some 82, none, .ext 2 (.t 77)⟩, ⟨none, none, .st 11 (.t 6) (.t 80)⟩, ⟨some 7, none, .mv (.t 81)⟩, ⟨some 8, none, .mv (.t 82)⟩]) .skip)))))))))) (.seq (.seq (.rg [⟨some 83, none, .mv (.t 8)⟩, ⟨some 84, none, .bin .neq .leaf (.t 83) (.k (.int .i64 0))⟩]) (.cond (.t 84) (.seq (.seq (.rg [⟨some 85, none, .ld 11 true (.t 6)⟩, ⟨some 86, none, .build [.int .u64 0, .int .u64 0, .int .u64 0, .int .i64 0, .int .i64 0, .int .i64 0, .int .i64 0, .int .i64 0, .int .i64 0, .int .i64 0, .int .i64 0] []⟩, ⟨some 87, none, .bin .neq (.agg [(0, .i), (1, .i), (2, .i), (3, .i), (4, .i), (5, .i), (6, .i), (7, .i), (8, .i), (9, .i), (10, .i)]) (.t 85) (.t 86)⟩, ⟨some 88, none, .mv (.t 87)⟩, ⟨some 89, some (88, false), .mv (.t 7)⟩, ⟨some 90, some (88, false), .bin .neq .leaf (.t 89) (.k (.int .i64 0))⟩, ⟨some 91, none, .pick (.t 88) (.k (.bool true)) (.t 90)⟩]) (.cond (.t 91) (.seq (.rg [⟨some 4, none, .mv (.k (.bool false))⟩]) .ret) .skip)) (.exit 1)) .skip)) (.seq (.rd [(⟨some 93, none, .ld 11 true (.t 6)⟩, false), (⟨some 94, none, .call 12 [.t 93]⟩, false), (⟨some 95, none, .fa 8 (.t 6)⟩, false), (⟨some 96, none, .ld 1 false (.t 95)⟩, false), (⟨some 97, none, .fa 9 (.t 6)⟩, false), (⟨some 98, none, .ld 1 false (.t 97)⟩, false), (⟨some 99, none, .fa 10 (.t 6)⟩, false), (⟨some 100, none, .ld 1 false (.t 99)⟩, false), (⟨some 101, none, .buildS 4 1 [.int .i64 0] [(0, .t 94), (1, .t 96), (2, .t 98), (3, .t 100)] 2⟩, false), (⟨some 102, none, .call 13 [.t 101]⟩, true), (⟨some 92, none, .mv (.t 102)⟩, false), (⟨some 103, none, .ext 0 (.t 92)⟩, false), (⟨some 104, none, .ext 1 (.t 92)⟩, false), (⟨some 9, none, .mv (.t 103)⟩, false), (⟨some 10, none, .mv (.t 104)⟩, false)]) (.seq (.seq (.rg [⟨some 105, none, .ld 11 true (.t 6)⟩, ⟨some 106, none, .call 23 [.t 105]⟩, ⟨some 107, none, .bin .neq .leaf (.t 106) (.k (.int .i64 0))⟩, ⟨some 108, none, .mv (.t 107)⟩, ⟨some 109, some (108, false), .mv (.t 10)⟩, ⟨some 110, some (108, false), .un .not (.t 109)⟩, ⟨some 111, none, .pick (.t 108) (.k (.bool true)) (.t 110)⟩, ⟨some 112, none, .mv (.t 111)⟩, ⟨some 113, some (112, false), .mv (.t 9)⟩, ⟨some 114, some (112, false), .fa 7 (.t 2)⟩, ⟨some 115, some (112, false), .ld 1 false (.t 114)⟩, ⟨some 116, some (112, false), .bin .neq .leaf (.t 113) (.t 115)⟩, ⟨some 117, none, .pick (.t 112) (.k (.bool true)) (.t 116)⟩, ⟨some 118, none, .mv (.t 117)⟩, ⟨some 119, some (118, false), .mv (.t 7)⟩, ⟨some 120, some (118, false), .bin .lss .leaf (.t 119) (.k (.int .i64 0))⟩, ⟨some 121, none, .pick (.t 118) (.k (.bool true)) (.t 120)⟩]) (.cond (.t 121) (.seq (.rg [⟨some 4, none, .mv (.k (.bool false))⟩]) .ret) .skip)) (.seq (.seq (.rd [(⟨some 122, none, .mv (.t 1)⟩, false), (⟨some 123, none, .mv (.t 5)⟩, false), (⟨some 124, none, .ia 2 (.t 122) (.t 123)⟩, false), (⟨some 125, none, .fa 0 (.t 124)⟩, false), (⟨some 126, none, .ld 1 false (.t 125)⟩, false), (⟨some 127, none, .bin .rem .leaf (.t 126) (.k (.int .u8 4))⟩, false), (⟨some 128, none, .bin .eql .leaf (.t 127) (.k (.int .u8 0))⟩, false), (⟨some 129, none, .mv (.t 128)⟩, false), (⟨some 130, some (129, true), .fa 9 (.t 2)⟩, false), (⟨some 131, some (129, true), .ld 1 false (.t 130)⟩, false), (⟨some 132, some (129, true), .fa 9 (.t 6)⟩, false), (⟨some 133, some (129, true), .ld 1 false (.t 132)⟩, false), (⟨some 134, some (129, true), .bin .sub .leaf (.t 131) (.t 133)⟩, false), (⟨some 135, some (129, true), .mv (.t 7)⟩, false), (⟨some 136, some (129, true), .bin .neq .leaf (.t 134) (.t 135)⟩, false), (⟨some 137, some (129, true), .mv (.t 136)⟩, false), (⟨some 138, some (137, false), .fa 8 (.t 6)⟩, false), (⟨some 139, some (137, false), .ld 1 false (.t 138)⟩, false), (⟨some 140, some (137, false), .fa 8 (.t 2)⟩, false), (⟨some 141, some (137, false), .ld 1 false (.t 140)⟩, false), (⟨some 142, some (137, false), .bin .sub .leaf (.t 139) (.t 141)⟩, false), (⟨some 143, some (137, false), .mv (.t 1)⟩, false), (⟨some 144, some (137, false), .mv (.t 5)⟩, false), (⟨some 145, some (137, false), .ia 2 (.t 143) (.t 144)⟩, false), (⟨some 146, some (137, false), .fa 1 (.t 145)⟩, false), (⟨some 147, some (137, false), .ld 1 false (.t 146)⟩, false), (⟨some 148, some (137, false), .bin .neq .leaf (.t 142) (.t 147)⟩, false), (⟨some 149, some (129, true), .pick (.t 137) (.k (.bool true)) (.t 148)⟩, false), (⟨some 150, some (129, true), .mv (.t 149)⟩, false), (⟨some 151, some (150, false), .mv (.t 7)⟩, false), (⟨some 152, some (150, false), .bin .gtr .leaf (.t 151) (.k (.int .i64 0))⟩, false), (⟨some 153, some (150, false), .mv (.t 152)⟩, false), (⟨some 154, some (153, true), .ld 11 true (.t 6)⟩, false), (⟨some 155, some (153, true), .call 12 [.t 154]⟩, true), (⟨some 156, some (153, true), .bin .neq .leaf (.t 155) (.k (.int .i64 0))⟩, false), (⟨some 157, some (150, false), .pick (.t 153) (.t 156) (.k (.bool false))⟩, false), (⟨some 158, some (129, true), .pick (.t 150) (.k (.bool true)) (.t 157)⟩, false), (⟨some 159, none, .pick (.t 129) (.t 158) (.k (.bool false))⟩, false)]) (.cond (.t 159) (.seq (.rg [⟨some 4, none, .mv (.k (.bool false))⟩]) .ret) .skip)) (.seq (.rg [⟨some 160, none, .ld 11 true (.t 6)⟩, ⟨some 11, none, .alloc [.int .u64 0, .int .u64 0, .int .u64 0, .int .i64 0, .int .i64 0, .int .i64 0, .int .i64 0, .int .i64 0, .int .i64 0, .int .i64 0, .int .i64 0] 24⟩, ⟨none, none, .st 11 (.t 11) (.t 160)⟩]) (.seq (.rg [⟨some 161, none, .fa 8 (.t 2)⟩, ⟨some 162, none, .ld 1 false (.t 161)⟩, ⟨some 163, none, .fa 8 (.t 11)⟩, ⟨none, none, .st 1 (.t 163) (.t 162)⟩]) (.seq (.rg [⟨some 164, none, .fa 9 (.t 2)⟩, ⟨some 165, none, .ld 1 false (.t 164)⟩, ⟨some 166, none, .fa 9 (.t 11)⟩, ⟨none, none, .st 1 (.t 166) (.t 165)⟩]) (.seq (.rg [⟨some 167, none, .fa 10 (.t 2)⟩, ⟨some 168, none, .ld 1 false (.t 167)⟩, ⟨some 169, none, .fa 10 (.t 11)⟩, ⟨none, none, .st 1 (.t 169) (.t 168)⟩]) (.seq (.seq (.rg [⟨some 170, none, .ld 11 true (.t 11)⟩, ⟨some 171, none, .ld 11 true (.t 2)⟩, ⟨some 172, none, .bin .neq (.agg [(0, .i), (1, .i), (2, .i), (3, .i), (4, .i), (5, .i), (6, .i), (7, .i), (8, .i), (9, .i), (10, .i)]) (.t 170) (.t 171)⟩]) (.cond (.t 172) (.seq (.rg [⟨some 4, none, .mv (.k (.bool false))⟩]) .ret) .skip)) (.rg [⟨some 173, none, .ld 11 true (.t 6)⟩, ⟨none, none, .st 11 (.t 2) (.t 173)⟩]))))))))))))) (.rg [⟨some 29, none, .mv (.t 5)⟩, ⟨some 30, none, .bin .add .leaf (.t 29) (.k (.int .i64 1))⟩, ⟨some 5, none, .mv (.t 30)⟩])))))) (.seq (.rg [⟨some 174, none, .call 7 []⟩, ⟨some 4, none, .mv (.t 174)⟩]) .ret)))⟩ := by kernel_rfl

structure Act where
  w : Int
  n : Int
def Act.cs (a : Act) : List D := [.int .u8 a.w, .int .i64 a.n]
structure Act.R (a : Act) : Prop where
  w : 0 ≤ a.w ∧ a.w < 256
  n : I64 a.n
def acts (l : List Act) : List (List D) := l.map Act.cs
theorem acts_len (l : List Act) : (acts l).length = l.length := List.length_map ..
theorem iaD_acts {l : List Act} {k : IntKind} {n : Int} {a : Act} (h0 : 0 ≤ n) (he : l[n.toNat]? = some a) : iaD 2 (.sl (acts l)) (.int k n) = some (.pe a.cs 0) := iaD_map (f := Act.cs) h0 he rfl

/-- what has been done -/
structure Done (x y : Iv) (m : Int) : Prop where
  ok : y.ok
  R : y.R
  am : y.am = x.am
  m0 : 0 ≤ m

theorem ok_R {x y : Iv} (hx : x.R) (hy : y.ok) (h1 : y.id = x.id) (h2 : y.cu = x.cu) (h3 : y.co = x.co) : y.R := by
  have k := hy
  unfold Iv.ok at k
  refine ⟨by rw [h1]; exact hx.id, by rw [h2]; exact hx.cu, by rw [h3]; exact hx.co, ?_, ?_, ?_, ?_, ?_, ?_, ?_, ?_⟩ <;> (unfold I64; omega)

theorem credit_ok {x : Iv} (hx : x.R) (hok : x.ok) (n : Int) : (∃ e, x.credit n = .error e ∧ e ≠ 0) ∨
    (∃ p m, x.credit n = .ok ({ x with cr := x.cr + n, pd := p }, m) ∧ Done x { x with cr := x.cr + n, pd := p } m ∧ x.pd - p = m ∧ (0 < m → ({ x with cr := x.cr + n, pd := p } : Iv).op = 0) ∧ 1 ≤ n ∧ n ≤ 4611686018427387903) := by
  have ho := op_ok hok
  have k := hok
  unfold Iv.ok at k
  by_cases h1 : 1 ≤ n
  · by_cases h2 : n ≤ x.op + x.pd
    · right
      by_cases h3 : n ≤ x.op
      · have hy : ({ x with cr := x.cr + n, pd := x.pd } : Iv).ok := by unfold Iv.ok; simp only; omega
        refine ⟨x.pd, 0, ?_, ⟨hy, ok_R hx hy rfl rfl rfl, rfl, Int.le_refl _⟩, by omega, fun h => absurd h (by omega), h1, by omega⟩
        rw [Iv.credit, if_pos ⟨hok, h1⟩, if_pos h2, if_pos h3]
      · have hy : ({ x with cr := x.cr + n, pd := x.pd - (n - x.op) } : Iv).ok := by unfold Iv.ok; simp only; omega
        refine ⟨x.pd - (n - x.op), n - x.op, ?_, ⟨hy, ok_R hx hy rfl rfl rfl, rfl, by omega⟩, by omega, fun h => ?_, h1, by omega⟩
        · rw [Iv.credit, if_pos ⟨hok, h1⟩, if_pos h2, if_neg h3]
        · rw [op_ok hy]; simp only; omega
    · left
      exact ⟨9, by rw [Iv.credit, if_pos ⟨hok, h1⟩, if_neg h2], by omega⟩
  · left
    exact ⟨2, by rw [Iv.credit, if_neg (fun h => h1 h.2)], by omega⟩
theorem pay_ok {x : Iv} (hx : x.R) (hok : x.ok) (n : Int) : (∃ e, x.pay n = .error e ∧ e ≠ 0) ∨ (∃ p, x.pay n = .ok { x with pd := p } ∧ Done x { x with pd := p } 0) := by
  have ho := op_ok hok
  have k := hok
  unfold Iv.ok at k
  by_cases h1 : 1 ≤ n
  · by_cases h2 : n ≤ x.op
    · have hy : ({ x with pd := x.pd + n } : Iv).ok := by unfold Iv.ok; simp only; omega
      exact .inr ⟨x.pd + n, by rw [Iv.pay, if_pos ⟨hok, h1⟩, if_pos h2], ⟨hy, ok_R hx hy rfl rfl rfl, rfl, Int.le_refl _⟩⟩
    · exact .inl ⟨9, by rw [Iv.pay, if_pos ⟨hok, h1⟩, if_neg h2], by omega⟩
  · exact .inl ⟨2, by rw [Iv.pay, if_neg (fun h => h1 h.2)], by omega⟩
theorem unpay_ok {x : Iv} (hx : x.R) (hok : x.ok) (n : Int) : (∃ e, x.unpay n = .error e ∧ e ≠ 0) ∨ (∃ p, x.unpay n = .ok { x with pd := p } ∧ Done x { x with pd := p } 0) := by
  have k := hok
  unfold Iv.ok at k
  by_cases h1 : 1 ≤ n
  · by_cases h2 : n ≤ x.pd
    · have hy : ({ x with pd := x.pd - n } : Iv).ok := by unfold Iv.ok; simp only; omega
      exact .inr ⟨x.pd - n, by rw [Iv.unpay, if_pos ⟨hok, h1⟩, if_pos h2], ⟨hy, ok_R hx hy rfl rfl rfl, rfl, Int.le_refl _⟩⟩
    · exact .inl ⟨9, by rw [Iv.unpay, if_pos ⟨hok, h1⟩, if_neg h2], by omega⟩
  · exact .inl ⟨2, by rw [Iv.unpay, if_neg (fun h => h1 h.2)], by omega⟩
theorem lose_ok {x : Iv} (hx : x.R) (hok : x.ok) : (∃ e, x.lose = .error e ∧ e ≠ 0) ∨ (∃ p, x.lose = .ok ({ x with lo := p }, x.op) ∧ Done x { x with lo := p } x.op) := by
  have ho := op_ok hok
  have hb := op_bd x
  have k := hok
  unfold Iv.ok at k
  by_cases h1 : x.op = 0
  · exact .inl ⟨9, by rw [Iv.lose, if_pos hok, if_pos h1], by omega⟩
  · have hy : ({ x with lo := x.lo + x.op } : Iv).ok := by unfold Iv.ok; simp only; omega
    exact .inr ⟨x.lo + x.op, by rw [Iv.lose, if_pos hok, if_neg h1], ⟨hy, ok_R hx hy rfl rfl rfl, rfl, hb.1⟩⟩

structure WS where
  i : Nat
  x : Iv

theorem Whole (x : Iv) (hx : x.R) (l : List Act) (hl : ∀ a ∈ l, a.R) : Pure 6 [x.d, .sl (acts l)] (.bool true) := by
  intro S tk
  have hc := Check x hx
  by_cases hok : x.ok
  · rw [if_pos hok] at hc
    refine ACalls.withSc fun hsc => ?_
    have hsc' : scLL S.length tk.length (acts l) = true := by simp only [scL, D.sc, Bool.and_true, Bool.and_eq_true] at hsc; exact hsc.2
    have hfr : ∀ s : WS, frSc (S.length + 1) (tk.length + 0) (frD S.length [(5, .d (.int .i64 s.i)), (1, .d (.sl (acts l))), (2, .lp 0 0)]) = true := fun s => by
      simp only [frD, FD.to, frSc, D.sc, Bool.true_and, Bool.and_true, Bool.and_eq_true, decide_eq_true_eq]
      exact ⟨scLL_mono (by omega) (by omega) hsc', by omega⟩
    refine ACalls.fgo c6 rfl fun hS => ?_
    repeat' first | with_reducible refine fzD_ite (fun q => ?_) (fun q => ?_) | ((try conv => whnf); first
      | refine bs_d (fun q => ?_) (fun q => ?_)
      | refine bs_n ?_
      | refine bs_i (fun q => ?_) (fun q => ?_)
      | refine ck rfl rfl (hc) ?_
      | refine cq (hc) ?_
      | refine ffin _ rfl rfl hS (Sub.refl _) rfl ⟨?_, rfl, rfl⟩)
    refine floop (α := WS) rfl rfl hS (fun s => s.i ≤ l.length ∧ s.x.R ∧ s.x.ok) (fun s => l.length - s.i) (fun s => [(5, .d (.int .i64 s.i)), (1, .d (.sl (acts l))), (2, .lp 0 0)]) (fun s => [.arr s.x.cs]) (fun _ => []) ⟨0, x⟩ ⟨by simp, hx, hok⟩ (fstep_sub ⟨Sub.refl _, Sub.refl _, Sub.refl _, trivial⟩) ?_
    clear hx hok hc
    rintro ⟨i, x⟩ ⟨hi, hx, hok⟩
    simp only at hi hx hok
    refine bs_d (fun (h : (i : Int) < ((acts l).length : Int)) => ?_) (fun (h : ¬ (i : Int) < ((acts l).length : Int)) => ?_)
    · rw [acts_len] at h
      have hi2 : i < l.length := by omega
      refine bs_d (fun (h60 : (i : Int) < 60) => ?_) (fun (h60 : ¬ (i : Int) < 60) => ?_)
      · have hai : l[i]? = some l[i] := List.getElem?_eq_getElem hi2
        have haR := hl l[i] (List.getElem_mem hi2)
        generalize l[i] = a at hai haR
        have hia : iaD 2 (.sl (acts l)) (.int .i64 i) = some (.pe a.cs 0) := iaD_acts (a := a) (by omega) (by simpa using hai)
        have ei : IntKind.wrap .i64 ((i : Int) + 1) = ((i + 1 : Nat) : Int) := by rw [wi64]; omega
        have hw := haR.w
        have hr : a.w.tmod 4 = 0 ∨ a.w.tmod 4 = 1 ∨ a.w.tmod 4 = 2 ∨ a.w.tmod 4 = 3 := by
          rw [Int.tmod_eq_emod_of_nonneg hw.1]; omega
        rcases hr with hr | hr | hr | hr
        · have hp := Credit x hx a.n haR.n
          have hn1 : ¬ a.w.tmod 4 = 1 := by omega
          have hn2 : ¬ a.w.tmod 4 = 2 := by omega
          have hn3 : ¬ a.w.tmod 4 = 3 := by omega
          rcases credit_ok hx hok a.n with ⟨e, he, hne⟩ | ⟨p, m, he, hd, hpm, hm, hna, hnb⟩
          · rw [he] at hp
            repeat' first | with_reducible refine fzD_ite (fun q => ?_) (fun q => ?_) | ((try conv => whnf); first
              | refine bs_t (decide_eq_true hr) ?_
              | refine bs_f (decide_eq_false hn1) ?_
              | refine bs_f (decide_eq_false hn2) ?_
              | refine bs_f (decide_eq_false hn3) ?_
              | refine bs_f (decide_eq_false hne) ?_
              | refine bs_t (decide_eq_true rfl) ?_
              | refine bs_and ?_
              | refine bs_d (fun q => ?_) (fun q => ?_)
              | refine bs_n ?_
              | refine bs_i (fun q => ?_) (fun q => ?_)
              | refine ck rfl rfl (hp) ?_
              | refine cq (hp) ?_
              | refine pK_i hia ?_
              | refine fnext ⟨i + 1, x⟩ ⟨hi2, hx, hok⟩ (by simp only; omega) (fstep_drop (J' := [_]) (Jx := [_]) rfl rfl ⟨Sub.int ei, Sub.refl _, Sub.refl _, trivial⟩ (hfr _) rfl)
              | refine ffin _ rfl rfl hS (Sub.refl _) rfl ⟨?_, rfl, rfl⟩)
          · rw [he] at hp
            have hyo := Open ({ x with cr := x.cr + a.n, pd := p } : Iv) hd.R
            have hyc := Check ({ x with cr := x.cr + a.n, pd := p } : Iv) hd.R
            rw [if_pos hd.ok] at hyc
            have hk := hd.ok
            have hoy := op_ok hd.ok
            unfold Iv.ok at hk
            simp only at hk hoy
            have hk2 := hok
            unfold Iv.ok at hk2
            generalize hY : ({ x with cr := x.cr + a.n, pd := p } : Iv).op = yo at hyo hoy hm
            have hsum := Sum [yo, ({ x with cr := x.cr + a.n, pd := p } : Iv).cr, ({ x with cr := x.cr + a.n, pd := p } : Iv).pd, ({ x with cr := x.cr + a.n, pd := p } : Iv).lo] (by simp) (by
              intro n hn; simp only [List.mem_cons, List.not_mem_nil, or_false] at hn; unfold I64
              rcases hn with rfl | rfl | rfl | rfl <;> omega)
            rw [sumS, show [yo, ({ x with cr := x.cr + a.n, pd := p } : Iv).cr, ({ x with cr := x.cr + a.n, pd := p } : Iv).pd, ({ x with cr := x.cr + a.n, pd := p } : Iv).lo].sum = x.am from by simp only [List.sum_cons, List.sum_nil]; omega, if_pos (by omega)] at hsum
            have hm0 : ¬ m < 0 := by have := hd.m0; omega
            have hw1 : IntKind.wrap .i64 (x.pd - p) = m := by rw [wi64]; omega
            have hw2 : IntKind.wrap .i64 (x.cr + a.n - x.cr) = a.n := by rw [wi64]; omega
            by_cases hmp : 0 < m
            · have hyo0 : yo = 0 := hm hmp
              repeat' first | with_reducible refine fzD_ite (fun q => ?_) (fun q => ?_) | ((try conv => whnf); first
                | refine bs_t (decide_eq_true hr) ?_
                | refine bs_f (decide_eq_false hn1) ?_
                | refine bs_f (decide_eq_false hn2) ?_
                | refine bs_f (decide_eq_false hn3) ?_
                | refine bs_t (decide_eq_true rfl) ?_
                | refine bs_and ?_
                | refine bs_f (decide_eq_false hm0) ?_
                | refine bs_t (decide_eq_true hw1) ?_
                | refine bs_t (decide_eq_true hw2) ?_
                | refine bs_t (decide_eq_true hmp) ?_
                | refine bs_t (decide_eq_true hyo0) ?_
                | refine bs_d (fun q => ?_) (fun q => ?_)
                | refine bs_n ?_
                | refine bs_i (fun q => ?_) (fun q => ?_)
                | refine ck rfl rfl (hp) ?_
                | refine cq (hp) ?_
                | refine ck rfl rfl (hyo) ?_
                | refine cq (hyo) ?_
                | refine ck rfl rfl (hyc) ?_
                | refine cq (hyc) ?_
                | refine ck rfl rfl (hsum) ?_
                | refine cq (hsum) ?_
                | refine pK_i hia ?_
                | refine fnext ⟨i + 1, ({ x with cr := x.cr + a.n, pd := p } : Iv)⟩ ⟨hi2, hd.R, hd.ok⟩ (by simp only; omega) (fstep_drop (J' := [_]) (Jx := [_, _]) rfl rfl ⟨Sub.int ei, Sub.refl _, Sub.refl _, trivial⟩ (hfr _) rfl)
                | refine ffin _ rfl rfl hS (Sub.refl _) rfl ⟨?_, rfl, rfl⟩)
            · skip
              repeat' first | with_reducible refine fzD_ite (fun q => ?_) (fun q => ?_) | ((try conv => whnf); first
                | refine bs_t (decide_eq_true hr) ?_
                | refine bs_f (decide_eq_false hn1) ?_
                | refine bs_f (decide_eq_false hn2) ?_
                | refine bs_f (decide_eq_false hn3) ?_
                | refine bs_t (decide_eq_true rfl) ?_
                | refine bs_and ?_
                | refine bs_f (decide_eq_false hm0) ?_
                | refine bs_t (decide_eq_true hw1) ?_
                | refine bs_t (decide_eq_true hw2) ?_
                | refine bs_f (decide_eq_false hmp) ?_
                | refine bs_d (fun q => ?_) (fun q => ?_)
                | refine bs_n ?_
                | refine bs_i (fun q => ?_) (fun q => ?_)
                | refine ck rfl rfl (hp) ?_
                | refine cq (hp) ?_
                | refine ck rfl rfl (hyo) ?_
                | refine cq (hyo) ?_
                | refine ck rfl rfl (hyc) ?_
                | refine cq (hyc) ?_
                | refine ck rfl rfl (hsum) ?_
                | refine cq (hsum) ?_
                | refine pK_i hia ?_
                | refine fnext ⟨i + 1, ({ x with cr := x.cr + a.n, pd := p } : Iv)⟩ ⟨hi2, hd.R, hd.ok⟩ (by simp only; omega) (fstep_drop (J' := [_]) (Jx := [_, _]) rfl rfl ⟨Sub.int ei, Sub.refl _, Sub.refl _, trivial⟩ (hfr _) rfl)
                | refine ffin _ rfl rfl hS (Sub.refl _) rfl ⟨?_, rfl, rfl⟩)
        · have hp := Pay x hx a.n haR.n
          have hn0 : ¬ a.w.tmod 4 = 0 := by omega
          have hn2 : ¬ a.w.tmod 4 = 2 := by omega
          have hn3 : ¬ a.w.tmod 4 = 3 := by omega
          rcases pay_ok hx hok a.n with ⟨e, he, hne⟩ | ⟨p, he, hd⟩
          · rw [he] at hp
            repeat' first | with_reducible refine fzD_ite (fun q => ?_) (fun q => ?_) | ((try conv => whnf); first
              | refine bs_t (decide_eq_true hr) ?_
              | refine bs_f (decide_eq_false hn0) ?_
              | refine bs_f (decide_eq_false hn2) ?_
              | refine bs_f (decide_eq_false hn3) ?_
              | refine bs_f (decide_eq_false hne) ?_
              | refine bs_t (decide_eq_true rfl) ?_
              | refine bs_and ?_
              | refine bs_d (fun q => ?_) (fun q => ?_)
              | refine bs_n ?_
              | refine bs_i (fun q => ?_) (fun q => ?_)
              | refine ck rfl rfl (hp) ?_
              | refine cq (hp) ?_
              | refine pK_i hia ?_
              | refine fnext ⟨i + 1, x⟩ ⟨hi2, hx, hok⟩ (by simp only; omega) (fstep_drop (J' := [_]) (Jx := [_]) rfl rfl ⟨Sub.int ei, Sub.refl _, Sub.refl _, trivial⟩ (hfr _) rfl)
              | refine ffin _ rfl rfl hS (Sub.refl _) rfl ⟨?_, rfl, rfl⟩)
          · rw [he] at hp
            have hyo := Open ({ x with pd := p } : Iv) hd.R
            have hyc := Check ({ x with pd := p } : Iv) hd.R
            rw [if_pos hd.ok] at hyc
            have hk := hd.ok
            have hoy := op_ok hd.ok
            unfold Iv.ok at hk
            simp only at hk hoy
            have hk2 := hok
            unfold Iv.ok at hk2
            generalize hY : ({ x with pd := p } : Iv).op = yo at hyo hoy
            have hsum := Sum [yo, ({ x with pd := p } : Iv).cr, ({ x with pd := p } : Iv).pd, ({ x with pd := p } : Iv).lo] (by simp) (by
              intro n hn; simp only [List.mem_cons, List.not_mem_nil, or_false] at hn; unfold I64
              rcases hn with rfl | rfl | rfl | rfl <;> omega)
            rw [sumS, show [yo, ({ x with pd := p } : Iv).cr, ({ x with pd := p } : Iv).pd, ({ x with pd := p } : Iv).lo].sum = x.am from by simp only [List.sum_cons, List.sum_nil]; omega, if_pos (by omega)] at hsum
            have hm0 : ¬ 0 < 0 := by have := hd.m0; omega
            repeat' first | with_reducible refine fzD_ite (fun q => ?_) (fun q => ?_) | ((try conv => whnf); first
              | refine bs_t (decide_eq_true hr) ?_
              | refine bs_f (decide_eq_false hn0) ?_
              | refine bs_f (decide_eq_false hn2) ?_
              | refine bs_f (decide_eq_false hn3) ?_
              | refine bs_t (decide_eq_true rfl) ?_
              | refine bs_and ?_
              | refine bs_f (decide_eq_false hm0) ?_
              | refine bs_d (fun q => ?_) (fun q => ?_)
              | refine bs_n ?_
              | refine bs_i (fun q => ?_) (fun q => ?_)
              | refine ck rfl rfl (hp) ?_
              | refine cq (hp) ?_
              | refine ck rfl rfl (hyo) ?_
              | refine cq (hyo) ?_
              | refine ck rfl rfl (hyc) ?_
              | refine cq (hyc) ?_
              | refine ck rfl rfl (hsum) ?_
              | refine cq (hsum) ?_
              | refine pK_i hia ?_
              | refine fnext ⟨i + 1, ({ x with pd := p } : Iv)⟩ ⟨hi2, hd.R, hd.ok⟩ (by simp only; omega) (fstep_drop (J' := [_]) (Jx := [_, _]) rfl rfl ⟨Sub.int ei, Sub.refl _, Sub.refl _, trivial⟩ (hfr _) rfl)
              | refine ffin _ rfl rfl hS (Sub.refl _) rfl ⟨?_, rfl, rfl⟩)
        · have hp := Unpay x hx a.n haR.n
          have hn0 : ¬ a.w.tmod 4 = 0 := by omega
          have hn1 : ¬ a.w.tmod 4 = 1 := by omega
          have hn3 : ¬ a.w.tmod 4 = 3 := by omega
          rcases unpay_ok hx hok a.n with ⟨e, he, hne⟩ | ⟨p, he, hd⟩
          · rw [he] at hp
            repeat' first | with_reducible refine fzD_ite (fun q => ?_) (fun q => ?_) | ((try conv => whnf); first
              | refine bs_t (decide_eq_true hr) ?_
              | refine bs_f (decide_eq_false hn0) ?_
              | refine bs_f (decide_eq_false hn1) ?_
              | refine bs_f (decide_eq_false hn3) ?_
              | refine bs_f (decide_eq_false hne) ?_
              | refine bs_t (decide_eq_true rfl) ?_
              | refine bs_and ?_
              | refine bs_d (fun q => ?_) (fun q => ?_)
              | refine bs_n ?_
              | refine bs_i (fun q => ?_) (fun q => ?_)
              | refine ck rfl rfl (hp) ?_
              | refine cq (hp) ?_
              | refine pK_i hia ?_
              | refine fnext ⟨i + 1, x⟩ ⟨hi2, hx, hok⟩ (by simp only; omega) (fstep_drop (J' := [_]) (Jx := [_]) rfl rfl ⟨Sub.int ei, Sub.refl _, Sub.refl _, trivial⟩ (hfr _) rfl)
              | refine ffin _ rfl rfl hS (Sub.refl _) rfl ⟨?_, rfl, rfl⟩)
          · rw [he] at hp
            have hyo := Open ({ x with pd := p } : Iv) hd.R
            have hyc := Check ({ x with pd := p } : Iv) hd.R
            rw [if_pos hd.ok] at hyc
            have hk := hd.ok
            have hoy := op_ok hd.ok
            unfold Iv.ok at hk
            simp only at hk hoy
            have hk2 := hok
            unfold Iv.ok at hk2
            generalize hY : ({ x with pd := p } : Iv).op = yo at hyo hoy
            have hsum := Sum [yo, ({ x with pd := p } : Iv).cr, ({ x with pd := p } : Iv).pd, ({ x with pd := p } : Iv).lo] (by simp) (by
              intro n hn; simp only [List.mem_cons, List.not_mem_nil, or_false] at hn; unfold I64
              rcases hn with rfl | rfl | rfl | rfl <;> omega)
            rw [sumS, show [yo, ({ x with pd := p } : Iv).cr, ({ x with pd := p } : Iv).pd, ({ x with pd := p } : Iv).lo].sum = x.am from by simp only [List.sum_cons, List.sum_nil]; omega, if_pos (by omega)] at hsum
            have hm0 : ¬ 0 < 0 := by have := hd.m0; omega
            repeat' first | with_reducible refine fzD_ite (fun q => ?_) (fun q => ?_) | ((try conv => whnf); first
              | refine bs_t (decide_eq_true hr) ?_
              | refine bs_f (decide_eq_false hn0) ?_
              | refine bs_f (decide_eq_false hn1) ?_
              | refine bs_f (decide_eq_false hn3) ?_
              | refine bs_t (decide_eq_true rfl) ?_
              | refine bs_and ?_
              | refine bs_f (decide_eq_false hm0) ?_
              | refine bs_d (fun q => ?_) (fun q => ?_)
              | refine bs_n ?_
              | refine bs_i (fun q => ?_) (fun q => ?_)
              | refine ck rfl rfl (hp) ?_
              | refine cq (hp) ?_
              | refine ck rfl rfl (hyo) ?_
              | refine cq (hyo) ?_
              | refine ck rfl rfl (hyc) ?_
              | refine cq (hyc) ?_
              | refine ck rfl rfl (hsum) ?_
              | refine cq (hsum) ?_
              | refine pK_i hia ?_
              | refine fnext ⟨i + 1, ({ x with pd := p } : Iv)⟩ ⟨hi2, hd.R, hd.ok⟩ (by simp only; omega) (fstep_drop (J' := [_]) (Jx := [_, _]) rfl rfl ⟨Sub.int ei, Sub.refl _, Sub.refl _, trivial⟩ (hfr _) rfl)
              | refine ffin _ rfl rfl hS (Sub.refl _) rfl ⟨?_, rfl, rfl⟩)
        · have hp := Lose x hx
          have hn0 : ¬ a.w.tmod 4 = 0 := by omega
          have hn1 : ¬ a.w.tmod 4 = 1 := by omega
          have hn2 : ¬ a.w.tmod 4 = 2 := by omega
          rcases lose_ok hx hok with ⟨e, he, hne⟩ | ⟨p, he, hd⟩
          · rw [he] at hp
            repeat' first | with_reducible refine fzD_ite (fun q => ?_) (fun q => ?_) | ((try conv => whnf); first
              | refine bs_t (decide_eq_true hr) ?_
              | refine bs_f (decide_eq_false hn0) ?_
              | refine bs_f (decide_eq_false hn1) ?_
              | refine bs_f (decide_eq_false hn2) ?_
              | refine bs_f (decide_eq_false hne) ?_
              | refine bs_t (decide_eq_true rfl) ?_
              | refine bs_and ?_
              | refine bs_d (fun q => ?_) (fun q => ?_)
              | refine bs_n ?_
              | refine bs_i (fun q => ?_) (fun q => ?_)
              | refine ck rfl rfl (hp) ?_
              | refine cq (hp) ?_
              | refine pK_i hia ?_
              | refine fnext ⟨i + 1, x⟩ ⟨hi2, hx, hok⟩ (by simp only; omega) (fstep_drop (J' := [_]) (Jx := [_]) rfl rfl ⟨Sub.int ei, Sub.refl _, Sub.refl _, trivial⟩ (hfr _) rfl)
              | refine ffin _ rfl rfl hS (Sub.refl _) rfl ⟨?_, rfl, rfl⟩)
          · rw [he] at hp
            have hyo := Open ({ x with lo := p } : Iv) hd.R
            have hyc := Check ({ x with lo := p } : Iv) hd.R
            rw [if_pos hd.ok] at hyc
            have hk := hd.ok
            have hoy := op_ok hd.ok
            unfold Iv.ok at hk
            simp only at hk hoy
            have hk2 := hok
            unfold Iv.ok at hk2
            generalize hY : ({ x with lo := p } : Iv).op = yo at hyo hoy
            have hsum := Sum [yo, ({ x with lo := p } : Iv).cr, ({ x with lo := p } : Iv).pd, ({ x with lo := p } : Iv).lo] (by simp) (by
              intro n hn; simp only [List.mem_cons, List.not_mem_nil, or_false] at hn; unfold I64
              rcases hn with rfl | rfl | rfl | rfl <;> omega)
            rw [sumS, show [yo, ({ x with lo := p } : Iv).cr, ({ x with lo := p } : Iv).pd, ({ x with lo := p } : Iv).lo].sum = x.am from by simp only [List.sum_cons, List.sum_nil]; omega, if_pos (by omega)] at hsum
            have hm0 : ¬ x.op < 0 := by have := hd.m0; omega
            repeat' first | with_reducible refine fzD_ite (fun q => ?_) (fun q => ?_) | ((try conv => whnf); first
              | refine bs_t (decide_eq_true hr) ?_
              | refine bs_f (decide_eq_false hn0) ?_
              | refine bs_f (decide_eq_false hn1) ?_
              | refine bs_f (decide_eq_false hn2) ?_
              | refine bs_t (decide_eq_true rfl) ?_
              | refine bs_and ?_
              | refine bs_f (decide_eq_false hm0) ?_
              | refine bs_d (fun q => ?_) (fun q => ?_)
              | refine bs_n ?_
              | refine bs_i (fun q => ?_) (fun q => ?_)
              | refine ck rfl rfl (hp) ?_
              | refine cq (hp) ?_
              | refine ck rfl rfl (hyo) ?_
              | refine cq (hyo) ?_
              | refine ck rfl rfl (hyc) ?_
              | refine cq (hyc) ?_
              | refine ck rfl rfl (hsum) ?_
              | refine cq (hsum) ?_
              | refine pK_i hia ?_
              | refine fnext ⟨i + 1, ({ x with lo := p } : Iv)⟩ ⟨hi2, hd.R, hd.ok⟩ (by simp only; omega) (fstep_drop (J' := [_]) (Jx := [_, _]) rfl rfl ⟨Sub.int ei, Sub.refl _, Sub.refl _, trivial⟩ (hfr _) rfl)
              | refine ffin _ rfl rfl hS (Sub.refl _) rfl ⟨?_, rfl, rfl⟩)
      · skip
        repeat' first | with_reducible refine fzD_ite (fun q => ?_) (fun q => ?_) | ((try conv => whnf); first
          | refine bs_d (fun q => ?_) (fun q => ?_)
          | refine bs_n ?_
          | refine bs_i (fun q => ?_) (fun q => ?_)
          | refine ck rfl rfl (head) ?_
          | refine cq (head) ?_
          | refine ffin _ rfl rfl hS (Sub.refl _) rfl ⟨?_, rfl, rfl⟩)
        all_goals rfl
    · skip
      repeat' first | with_reducible refine fzD_ite (fun q => ?_) (fun q => ?_) | ((try conv => whnf); first
        | refine bs_d (fun q => ?_) (fun q => ?_)
        | refine bs_n ?_
        | refine bs_i (fun q => ?_) (fun q => ?_)
        | refine ck rfl rfl (head) ?_
        | refine cq (head) ?_
        | refine ffin _ rfl rfl hS (Sub.refl _) rfl ⟨?_, rfl, rfl⟩)
      all_goals rfl
  · rw [if_neg hok] at hc
    have ho := Open x hx
    rw [Iv.op, if_neg hok] at ho
    refine ACalls.fgo c6 rfl fun hS => ?_
    repeat' first | with_reducible refine fzD_ite (fun q => ?_) (fun q => ?_) | ((try conv => whnf); first
      | refine bs_d (fun q => ?_) (fun q => ?_)
      | refine bs_n ?_
      | refine bs_i (fun q => ?_) (fun q => ?_)
      | refine ck rfl rfl (hc) ?_
      | refine cq (hc) ?_
      | refine ck rfl rfl (ho) ?_
      | refine cq (ho) ?_
      | refine ck rfl rfl (head) ?_
      | refine cq (head) ?_
      | refine ffin _ rfl rfl hS (Sub.refl _) rfl ⟨?_, rfl, rfl⟩)
    all_goals rfl

end Go.KL.YtmijcaccgbhgdaaDoor
