/- the laws of layer 24: ages together -/
import Derived.Test.YtmijcaccgbhgdaaDoorLaw24
set_option linter.unusedVariables false
set_option linter.unusedSimpArgs false
set_option maxRecDepth 4000
set_option maxHeartbeats 8000000
namespace Go.KL.YtmijcaccgbhgdaaDoor
open Go Go.KL Go.RowKit Go.Proofs

theorem c4 : cFun E0.P 4 = some ⟨173, [(6, none)], .seq (.rg [⟨some 6, none, .mv (.k (.bool false))⟩]) (.seq (.seq (.rg [⟨some 23, none, .mv (.t 0)⟩, ⟨some 24, none, .len 1 (.t 23)⟩, ⟨some 25, none, .bin .gtr .leaf (.t 24) (.k (.int .i64 100))⟩]) (.cond (.t 25) (.seq (.rg [⟨some 26, none, .call 7 []⟩, ⟨some 6, none, .mv (.t 26)⟩]) .ret) .skip)) (.seq (.rg [⟨some 28, none, .mv (.t 0)⟩, ⟨some 29, none, .mv (.t 1)⟩, ⟨some 30, none, .mv (.t 2)⟩, ⟨some 31, none, .mm false [.t 29, .t 30]⟩, ⟨some 32, none, .call 10 [.t 28, .t 31]⟩, ⟨some 27, none, .mv (.t 32)⟩, ⟨some 33, none, .ext 0 (.t 27)⟩, ⟨some 34, none, .ext 1 (.t 27)⟩, ⟨some 7, none, .alloc [.int .i64 0, .int .i64 0, .int .i64 0, .int .i64 0, .int .i64 0] 32⟩, ⟨none, none, .st 5 (.t 7) (.t 33)⟩, ⟨some 8, none, .mv (.t 34)⟩]) (.seq (.rg [⟨some 36, none, .mv (.t 0)⟩, ⟨some 37, none, .mv (.t 1)⟩, ⟨some 38, none, .mv (.t 2)⟩, ⟨some 39, none, .mm true [.t 37, .t 38]⟩, ⟨some 40, none, .call 10 [.t 36, .t 39]⟩, ⟨some 35, none, .mv (.t 40)⟩, ⟨some 41, none, .ext 0 (.t 35)⟩, ⟨some 42, none, .ext 1 (.t 35)⟩, ⟨some 9, none, .alloc [.int .i64 0, .int .i64 0, .int .i64 0, .int .i64 0, .int .i64 0] 32⟩, ⟨none, none, .st 5 (.t 9) (.t 41)⟩, ⟨some 10, none, .mv (.t 42)⟩]) (.seq (.seq (.rg [⟨some 43, none, .mv (.t 8)⟩, ⟨some 44, none, .bin .neq .leaf (.t 43) (.k (.int .i64 0))⟩, ⟨some 45, none, .mv (.t 44)⟩, ⟨some 46, some (45, false), .mv (.t 10)⟩, ⟨some 47, some (45, false), .bin .neq .leaf (.t 46) (.k (.int .i64 0))⟩, ⟨some 48, none, .pick (.t 45) (.k (.bool true)) (.t 47)⟩]) (.cond (.t 48) (.seq (.rg [⟨some 49, none, .mv (.t 8)⟩, ⟨some 50, none, .bin .eql .leaf (.t 49) (.k (.int .i64 0))⟩, ⟨some 51, none, .mv (.t 50)⟩, ⟨some 52, some (51, false), .ld 5 true (.t 7)⟩, ⟨some 53, some (51, false), .build [.int .i64 0, .int .i64 0, .int .i64 0, .int .i64 0, .int .i64 0] []⟩, ⟨some 54, some (51, false), .bin .eql (.agg [(0, .i), (1, .i), (2, .i), (3, .i), (4, .i)]) (.t 52) (.t 53)⟩, ⟨some 55, none, .pick (.t 51) (.k (.bool true)) (.t 54)⟩, ⟨some 56, none, .mv (.t 55)⟩, ⟨some 57, some (56, true), .mv (.t 10)⟩, ⟨some 58, some (56, true), .bin .eql .leaf (.t 57) (.k (.int .i64 0))⟩, ⟨some 59, some (56, true), .mv (.t 58)⟩, ⟨some 60, some (59, false), .ld 5 true (.t 9)⟩, ⟨some 61, some (59, false), .build [.int .i64 0, .int .i64 0, .int .i64 0, .int .i64 0, .int .i64 0] []⟩, ⟨some 62, some (59, false), .bin .eql (.agg [(0, .i), (1, .i), (2, .i), (3, .i), (4, .i)]) (.t 60) (.t 61)⟩, ⟨some 63, some (56, true), .pick (.t 59) (.k (.bool true)) (.t 62)⟩, ⟨some 64, none, .pick (.t 56) (.t 63) (.k (.bool false))⟩, ⟨some 65, none, .mv (.t 64)⟩, ⟨some 66, some (65, true), .call 7 []⟩, ⟨some 67, none, .pick (.t 65) (.t 66) (.k (.bool false))⟩, ⟨some 6, none, .mv (.t 67)⟩]) .ret) .skip)) (.seq (.rg [⟨some 11, none, .mv (.k .nilsl)⟩]) (.seq (.seq (.rg [⟨some 12, none, .mv (.k (.int .i64 0))⟩]) (.block 0 (.loop (.seq (.seq (.rg [⟨some 68, none, .mv (.t 12)⟩, ⟨some 69, none, .mv (.t 0)⟩, ⟨some 70, none, .len 1 (.t 69)⟩, ⟨some 71, none, .bin .lss .leaf (.t 68) (.t 70)⟩]) (.cond (.t 71) .skip (.exit 0))) (.seq (.block 1 (.rg [⟨some 74, none, .mv (.t 11)⟩, ⟨some 75, none, .mv (.t 0)⟩, ⟨some 76, none, .mv (.t 12)⟩, ⟨some 77, none, .ia 11 (.t 75) (.t 76)⟩, ⟨some 78, none, .ld 11 true (.t 77)⟩, ⟨some 79, none, .call 12 [.t 78]⟩, ⟨some 80, none, .buildS 1 1 [.int .i64 0] [(0, .t 79)] 2⟩, ⟨some 81, none, .app 38 2 1 8 [.int .i64 0] (.t 74) (.t 80)⟩, ⟨some 11, none, .mv (.t 81)⟩])) (.rg [⟨some 72, none, .mv (.t 12)⟩, ⟨some 73, none, .bin .add .leaf (.t 72) (.k (.int .i64 1))⟩, ⟨some 12, none, .mv (.t 73)⟩])))))) (.seq (.rg [⟨some 83, none, .mv (.t 11)⟩, ⟨some 84, none, .call 13 [.t 83]⟩, ⟨some 82, none, .mv (.t 84)⟩, ⟨some 85, none, .ext 0 (.t 82)⟩, ⟨some 86, none, .ext 1 (.t 82)⟩, ⟨some 13, none, .mv (.t 85)⟩, ⟨some 14, none, .mv (.t 86)⟩]) (.seq (.rg [⟨some 88, none, .iaA 5 1 (.t 7) (.k (.int .i64 0))⟩, ⟨some 89, none, .ld 1 false (.t 88)⟩, ⟨some 90, none, .iaA 5 1 (.t 7) (.k (.int .i64 1))⟩, ⟨some 91, none, .ld 1 false (.t 90)⟩, ⟨some 92, none, .iaA 5 1 (.t 7) (.k (.int .i64 2))⟩, ⟨some 93, none, .ld 1 false (.t 92)⟩, ⟨some 94, none, .iaA 5 1 (.t 7) (.k (.int .i64 3))⟩, ⟨some 95, none, .ld 1 false (.t 94)⟩, ⟨some 96, none, .iaA 5 1 (.t 7) (.k (.int .i64 4))⟩, ⟨some 97, none, .ld 1 false (.t 96)⟩, ⟨some 98, none, .buildS 5 1 [.int .i64 0] [(0, .t 89), (1, .t 91), (2, .t 93), (3, .t 95), (4, .t 97)] 2⟩, ⟨some 99, none, .call 13 [.t 98]⟩, ⟨some 87, none, .mv (.t 99)⟩, ⟨some 100, none, .ext 0 (.t 87)⟩, ⟨some 101, none, .ext 1 (.t 87)⟩, ⟨some 15, none, .mv (.t 100)⟩, ⟨some 16, none, .mv (.t 101)⟩]) (.seq (.rg [⟨some 103, none, .iaA 5 1 (.t 9) (.k (.int .i64 0))⟩, ⟨some 104, none, .ld 1 false (.t 103)⟩, ⟨some 105, none, .iaA 5 1 (.t 9) (.k (.int .i64 1))⟩, ⟨some 106, none, .ld 1 false (.t 105)⟩, ⟨some 107, none, .iaA 5 1 (.t 9) (.k (.int .i64 2))⟩, ⟨some 108, none, .ld 1 false (.t 107)⟩, ⟨some 109, none, .iaA 5 1 (.t 9) (.k (.int .i64 3))⟩, ⟨some 110, none, .ld 1 false (.t 109)⟩, ⟨some 111, none, .iaA 5 1 (.t 9) (.k (.int .i64 4))⟩, ⟨some 112, none, .ld 1 false (.t 111)⟩, ⟨some 113, none, .buildS 5 1 [.int .i64 0] [(0, .t 104), (1, .t 106), (2, .t 108), (3, .t 110), (4, .t 112)] 2⟩, ⟨some 114, none, .call 13 [.t 113]⟩, ⟨some 102, none, .mv (.t 114)⟩, ⟨some 115, none, .ext 0 (.t 102)⟩, ⟨some 116, none, .ext 1 (.t 102)⟩, ⟨some 17, none, .mv (.t 115)⟩, ⟨some 18, none, .mv (.t 116)⟩]) (.seq (.seq (.rg [⟨some 117, none, .mv (.t 14)⟩, ⟨some 118, none, .mv (.t 16)⟩, ⟨some 119, none, .bin .neq .leafB (.t 117) (.t 118)⟩, ⟨some 120, none, .mv (.t 119)⟩, ⟨some 121, some (120, false), .mv (.t 14)⟩, ⟨some 122, some (120, false), .mv (.t 18)⟩, ⟨some 123, some (120, false), .bin .neq .leafB (.t 121) (.t 122)⟩, ⟨some 124, none, .pick (.t 120) (.k (.bool true)) (.t 123)⟩, ⟨some 125, none, .mv (.t 124)⟩, ⟨some 126, some (125, false), .mv (.t 13)⟩, ⟨some 127, some (125, false), .mv (.t 15)⟩, ⟨some 128, some (125, false), .bin .neq .leaf (.t 126) (.t 127)⟩, ⟨some 129, none, .pick (.t 125) (.k (.bool true)) (.t 128)⟩, ⟨some 130, none, .mv (.t 129)⟩, ⟨some 131, some (130, false), .mv (.t 13)⟩, ⟨some 132, some (130, false), .mv (.t 17)⟩, ⟨some 133, some (130, false), .bin .neq .leaf (.t 131) (.t 132)⟩, ⟨some 134, none, .pick (.t 130) (.k (.bool true)) (.t 133)⟩]) (.cond (.t 134) (.seq (.rg [⟨some 6, none, .mv (.k (.bool false))⟩]) .ret) .skip)) (.seq (.seq (.rg [⟨some 19, none, .mv (.k (.int .i64 0))⟩]) (.block 2 (.loop (.seq (.seq (.rg [⟨some 135, none, .mv (.t 19)⟩, ⟨some 136, none, .bin .lss .leaf (.t 135) (.k (.int .i64 5))⟩, ⟨some 137, none, .mv (.t 136)⟩, ⟨some 138, some (137, true), .mv (.t 14)⟩, ⟨some 139, none, .pick (.t 137) (.t 138) (.k (.bool false))⟩]) (.cond (.t 139) .skip (.exit 2))) (.seq (.block 3 (.seq (.rg [⟨some 20, none, .mv (.k (.int .i64 0))⟩, ⟨some 21, none, .mv (.k (.int .i64 0))⟩]) (.seq (.seq (.rg [⟨some 142, none, .mv (.t 19)⟩, ⟨some 22, none, .mv (.t 142)⟩]) (.block 4 (.loop (.seq (.seq (.rg [⟨some 143, none, .mv (.t 22)⟩, ⟨some 144, none, .bin .lss .leaf (.t 143) (.k (.int .i64 5))⟩]) (.cond (.t 144) .skip (.exit 4))) (.seq (.block 5 (.seq (.rg [⟨some 147, none, .mv (.t 20)⟩, ⟨some 148, none, .mv (.t 22)⟩, ⟨some 149, none, .iaA 5 1 (.t 7) (.t 148)⟩, ⟨some 150, none, .ld 1 false (.t 149)⟩, ⟨some 151, none, .bin .add .leaf (.t 147) (.t 150)⟩, ⟨some 20, none, .mv (.t 151)⟩]) (.rg [⟨some 152, none, .mv (.t 21)⟩, ⟨some 153, none, .mv (.t 22)⟩, ⟨some 154, none, .iaA 5 1 (.t 9) (.t 153)⟩, ⟨some 155, none, .ld 1 false (.t 154)⟩, ⟨some 156, none, .bin .add .leaf (.t 152) (.t 155)⟩, ⟨some 21, none, .mv (.t 156)⟩]))) (.rg [⟨some 145, none, .mv (.t 22)⟩, ⟨some 146, none, .bin .add .leaf (.t 145) (.k (.int .i64 1))⟩, ⟨some 22, none, .mv (.t 146)⟩])))))) (.seq (.rg [⟨some 157, none, .mv (.t 20)⟩, ⟨some 158, none, .mv (.t 21)⟩, ⟨some 159, none, .bin .gtr .leaf (.t 157) (.t 158)⟩, ⟨some 160, none, .mv (.t 159)⟩, ⟨some 161, some (160, false), .mv (.t 19)⟩, ⟨some 162, some (160, false), .iaA 5 1 (.t 7) (.t 161)⟩, ⟨some 163, some (160, false), .ld 1 false (.t 162)⟩, ⟨some 164, some (160, false), .bin .lss .leaf (.t 163) (.k (.int .i64 0))⟩, ⟨some 165, none, .pick (.t 160) (.k (.bool true)) (.t 164)⟩, ⟨some 166, none, .mv (.t 165)⟩, ⟨some 167, some (166, false), .mv (.t 19)⟩, ⟨some 168, some (166, false), .iaA 5 1 (.t 9) (.t 167)⟩, ⟨some 169, some (166, false), .ld 1 false (.t 168)⟩, ⟨some 170, some (166, false), .bin .lss .leaf (.t 169) (.k (.int .i64 0))⟩, ⟨some 171, none, .pick (.t 166) (.k (.bool true)) (.t 170)⟩]) (.cond (.t 171) (.seq (.rg [⟨some 6, none, .mv (.k (.bool false))⟩]) .ret) .skip))))) (.rg [⟨some 140, none, .mv (.t 19)⟩, ⟨some 141, none, .bin .add .leaf (.t 140) (.k (.int .i64 1))⟩, ⟨some 19, none, .mv (.t 141)⟩])))))) (.seq (.rg [⟨some 172, none, .call 7 []⟩, ⟨some 6, none, .mv (.t 172)⟩]) .ret))))))))))))⟩ := by kernel_rfl

theorem age_mono {a b : Int} (h : a ≤ b) (x : Iv) : x.age a ≤ x.age b := by
  unfold Iv.age ageOf
  repeat' split
  all_goals omega
/-- all that is open of an age or above -/
def suf (day : Int) : List Iv → Int → Int
  | [], _ => 0
  | x :: r, k => (if k ≤ x.age day then x.op else 0) + suf day r k
theorem suf_mono {a b : Int} (h : a ≤ b) : ∀ (l : List Iv) (k : Int), suf a l k ≤ suf b l k
  | [], _ => Int.le_refl _
  | x :: r, k => by
    have h1 := suf_mono h r k
    have h2 := age_mono h x
    have h3 := op_bd x
    simp only [suf]
    split <;> split <;> omega
theorem suf_step (day : Int) : ∀ (l : List Iv) (k : Int), suf day l k = agesum day l k + suf day l (k + 1)
  | [], _ => rfl
  | x :: r, k => by
    have h1 := suf_step day r k
    simp only [suf, agesum]
    by_cases h : x.age day = k
    · rw [if_pos h, if_pos (by omega), if_neg (by omega)]; omega
    · rw [if_neg h]
      by_cases h2 : k ≤ x.age day
      · rw [if_pos h2, if_pos (by omega)]; omega
      · rw [if_neg h2, if_neg (by omega)]; omega
theorem suf5 (day : Int) : ∀ l : List Iv, suf day l 5 = 0
  | [] => rfl
  | x :: r => by
    simp only [suf, suf5 day r]
    rw [if_neg (by have := age_cases day x; omega)]; rfl
def opens (l : List Iv) : List Int := l.map Iv.op
theorem suf0 (day : Int) : ∀ l : List Iv, suf day l 0 = (opens l).sum
  | [] => rfl
  | x :: r => by
    simp only [suf, opens, List.map_cons, List.sum_cons]
    rw [if_pos (by have := age_cases day x; omega), suf0 day r]; rfl
theorem five (day : Int) (l : List Iv) : agesum day l 0 + (agesum day l 1 + (agesum day l 2 + (agesum day l 3 + (agesum day l 4 + 0)))) = (opens l).sum := by
  have h0 := suf_step day l 0
  have h1 := suf_step day l 1
  have h2 := suf_step day l 2
  have h3 := suf_step day l 3
  have h4 := suf_step day l 4
  have h5 := suf5 day l
  have := suf0 day l
  simp only [Int.zero_add, Int.reduceAdd] at h0 h1 h2 h3 h4
  omega
theorem opens_R (l : List Iv) : ∀ n ∈ opens l, I64 n := by
  intro n hn
  obtain ⟨x, _, rfl⟩ := List.mem_map.1 hn
  have := op_bd x
  unfold I64; omega
theorem opens_take {l : List Iv} {i : Nat} {x : Iv} (h : l[i]? = some x) : opens (l.take (i + 1)) = opens (l.take i) ++ [x.op] := by
  unfold opens
  rw [List.take_add_one, h, Option.toList_some, List.map_append]; rfl

def sumR (f : Nat → Int) (k : Nat) : Nat → Int
  | 0 => 0
  | i + 1 => if k ≤ i then sumR f k i + f i else 0

theorem sumR_suf (day : Int) (l : List Iv) (k : Nat) (hk : k < 5) : sumR (fun j => agesum day l j) k 5 = suf day l k := by
  have h0 := suf_step day l 0
  have h1 := suf_step day l 1
  have h2 := suf_step day l 2
  have h3 := suf_step day l 3
  have h4 := suf_step day l 4
  have h5 := suf5 day l
  simp only [Int.zero_add, Int.reduceAdd] at h0 h1 h2 h3 h4
  have : k = 0 ∨ k = 1 ∨ k = 2 ∨ k = 3 ∨ k = 4 := by omega
  rcases this with rfl | rfl | rfl | rfl | rfl
  all_goals (simp [sumR]; omega)
theorem sumR_le {a b : Int} (h : a ≤ b) (l : List Iv) (k : Nat) (hk : k < 5) : sumR (fun j => agesum a l j) k 5 ≤ sumR (fun j => agesum b l j) k 5 := by
  rw [sumR_suf a l k hk, sumR_suf b l k hk]; exact suf_mono h l k

def arr5 (day : Int) (l : List Iv) : O := .arr [.int .i64 (agesum day l 0), .int .i64 (agesum day l 1), .int .i64 (agesum day l 2), .int .i64 (agesum day l 3), .int .i64 (agesum day l 4)]

theorem Older (l : List Iv) (hr : ∀ y ∈ l, y.R) (a b : Int) (ha : I64 a) (hb : I64 b) : Pure 4 [.sl (ivs l), .int .i64 a, .int .i64 b] (.bool true) := by
  intro S tk
  by_cases h100 : l.length ≤ 100
  · obtain ⟨d1, hd1⟩ : ∃ d, min a b = d := ⟨_, rfl⟩
    obtain ⟨d2, hd2⟩ : ∃ d, max a b = d := ⟨_, rfl⟩
    have hle : d1 ≤ d2 := by omega
    have p1 : Pure 10 [.sl (ivs l), .int .i64 (min a b)] (agesD d1 l (agesE d1 l)) := by
      rw [hd1]; exact Ages l (by omega) hr d1 (by unfold I64 at *; omega)
    have p2 : Pure 10 [.sl (ivs l), .int .i64 (max a b)] (agesD d2 l (agesE d2 l)) := by
      rw [hd2]; exact Ages l (by omega) hr d2 (by unfold I64 at *; omega)
    have hlen : ¬ (100 : Int) < ((ivs l).length : Int) := by rw [ivs_len]; omega
    by_cases e1 : agesE d1 l = 0
    · by_cases e2 : agesE d2 l = 0
      · rw [e1] at p1
        rw [e2] at p2
        have f1 := five d1 l
        have f2 := five d2 l
        have hsO := Sum (opens l) (by rw [opens, List.length_map]; omega) (opens_R l)
        have hfit1 : ∀ k : Int, 0 ≤ k → k < 5 → agesum d1 l k < 9223372036854775808 := by
          unfold agesE at e1; split at e1
          · split at e1
            · assumption
            · cases e1
          · cases e1
        have hfit2 : ∀ k : Int, 0 ≤ k → k < 5 → agesum d2 l k < 9223372036854775808 := by
          unfold agesE at e2; split at e2
          · split at e2
            · assumption
            · cases e2
          · cases e2
        have hn1 := agesum_nn d1 l
        have hn2 := agesum_nn d2 l
        have hs1 := Sum [agesum d1 l 0, agesum d1 l 1, agesum d1 l 2, agesum d1 l 3, agesum d1 l 4] (by simp) (by
          intro n hn; simp only [List.mem_cons, List.not_mem_nil, or_false] at hn; unfold I64
          rcases hn with rfl | rfl | rfl | rfl | rfl
          · have := hn1 0; have := hfit1 0 (by omega) (by omega); omega
          · have := hn1 1; have := hfit1 1 (by omega) (by omega); omega
          · have := hn1 2; have := hfit1 2 (by omega) (by omega); omega
          · have := hn1 3; have := hfit1 3 (by omega) (by omega); omega
          · have := hn1 4; have := hfit1 4 (by omega) (by omega); omega)
        have hs2 := Sum [agesum d2 l 0, agesum d2 l 1, agesum d2 l 2, agesum d2 l 3, agesum d2 l 4] (by simp) (by
          intro n hn; simp only [List.mem_cons, List.not_mem_nil, or_false] at hn; unfold I64
          rcases hn with rfl | rfl | rfl | rfl | rfl
          · have := hn2 0; have := hfit2 0 (by omega) (by omega); omega
          · have := hn2 1; have := hfit2 1 (by omega) (by omega); omega
          · have := hn2 2; have := hfit2 2 (by omega) (by omega); omega
          · have := hn2 3; have := hfit2 3 (by omega) (by omega); omega
          · have := hn2 4; have := hfit2 4 (by omega) (by omega); omega)
        simp only [sumS, List.sum_cons, List.sum_nil, f1, f2] at hs1 hs2
        rw [sumS] at hsO
        refine ACalls.withSc fun hsc => ?_
        have hsc' : scLL S.length tk.length (ivs l) = true := by simp only [scL, D.sc, Bool.and_true] at hsc; exact hsc
        refine ACalls.fgo c4 rfl fun hS => ?_
        repeat' first | with_reducible refine fzD_ite (fun q => ?_) (fun q => ?_) | ((try conv => whnf); first
          | refine bs_f (decide_eq_false hlen) ?_
          | refine bs_d (fun q => ?_) (fun q => ?_)
          | refine bs_n ?_
          | refine bs_i (fun q => ?_) (fun q => ?_)
          | refine ck rfl rfl (p1) ?_
          | refine cq (p1) ?_
          | refine ck rfl rfl (p2) ?_
          | refine cq (p2) ?_
          | refine ffin _ rfl rfl hS (Sub.refl _) rfl ⟨?_, rfl, rfl⟩)
        refine floop (α := Nat) rfl rfl hS (fun i => i ≤ l.length) (fun i => l.length - i) (fun i => [(12, .d (.int .i64 i)), (0, .d (.sl (ivs l))), (11, .d (.gsl (i64s (opens (l.take i))) (tk.length + 0))), (7, .lp 0 0), (9, .lp 1 0)]) (fun _ => [arr5 d1 l, arr5 d2 l]) (fun i => [((i64s (opens (l.take i))).length, 2, 1)]) 0 (by omega) (fstep_tok 2 1 (t := 11) (.inl rfl) ⟨Sub.refl _, Sub.refl _, Sub.refl _, Sub.refl _, Sub.refl _, trivial⟩) ?_
        intro i hi
        refine bs_d (fun (h : (i : Int) < ((ivs l).length : Int)) => ?_) (fun (h : ¬ (i : Int) < ((ivs l).length : Int)) => ?_)
        · rw [ivs_len] at h
          have hi2 : i < l.length := by omega
          have hxi : l[i]? = some l[i] := List.getElem?_eq_getElem hi2
          have hxR := hr l[i] (List.getElem_mem hi2)
          generalize l[i] = x at hxi hxR
          have hopen := Open x hxR
          have ei : IntKind.wrap .i64 ((i : Int) + 1) = ((i + 1 : Nat) : Int) := by rw [wi64]; omega
          have hia : iaD 11 (.sl (ivs l)) (.int .i64 i) = some (.pe x.cs 0) := iaD_ivs (x := x) (by omega) (by simpa using hxi)
          have hst := opens_take hxi
          repeat' first | with_reducible refine fzD_ite (fun q => ?_) (fun q => ?_) | ((try conv => whnf); first
            | refine bs_d (fun q => ?_) (fun q => ?_)
            | refine bs_n ?_
            | refine bs_i (fun q => ?_) (fun q => ?_)
            | refine ck rfl rfl (hopen) ?_
            | refine cq (hopen) ?_
            | refine pK_i hia ?_
            | refine gk_app (t := 0) rfl rfl rfl rfl rfl (by simp) (by simp [i64s_len, opens, maxLen]; omega) ?_
            | refine fnext (i + 1) hi2 (by omega) (fstep_K ?_ ⟨Sub.int ei, Sub.refl _, Sub.of ?_, Sub.refl _, Sub.refl _, trivial⟩)
            | refine ffin _ rfl rfl hS (Sub.refl _) rfl ⟨?_, rfl, rfl⟩)
          all_goals (rw [hst, i64s_app]; rfl)
        · rw [ivs_len] at h
          have hi2 : i = l.length := by omega
          subst hi2
          rw [List.take_length]
          have hS0 : 0 ≤ (opens l).sum := by
            have := hn1 0; have := hn1 1; have := hn1 2; have := hn1 3; have := hn1 4
            omega
          by_cases hT : (opens l).sum < 9223372036854775808
          · rw [if_pos ⟨by omega, hT⟩] at hsO hs1 hs2
            repeat' first | with_reducible refine fzD_ite (fun q => ?_) (fun q => ?_) | ((try conv => whnf); first
              | refine bs_t (decide_eq_true rfl) ?_
              | refine bs_d (fun q => ?_) (fun q => ?_)
              | refine bs_n ?_
              | refine bs_i (fun q => ?_) (fun q => ?_)
              | refine ckS rfl rfl hsO (.cons (Sub.rd rfl) .nil) ?_
              | refine ck rfl rfl (hs1) ?_
              | refine cq (hs1) ?_
              | refine ck rfl rfl (hs2) ?_
              | refine cq (hs2) ?_
              | refine ffin _ rfl rfl hS (Sub.refl _) rfl ⟨?_, rfl, rfl⟩)
            refine floop (α := Nat) rfl rfl hS (fun k => k ≤ 5) (fun k => 5 - k) (fun k => [(19, .d (.int .i64 k)), (14, .d (.bool true)), (7, .lp 0 0), (9, .lp 1 0)]) (fun _ => [arr5 d1 l, arr5 d2 l]) (fun _ => []) 0 (by omega) (fstep_drop (J' := [_, _]) (Jx := []) (TK' := []) (TKx := [_]) rfl rfl ⟨Sub.refl _, Sub.refl _, Sub.refl _, Sub.refl _, trivial⟩ (by simp [frSc, frD, FD.to, D.sc]) rfl) ?_
            intro k hk
            have hA0 := hn1 0
            have hA1 := hn1 1
            have hA2 := hn1 2
            have hA3 := hn1 3
            have hA4 := hn1 4
            have hB0 := hn2 0
            have hB1 := hn2 1
            have hB2 := hn2 2
            have hB3 := hn2 3
            have hB4 := hn2 4
            have : k = 0 ∨ k = 1 ∨ k = 2 ∨ k = 3 ∨ k = 4 ∨ k = 5 := by omega
            rcases this with rfl | rfl | rfl | rfl | rfl | rfl
            · have hsuf : sumR (fun j => agesum d1 l j) 0 5 ≤ sumR (fun j => agesum d2 l j) 0 5 := sumR_le hle l 0 (by omega)
              repeat' first | with_reducible refine fzD_ite (fun q => ?_) (fun q => ?_) | ((try conv => whnf); first
                | refine bs_d (fun q => ?_) (fun q => ?_)
                | refine bs_n ?_
                | refine bs_i (fun q => ?_) (fun q => ?_)
                | refine ffin _ rfl rfl hS (Sub.refl _) rfl ⟨?_, rfl, rfl⟩)
              refine floop (α := Nat) rfl rfl hS (fun i => 0 ≤ i ∧ i ≤ 5) (fun i => 5 - i) (fun i => [(22, .d (.int .i64 i)), (20, .d (.int .i64 (sumR (fun j => agesum d1 l j) 0 i))), (21, .d (.int .i64 (sumR (fun j => agesum d2 l j) 0 i))), (19, .d (.int .i64 ((0 : Nat) : Int))), (14, .d (.bool true)), (7, .lp 0 0), (9, .lp 1 0)]) (fun _ => [arr5 d1 l, arr5 d2 l]) (fun _ => []) 0 ⟨by omega, by omega⟩ (fstep_sub ⟨Sub.refl _, Sub.int (by simp [sumR]), Sub.int (by simp [sumR]), Sub.refl _, Sub.refl _, Sub.refl _, Sub.refl _, trivial⟩) ?_
              rintro i ⟨hi1, hi2⟩
              have : i = 0 ∨ i = 1 ∨ i = 2 ∨ i = 3 ∨ i = 4 ∨ i = 5 := by omega
              rcases this with rfl | rfl | rfl | rfl | rfl | rfl
              · skip
                repeat' first | with_reducible refine fzD_ite (fun q => ?_) (fun q => ?_) | ((try conv => whnf); first
                  | refine bs_d (fun q => ?_) (fun q => ?_)
                  | refine bs_n ?_
                  | refine bs_i (fun q => ?_) (fun q => ?_)
                  | refine fnext 1 ⟨by omega, by omega⟩ (by omega) (fstep_sub ⟨Sub.int rfl, Sub.int ?_, Sub.int ?_, Sub.refl _, Sub.refl _, Sub.refl _, Sub.refl _, trivial⟩)
                  | refine ffin _ rfl rfl hS (Sub.refl _) rfl ⟨?_, rfl, rfl⟩)
                all_goals (rw [wi64]; simp [sumR]; omega)
              · skip
                repeat' first | with_reducible refine fzD_ite (fun q => ?_) (fun q => ?_) | ((try conv => whnf); first
                  | refine bs_d (fun q => ?_) (fun q => ?_)
                  | refine bs_n ?_
                  | refine bs_i (fun q => ?_) (fun q => ?_)
                  | refine fnext 2 ⟨by omega, by omega⟩ (by omega) (fstep_sub ⟨Sub.int rfl, Sub.int ?_, Sub.int ?_, Sub.refl _, Sub.refl _, Sub.refl _, Sub.refl _, trivial⟩)
                  | refine ffin _ rfl rfl hS (Sub.refl _) rfl ⟨?_, rfl, rfl⟩)
                all_goals (rw [wi64]; simp [sumR]; omega)
              · skip
                repeat' first | with_reducible refine fzD_ite (fun q => ?_) (fun q => ?_) | ((try conv => whnf); first
                  | refine bs_d (fun q => ?_) (fun q => ?_)
                  | refine bs_n ?_
                  | refine bs_i (fun q => ?_) (fun q => ?_)
                  | refine fnext 3 ⟨by omega, by omega⟩ (by omega) (fstep_sub ⟨Sub.int rfl, Sub.int ?_, Sub.int ?_, Sub.refl _, Sub.refl _, Sub.refl _, Sub.refl _, trivial⟩)
                  | refine ffin _ rfl rfl hS (Sub.refl _) rfl ⟨?_, rfl, rfl⟩)
                all_goals (rw [wi64]; simp [sumR]; omega)
              · skip
                repeat' first | with_reducible refine fzD_ite (fun q => ?_) (fun q => ?_) | ((try conv => whnf); first
                  | refine bs_d (fun q => ?_) (fun q => ?_)
                  | refine bs_n ?_
                  | refine bs_i (fun q => ?_) (fun q => ?_)
                  | refine fnext 4 ⟨by omega, by omega⟩ (by omega) (fstep_sub ⟨Sub.int rfl, Sub.int ?_, Sub.int ?_, Sub.refl _, Sub.refl _, Sub.refl _, Sub.refl _, trivial⟩)
                  | refine ffin _ rfl rfl hS (Sub.refl _) rfl ⟨?_, rfl, rfl⟩)
                all_goals (rw [wi64]; simp [sumR]; omega)
              · skip
                repeat' first | with_reducible refine fzD_ite (fun q => ?_) (fun q => ?_) | ((try conv => whnf); first
                  | refine bs_d (fun q => ?_) (fun q => ?_)
                  | refine bs_n ?_
                  | refine bs_i (fun q => ?_) (fun q => ?_)
                  | refine fnext 5 ⟨by omega, by omega⟩ (by omega) (fstep_sub ⟨Sub.int rfl, Sub.int ?_, Sub.int ?_, Sub.refl _, Sub.refl _, Sub.refl _, Sub.refl _, trivial⟩)
                  | refine ffin _ rfl rfl hS (Sub.refl _) rfl ⟨?_, rfl, rfl⟩)
                all_goals (rw [wi64]; simp [sumR]; omega)
              · skip
                repeat' first | with_reducible refine fzD_ite (fun q => ?_) (fun q => ?_) | ((try conv => whnf); first
                  | refine bs_f (decide_eq_false (Int.not_lt.2 hsuf)) ?_
                  | refine bs_f (decide_eq_false (Int.not_lt.2 hA0)) ?_
                  | refine bs_f (decide_eq_false (Int.not_lt.2 hB0)) ?_
                  | refine bs_d (fun q => ?_) (fun q => ?_)
                  | refine bs_n ?_
                  | refine bs_i (fun q => ?_) (fun q => ?_)
                  | refine fnext 1 (by omega) (by omega) (fstep_sub ⟨Sub.int rfl, Sub.refl _, Sub.refl _, Sub.refl _, trivial⟩)
                  | refine ffin _ rfl rfl hS (Sub.refl _) rfl ⟨?_, rfl, rfl⟩)
            · have hsuf : sumR (fun j => agesum d1 l j) 1 5 ≤ sumR (fun j => agesum d2 l j) 1 5 := sumR_le hle l 1 (by omega)
              repeat' first | with_reducible refine fzD_ite (fun q => ?_) (fun q => ?_) | ((try conv => whnf); first
                | refine bs_d (fun q => ?_) (fun q => ?_)
                | refine bs_n ?_
                | refine bs_i (fun q => ?_) (fun q => ?_)
                | refine ffin _ rfl rfl hS (Sub.refl _) rfl ⟨?_, rfl, rfl⟩)
              refine floop (α := Nat) rfl rfl hS (fun i => 1 ≤ i ∧ i ≤ 5) (fun i => 5 - i) (fun i => [(22, .d (.int .i64 i)), (20, .d (.int .i64 (sumR (fun j => agesum d1 l j) 1 i))), (21, .d (.int .i64 (sumR (fun j => agesum d2 l j) 1 i))), (19, .d (.int .i64 ((1 : Nat) : Int))), (14, .d (.bool true)), (7, .lp 0 0), (9, .lp 1 0)]) (fun _ => [arr5 d1 l, arr5 d2 l]) (fun _ => []) 1 ⟨by omega, by omega⟩ (fstep_sub ⟨Sub.refl _, Sub.int (by simp [sumR]), Sub.int (by simp [sumR]), Sub.refl _, Sub.refl _, Sub.refl _, Sub.refl _, trivial⟩) ?_
              rintro i ⟨hi1, hi2⟩
              have : i = 0 ∨ i = 1 ∨ i = 2 ∨ i = 3 ∨ i = 4 ∨ i = 5 := by omega
              rcases this with rfl | rfl | rfl | rfl | rfl | rfl
              · exact absurd hi1 (by omega)
              · skip
                repeat' first | with_reducible refine fzD_ite (fun q => ?_) (fun q => ?_) | ((try conv => whnf); first
                  | refine bs_d (fun q => ?_) (fun q => ?_)
                  | refine bs_n ?_
                  | refine bs_i (fun q => ?_) (fun q => ?_)
                  | refine fnext 2 ⟨by omega, by omega⟩ (by omega) (fstep_sub ⟨Sub.int rfl, Sub.int ?_, Sub.int ?_, Sub.refl _, Sub.refl _, Sub.refl _, Sub.refl _, trivial⟩)
                  | refine ffin _ rfl rfl hS (Sub.refl _) rfl ⟨?_, rfl, rfl⟩)
                all_goals (rw [wi64]; simp [sumR]; omega)
              · skip
                repeat' first | with_reducible refine fzD_ite (fun q => ?_) (fun q => ?_) | ((try conv => whnf); first
                  | refine bs_d (fun q => ?_) (fun q => ?_)
                  | refine bs_n ?_
                  | refine bs_i (fun q => ?_) (fun q => ?_)
                  | refine fnext 3 ⟨by omega, by omega⟩ (by omega) (fstep_sub ⟨Sub.int rfl, Sub.int ?_, Sub.int ?_, Sub.refl _, Sub.refl _, Sub.refl _, Sub.refl _, trivial⟩)
                  | refine ffin _ rfl rfl hS (Sub.refl _) rfl ⟨?_, rfl, rfl⟩)
                all_goals (rw [wi64]; simp [sumR]; omega)
              · skip
                repeat' first | with_reducible refine fzD_ite (fun q => ?_) (fun q => ?_) | ((try conv => whnf); first
                  | refine bs_d (fun q => ?_) (fun q => ?_)
                  | refine bs_n ?_
                  | refine bs_i (fun q => ?_) (fun q => ?_)
                  | refine fnext 4 ⟨by omega, by omega⟩ (by omega) (fstep_sub ⟨Sub.int rfl, Sub.int ?_, Sub.int ?_, Sub.refl _, Sub.refl _, Sub.refl _, Sub.refl _, trivial⟩)
                  | refine ffin _ rfl rfl hS (Sub.refl _) rfl ⟨?_, rfl, rfl⟩)
                all_goals (rw [wi64]; simp [sumR]; omega)
              · skip
                repeat' first | with_reducible refine fzD_ite (fun q => ?_) (fun q => ?_) | ((try conv => whnf); first
                  | refine bs_d (fun q => ?_) (fun q => ?_)
                  | refine bs_n ?_
                  | refine bs_i (fun q => ?_) (fun q => ?_)
                  | refine fnext 5 ⟨by omega, by omega⟩ (by omega) (fstep_sub ⟨Sub.int rfl, Sub.int ?_, Sub.int ?_, Sub.refl _, Sub.refl _, Sub.refl _, Sub.refl _, trivial⟩)
                  | refine ffin _ rfl rfl hS (Sub.refl _) rfl ⟨?_, rfl, rfl⟩)
                all_goals (rw [wi64]; simp [sumR]; omega)
              · skip
                repeat' first | with_reducible refine fzD_ite (fun q => ?_) (fun q => ?_) | ((try conv => whnf); first
                  | refine bs_f (decide_eq_false (Int.not_lt.2 hsuf)) ?_
                  | refine bs_f (decide_eq_false (Int.not_lt.2 hA1)) ?_
                  | refine bs_f (decide_eq_false (Int.not_lt.2 hB1)) ?_
                  | refine bs_d (fun q => ?_) (fun q => ?_)
                  | refine bs_n ?_
                  | refine bs_i (fun q => ?_) (fun q => ?_)
                  | refine fnext 2 (by omega) (by omega) (fstep_sub ⟨Sub.int rfl, Sub.refl _, Sub.refl _, Sub.refl _, trivial⟩)
                  | refine ffin _ rfl rfl hS (Sub.refl _) rfl ⟨?_, rfl, rfl⟩)
            · have hsuf : sumR (fun j => agesum d1 l j) 2 5 ≤ sumR (fun j => agesum d2 l j) 2 5 := sumR_le hle l 2 (by omega)
              repeat' first | with_reducible refine fzD_ite (fun q => ?_) (fun q => ?_) | ((try conv => whnf); first
                | refine bs_d (fun q => ?_) (fun q => ?_)
                | refine bs_n ?_
                | refine bs_i (fun q => ?_) (fun q => ?_)
                | refine ffin _ rfl rfl hS (Sub.refl _) rfl ⟨?_, rfl, rfl⟩)
              refine floop (α := Nat) rfl rfl hS (fun i => 2 ≤ i ∧ i ≤ 5) (fun i => 5 - i) (fun i => [(22, .d (.int .i64 i)), (20, .d (.int .i64 (sumR (fun j => agesum d1 l j) 2 i))), (21, .d (.int .i64 (sumR (fun j => agesum d2 l j) 2 i))), (19, .d (.int .i64 ((2 : Nat) : Int))), (14, .d (.bool true)), (7, .lp 0 0), (9, .lp 1 0)]) (fun _ => [arr5 d1 l, arr5 d2 l]) (fun _ => []) 2 ⟨by omega, by omega⟩ (fstep_sub ⟨Sub.refl _, Sub.int (by simp [sumR]), Sub.int (by simp [sumR]), Sub.refl _, Sub.refl _, Sub.refl _, Sub.refl _, trivial⟩) ?_
              rintro i ⟨hi1, hi2⟩
              have : i = 0 ∨ i = 1 ∨ i = 2 ∨ i = 3 ∨ i = 4 ∨ i = 5 := by omega
              rcases this with rfl | rfl | rfl | rfl | rfl | rfl
              · exact absurd hi1 (by omega)
              · exact absurd hi1 (by omega)
              · skip
                repeat' first | with_reducible refine fzD_ite (fun q => ?_) (fun q => ?_) | ((try conv => whnf); first
                  | refine bs_d (fun q => ?_) (fun q => ?_)
                  | refine bs_n ?_
                  | refine bs_i (fun q => ?_) (fun q => ?_)
                  | refine fnext 3 ⟨by omega, by omega⟩ (by omega) (fstep_sub ⟨Sub.int rfl, Sub.int ?_, Sub.int ?_, Sub.refl _, Sub.refl _, Sub.refl _, Sub.refl _, trivial⟩)
                  | refine ffin _ rfl rfl hS (Sub.refl _) rfl ⟨?_, rfl, rfl⟩)
                all_goals (rw [wi64]; simp [sumR]; omega)
              · skip
                repeat' first | with_reducible refine fzD_ite (fun q => ?_) (fun q => ?_) | ((try conv => whnf); first
                  | refine bs_d (fun q => ?_) (fun q => ?_)
                  | refine bs_n ?_
                  | refine bs_i (fun q => ?_) (fun q => ?_)
                  | refine fnext 4 ⟨by omega, by omega⟩ (by omega) (fstep_sub ⟨Sub.int rfl, Sub.int ?_, Sub.int ?_, Sub.refl _, Sub.refl _, Sub.refl _, Sub.refl _, trivial⟩)
                  | refine ffin _ rfl rfl hS (Sub.refl _) rfl ⟨?_, rfl, rfl⟩)
                all_goals (rw [wi64]; simp [sumR]; omega)
              · skip
                repeat' first | with_reducible refine fzD_ite (fun q => ?_) (fun q => ?_) | ((try conv => whnf); first
                  | refine bs_d (fun q => ?_) (fun q => ?_)
                  | refine bs_n ?_
                  | refine bs_i (fun q => ?_) (fun q => ?_)
                  | refine fnext 5 ⟨by omega, by omega⟩ (by omega) (fstep_sub ⟨Sub.int rfl, Sub.int ?_, Sub.int ?_, Sub.refl _, Sub.refl _, Sub.refl _, Sub.refl _, trivial⟩)
                  | refine ffin _ rfl rfl hS (Sub.refl _) rfl ⟨?_, rfl, rfl⟩)
                all_goals (rw [wi64]; simp [sumR]; omega)
              · skip
                repeat' first | with_reducible refine fzD_ite (fun q => ?_) (fun q => ?_) | ((try conv => whnf); first
                  | refine bs_f (decide_eq_false (Int.not_lt.2 hsuf)) ?_
                  | refine bs_f (decide_eq_false (Int.not_lt.2 hA2)) ?_
                  | refine bs_f (decide_eq_false (Int.not_lt.2 hB2)) ?_
                  | refine bs_d (fun q => ?_) (fun q => ?_)
                  | refine bs_n ?_
                  | refine bs_i (fun q => ?_) (fun q => ?_)
                  | refine fnext 3 (by omega) (by omega) (fstep_sub ⟨Sub.int rfl, Sub.refl _, Sub.refl _, Sub.refl _, trivial⟩)
                  | refine ffin _ rfl rfl hS (Sub.refl _) rfl ⟨?_, rfl, rfl⟩)
            · have hsuf : sumR (fun j => agesum d1 l j) 3 5 ≤ sumR (fun j => agesum d2 l j) 3 5 := sumR_le hle l 3 (by omega)
              repeat' first | with_reducible refine fzD_ite (fun q => ?_) (fun q => ?_) | ((try conv => whnf); first
                | refine bs_d (fun q => ?_) (fun q => ?_)
                | refine bs_n ?_
                | refine bs_i (fun q => ?_) (fun q => ?_)
                | refine ffin _ rfl rfl hS (Sub.refl _) rfl ⟨?_, rfl, rfl⟩)
              refine floop (α := Nat) rfl rfl hS (fun i => 3 ≤ i ∧ i ≤ 5) (fun i => 5 - i) (fun i => [(22, .d (.int .i64 i)), (20, .d (.int .i64 (sumR (fun j => agesum d1 l j) 3 i))), (21, .d (.int .i64 (sumR (fun j => agesum d2 l j) 3 i))), (19, .d (.int .i64 ((3 : Nat) : Int))), (14, .d (.bool true)), (7, .lp 0 0), (9, .lp 1 0)]) (fun _ => [arr5 d1 l, arr5 d2 l]) (fun _ => []) 3 ⟨by omega, by omega⟩ (fstep_sub ⟨Sub.refl _, Sub.int (by simp [sumR]), Sub.int (by simp [sumR]), Sub.refl _, Sub.refl _, Sub.refl _, Sub.refl _, trivial⟩) ?_
              rintro i ⟨hi1, hi2⟩
              have : i = 0 ∨ i = 1 ∨ i = 2 ∨ i = 3 ∨ i = 4 ∨ i = 5 := by omega
              rcases this with rfl | rfl | rfl | rfl | rfl | rfl
              · exact absurd hi1 (by omega)
              · exact absurd hi1 (by omega)
              · exact absurd hi1 (by omega)
              · skip
                repeat' first | with_reducible refine fzD_ite (fun q => ?_) (fun q => ?_) | ((try conv => whnf); first
                  | refine bs_d (fun q => ?_) (fun q => ?_)
                  | refine bs_n ?_
                  | refine bs_i (fun q => ?_) (fun q => ?_)
                  | refine fnext 4 ⟨by omega, by omega⟩ (by omega) (fstep_sub ⟨Sub.int rfl, Sub.int ?_, Sub.int ?_, Sub.refl _, Sub.refl _, Sub.refl _, Sub.refl _, trivial⟩)
                  | refine ffin _ rfl rfl hS (Sub.refl _) rfl ⟨?_, rfl, rfl⟩)
                all_goals (rw [wi64]; simp [sumR]; omega)
              · skip
                repeat' first | with_reducible refine fzD_ite (fun q => ?_) (fun q => ?_) | ((try conv => whnf); first
                  | refine bs_d (fun q => ?_) (fun q => ?_)
                  | refine bs_n ?_
                  | refine bs_i (fun q => ?_) (fun q => ?_)
                  | refine fnext 5 ⟨by omega, by omega⟩ (by omega) (fstep_sub ⟨Sub.int rfl, Sub.int ?_, Sub.int ?_, Sub.refl _, Sub.refl _, Sub.refl _, Sub.refl _, trivial⟩)
                  | refine ffin _ rfl rfl hS (Sub.refl _) rfl ⟨?_, rfl, rfl⟩)
                all_goals (rw [wi64]; simp [sumR]; omega)
              · skip
                repeat' first | with_reducible refine fzD_ite (fun q => ?_) (fun q => ?_) | ((try conv => whnf); first
                  | refine bs_f (decide_eq_false (Int.not_lt.2 hsuf)) ?_
                  | refine bs_f (decide_eq_false (Int.not_lt.2 hA3)) ?_
                  | refine bs_f (decide_eq_false (Int.not_lt.2 hB3)) ?_
                  | refine bs_d (fun q => ?_) (fun q => ?_)
                  | refine bs_n ?_
                  | refine bs_i (fun q => ?_) (fun q => ?_)
                  | refine fnext 4 (by omega) (by omega) (fstep_sub ⟨Sub.int rfl, Sub.refl _, Sub.refl _, Sub.refl _, trivial⟩)
                  | refine ffin _ rfl rfl hS (Sub.refl _) rfl ⟨?_, rfl, rfl⟩)
            · have hsuf : sumR (fun j => agesum d1 l j) 4 5 ≤ sumR (fun j => agesum d2 l j) 4 5 := sumR_le hle l 4 (by omega)
              repeat' first | with_reducible refine fzD_ite (fun q => ?_) (fun q => ?_) | ((try conv => whnf); first
                | refine bs_d (fun q => ?_) (fun q => ?_)
                | refine bs_n ?_
                | refine bs_i (fun q => ?_) (fun q => ?_)
                | refine ffin _ rfl rfl hS (Sub.refl _) rfl ⟨?_, rfl, rfl⟩)
              refine floop (α := Nat) rfl rfl hS (fun i => 4 ≤ i ∧ i ≤ 5) (fun i => 5 - i) (fun i => [(22, .d (.int .i64 i)), (20, .d (.int .i64 (sumR (fun j => agesum d1 l j) 4 i))), (21, .d (.int .i64 (sumR (fun j => agesum d2 l j) 4 i))), (19, .d (.int .i64 ((4 : Nat) : Int))), (14, .d (.bool true)), (7, .lp 0 0), (9, .lp 1 0)]) (fun _ => [arr5 d1 l, arr5 d2 l]) (fun _ => []) 4 ⟨by omega, by omega⟩ (fstep_sub ⟨Sub.refl _, Sub.int (by simp [sumR]), Sub.int (by simp [sumR]), Sub.refl _, Sub.refl _, Sub.refl _, Sub.refl _, trivial⟩) ?_
              rintro i ⟨hi1, hi2⟩
              have : i = 0 ∨ i = 1 ∨ i = 2 ∨ i = 3 ∨ i = 4 ∨ i = 5 := by omega
              rcases this with rfl | rfl | rfl | rfl | rfl | rfl
              · exact absurd hi1 (by omega)
              · exact absurd hi1 (by omega)
              · exact absurd hi1 (by omega)
              · exact absurd hi1 (by omega)
              · skip
                repeat' first | with_reducible refine fzD_ite (fun q => ?_) (fun q => ?_) | ((try conv => whnf); first
                  | refine bs_d (fun q => ?_) (fun q => ?_)
                  | refine bs_n ?_
                  | refine bs_i (fun q => ?_) (fun q => ?_)
                  | refine fnext 5 ⟨by omega, by omega⟩ (by omega) (fstep_sub ⟨Sub.int rfl, Sub.int ?_, Sub.int ?_, Sub.refl _, Sub.refl _, Sub.refl _, Sub.refl _, trivial⟩)
                  | refine ffin _ rfl rfl hS (Sub.refl _) rfl ⟨?_, rfl, rfl⟩)
                all_goals (rw [wi64]; simp [sumR]; omega)
              · skip
                repeat' first | with_reducible refine fzD_ite (fun q => ?_) (fun q => ?_) | ((try conv => whnf); first
                  | refine bs_f (decide_eq_false (Int.not_lt.2 hsuf)) ?_
                  | refine bs_f (decide_eq_false (Int.not_lt.2 hA4)) ?_
                  | refine bs_f (decide_eq_false (Int.not_lt.2 hB4)) ?_
                  | refine bs_d (fun q => ?_) (fun q => ?_)
                  | refine bs_n ?_
                  | refine bs_i (fun q => ?_) (fun q => ?_)
                  | refine fnext 5 (by omega) (by omega) (fstep_sub ⟨Sub.int rfl, Sub.refl _, Sub.refl _, Sub.refl _, trivial⟩)
                  | refine ffin _ rfl rfl hS (Sub.refl _) rfl ⟨?_, rfl, rfl⟩)
            · skip
              repeat' first | with_reducible refine fzD_ite (fun q => ?_) (fun q => ?_) | ((try conv => whnf); first
                | refine bs_d (fun q => ?_) (fun q => ?_)
                | refine bs_n ?_
                | refine bs_i (fun q => ?_) (fun q => ?_)
                | refine ck rfl rfl (head) ?_
                | refine cq (head) ?_
                | refine ffin _ rfl rfl hS (Sub.refl _) rfl ⟨?_, rfl, rfl⟩)
              all_goals rfl
          · rw [if_neg (fun h => hT h.2)] at hsO hs1 hs2
            repeat' first | with_reducible refine fzD_ite (fun q => ?_) (fun q => ?_) | ((try conv => whnf); first
              | refine bs_t (decide_eq_true rfl) ?_
              | refine bs_d (fun q => ?_) (fun q => ?_)
              | refine bs_n ?_
              | refine bs_i (fun q => ?_) (fun q => ?_)
              | refine ckS rfl rfl hsO (.cons (Sub.rd rfl) .nil) ?_
              | refine ck rfl rfl (hs1) ?_
              | refine cq (hs1) ?_
              | refine ck rfl rfl (hs2) ?_
              | refine cq (hs2) ?_
              | refine ffin _ rfl rfl hS (Sub.refl _) rfl ⟨?_, rfl, rfl⟩)
            refine floop (α := Unit) rfl rfl hS (fun _ => True) (fun _ => 0) (fun _ => [(19, .d (.int .i64 0)), (14, .d (.bool false))]) (fun _ => []) (fun _ => []) () trivial (fstep_drop (J' := []) (Jx := [_, _]) (TK' := []) (TKx := [_]) rfl rfl ⟨Sub.refl _, Sub.refl _, trivial⟩ rfl rfl) ?_
            rintro ⟨⟩ _
            repeat' first | with_reducible refine fzD_ite (fun q => ?_) (fun q => ?_) | ((try conv => whnf); first
              | refine bs_d (fun q => ?_) (fun q => ?_)
              | refine bs_n ?_
              | refine bs_i (fun q => ?_) (fun q => ?_)
              | refine ck rfl rfl (head) ?_
              | refine cq (head) ?_
              | refine ffin _ rfl rfl hS (Sub.refl _) rfl ⟨?_, rfl, rfl⟩)
            all_goals rfl
      · have q1 : agesD d1 l (agesE d1 l) = .tup [.agg [.int .i64 (agesum d1 l 0), .int .i64 (agesum d1 l 1), .int .i64 (agesum d1 l 2), .int .i64 (agesum d1 l 3), .int .i64 (agesum d1 l 4)], .int .i64 0] := by rw [e1]; rfl
        have q2 : agesD d2 l (agesE d2 l) = .tup [zero5, .int .i64 (agesE d2 l)] := by rw [agesD, if_neg e2]
        rw [q1] at p1
        rw [q2] at p2
        generalize agesE d2 l = e at *
        refine ACalls.fgo c4 rfl fun hS => ?_
        repeat' first | with_reducible refine fzD_ite (fun q => ?_) (fun q => ?_) | ((try conv => whnf); first
          | refine bs_f (decide_eq_false hlen) ?_
          | refine bs_f (decide_eq_false e2) ?_
          | refine bs_d (fun q => ?_) (fun q => ?_)
          | refine bs_n ?_
          | refine bs_i (fun q => ?_) (fun q => ?_)
          | refine ck rfl rfl (p1) ?_
          | refine cq (p1) ?_
          | refine ck rfl rfl (p2) ?_
          | refine cq (p2) ?_
          | refine ck rfl rfl (head) ?_
          | refine cq (head) ?_
          | refine ffin _ rfl rfl hS (Sub.refl _) rfl ⟨?_, rfl, rfl⟩)
        all_goals rfl
    · have q1 : agesD d1 l (agesE d1 l) = .tup [zero5, .int .i64 (agesE d1 l)] := by rw [agesD, if_neg e1]
      rw [q1] at p1
      by_cases e2 : agesE d2 l = 0
      · have q2 : agesD d2 l (agesE d2 l) = .tup [.agg [.int .i64 (agesum d2 l 0), .int .i64 (agesum d2 l 1), .int .i64 (agesum d2 l 2), .int .i64 (agesum d2 l 3), .int .i64 (agesum d2 l 4)], .int .i64 0] := by rw [e2]; rfl
        rw [q2] at p2
        generalize agesE d1 l = e at *
        refine ACalls.fgo c4 rfl fun hS => ?_
        repeat' first | with_reducible refine fzD_ite (fun q => ?_) (fun q => ?_) | ((try conv => whnf); first
          | refine bs_f (decide_eq_false hlen) ?_
          | refine bs_f (decide_eq_false e1) ?_
          | refine bs_d (fun q => ?_) (fun q => ?_)
          | refine bs_n ?_
          | refine bs_i (fun q => ?_) (fun q => ?_)
          | refine ck rfl rfl (p1) ?_
          | refine cq (p1) ?_
          | refine ck rfl rfl (p2) ?_
          | refine cq (p2) ?_
          | refine ck rfl rfl (head) ?_
          | refine cq (head) ?_
          | refine ffin _ rfl rfl hS (Sub.refl _) rfl ⟨?_, rfl, rfl⟩)
        all_goals rfl
      · have q2 : agesD d2 l (agesE d2 l) = .tup [zero5, .int .i64 (agesE d2 l)] := by rw [agesD, if_neg e2]
        rw [q2] at p2
        generalize agesE d1 l = e at *
        generalize agesE d2 l = e' at *
        refine ACalls.fgo c4 rfl fun hS => ?_
        repeat' first | with_reducible refine fzD_ite (fun q => ?_) (fun q => ?_) | ((try conv => whnf); first
          | refine bs_f (decide_eq_false hlen) ?_
          | refine bs_f (decide_eq_false e1) ?_
          | refine bs_f (decide_eq_false e2) ?_
          | refine bs_d (fun q => ?_) (fun q => ?_)
          | refine bs_n ?_
          | refine bs_i (fun q => ?_) (fun q => ?_)
          | refine ck rfl rfl (p1) ?_
          | refine cq (p1) ?_
          | refine ck rfl rfl (p2) ?_
          | refine cq (p2) ?_
          | refine ck rfl rfl (head) ?_
          | refine cq (head) ?_
          | refine ffin _ rfl rfl hS (Sub.refl _) rfl ⟨?_, rfl, rfl⟩)
        all_goals rfl
  · have hlen : (100 : Int) < ((ivs l).length : Int) := by rw [ivs_len]; omega
    refine ACalls.fgo c4 rfl fun hS => ?_
    repeat' first | with_reducible refine fzD_ite (fun q => ?_) (fun q => ?_) | ((try conv => whnf); first
      | refine bs_t (decide_eq_true hlen) ?_
      | refine bs_d (fun q => ?_) (fun q => ?_)
      | refine bs_n ?_
      | refine bs_i (fun q => ?_) (fun q => ?_)
      | refine ck rfl rfl (head) ?_
      | refine cq (head) ?_
      | refine ffin _ rfl rfl hS (Sub.refl _) rfl ⟨?_, rfl, rfl⟩)
    all_goals rfl

end Go.KL.YtmijcaccgbhgdaaDoor
