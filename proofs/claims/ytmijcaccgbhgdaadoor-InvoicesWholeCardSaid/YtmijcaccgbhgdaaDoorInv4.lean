/- package invoices and its reference: how late -/
import Derived.Test.YtmijcaccgbhgdaaDoorInv3
set_option linter.unusedVariables false
set_option linter.unusedSimpArgs false
set_option maxRecDepth 4000
namespace Go.KL.YtmijcaccgbhgdaaDoor
open Go Go.KL Go.RowKit Go.Proofs


def ageOf (n : Int) : Int := if n ≤ 0 then 0 else if n ≤ 30 then 1 else if n ≤ 60 then 2 else if n ≤ 90 then 3 else 4
def lateD (x : Iv) (day : Int) : D := if x.ok ∧ 1 ≤ day ∧ day ≤ 3652059 then .tup [.int .i64 (max (day - x.due) 0), .int .i64 (ageOf (max (day - x.due) 0)), .int .i64 0] else .tup [.int .i64 0, .int .i64 0, .int .i64 2]
def cnt (n : Int) : Nat → Int
  | 0 => 0
  | 1 => if 0 < n then 1 else 0
  | 2 => (if 0 < n then 1 else 0) + (if 30 < n then 1 else 0)
  | 3 => (if 0 < n then 1 else 0) + (if 30 < n then 1 else 0) + (if 60 < n then 1 else 0)
  | _ => (if 0 < n then 1 else 0) + (if 30 < n then 1 else 0) + (if 60 < n then 1 else 0) + (if 90 < n then 1 else 0)
theorem cnt_age (n : Int) : cnt n 4 = ageOf n := by
  simp only [cnt, ageOf]
  repeat' split
  all_goals omega

def bound : Nat → Int
  | 0 => 0
  | 1 => 30
  | 2 => 60
  | _ => 90
theorem cnt_up {n : Int} {k : Nat} (hk : k < 4) : (bound k < n → IntKind.wrap .i64 (cnt n k + 1) = cnt n (k + 1)) ∧ (¬ bound k < n → cnt n k = cnt n (k + 1)) := by
  have : k = 0 ∨ k = 1 ∨ k = 2 ∨ k = 3 := by omega
  rcases this with rfl | rfl | rfl | rfl
  all_goals simp only [cnt, bound, wi64]
  all_goals constructor <;> intro h
  all_goals repeat' split
  all_goals omega
theorem day' (n : Int) : Pure 26 [.int .i64 n] (.bool (decide (1 ≤ n ∧ n ≤ 3652059))) := day n

theorem Late (x : Iv) (hx : x.R) (day : Int) (hd : I64 day) : Pure 8 [x.d, .int .i64 day] (lateD x day) := by
  intro S tk
  have hc := Check x hx
  have hw := within [1, day, 3652059] (by simp)
  unfold lateD
  by_cases h1 : x.ok ∧ 1 ≤ day ∧ day ≤ 3652059
  · rw [if_pos h1.1] at hc
    rw [show withinS [1, day, 3652059] = true from by rw [withinS_cons, decide_eq_true h1.2]; rfl] at hw
    rw [if_pos h1]
    have hk := h1.1
    unfold Iv.ok at hk
    have e : IntKind.wrap .i64 (day - x.due) = day - x.due := wi64_id (by unfold I64; omega)
    refine ACalls.fgo c8 rfl fun hS => ?_
    repeat' first | with_reducible refine fzD_ite (fun q => ?_) (fun q => ?_) | ((try conv => whnf); first
      | refine bs_d (fun q => ?_) (fun q => ?_)
      | refine bs_n ?_
      | refine bs_i (fun q => ?_) (fun q => ?_)
      | refine ck rfl rfl (hc) ?_
      | refine cq (hc) ?_
      | refine ck rfl rfl (hw) ?_
      | refine cq (hw) ?_
      | refine ffin _ rfl rfl hS (Sub.refl _) rfl ⟨?_, rfl, rfl⟩)
    refine floop (α := Nat) rfl rfl hS (fun i => i ≤ 4) (fun i => 4 - i) (fun i => [(24, .d (.int .i64 i)), (23, .d (.agg [.int .i64 0, .int .i64 30, .int .i64 60, .int .i64 90])), (4, .d (.int .i64 (max (day - x.due) 0))), (5, .d (.int .i64 (cnt (max (day - x.due) 0) i)))]) (fun i => []) (fun _ => []) 0 (by omega) (fstep_drop (J' := []) (TK' := []) (Jx := [.arr x.cs]) rfl rfl ⟨Sub.refl _, Sub.refl _, Sub.int (by rw [e]), Sub.refl _, trivial⟩ rfl rfl) ?_
    intro i hi
    have : i = 0 ∨ i = 1 ∨ i = 2 ∨ i = 3 ∨ i = 4 := by omega
    rcases this with rfl | rfl | rfl | rfl | rfl
    · skip
      repeat' first | with_reducible refine fzD_ite (fun q => ?_) (fun q => ?_) | ((try conv => whnf); first
        | refine bs_d (fun q => ?_) (fun q => ?_)
        | refine bs_n ?_
        | refine bs_i (fun q => ?_) (fun q => ?_)
        | refine fnext 1 (by omega) (by omega) (fstep_sub ⟨Sub.int rfl, Sub.refl _, Sub.refl _, Sub.int ?_, trivial⟩)
        | refine ffin _ rfl rfl hS (Sub.refl _) rfl ⟨?_, rfl, rfl⟩)
      · have hc := cnt_up (n := max (day - x.due) 0) (k := 0) (by omega)
        exact hc.1 ‹_›
      · have hc := cnt_up (n := max (day - x.due) 0) (k := 0) (by omega)
        exact hc.2 ‹_›
    · skip
      repeat' first | with_reducible refine fzD_ite (fun q => ?_) (fun q => ?_) | ((try conv => whnf); first
        | refine bs_d (fun q => ?_) (fun q => ?_)
        | refine bs_n ?_
        | refine bs_i (fun q => ?_) (fun q => ?_)
        | refine fnext 2 (by omega) (by omega) (fstep_sub ⟨Sub.int rfl, Sub.refl _, Sub.refl _, Sub.int ?_, trivial⟩)
        | refine ffin _ rfl rfl hS (Sub.refl _) rfl ⟨?_, rfl, rfl⟩)
      · have hc := cnt_up (n := max (day - x.due) 0) (k := 1) (by omega)
        exact hc.1 ‹_›
      · have hc := cnt_up (n := max (day - x.due) 0) (k := 1) (by omega)
        exact hc.2 ‹_›
    · skip
      repeat' first | with_reducible refine fzD_ite (fun q => ?_) (fun q => ?_) | ((try conv => whnf); first
        | refine bs_d (fun q => ?_) (fun q => ?_)
        | refine bs_n ?_
        | refine bs_i (fun q => ?_) (fun q => ?_)
        | refine fnext 3 (by omega) (by omega) (fstep_sub ⟨Sub.int rfl, Sub.refl _, Sub.refl _, Sub.int ?_, trivial⟩)
        | refine ffin _ rfl rfl hS (Sub.refl _) rfl ⟨?_, rfl, rfl⟩)
      · have hc := cnt_up (n := max (day - x.due) 0) (k := 2) (by omega)
        exact hc.1 ‹_›
      · have hc := cnt_up (n := max (day - x.due) 0) (k := 2) (by omega)
        exact hc.2 ‹_›
    · skip
      repeat' first | with_reducible refine fzD_ite (fun q => ?_) (fun q => ?_) | ((try conv => whnf); first
        | refine bs_d (fun q => ?_) (fun q => ?_)
        | refine bs_n ?_
        | refine bs_i (fun q => ?_) (fun q => ?_)
        | refine fnext 4 (by omega) (by omega) (fstep_sub ⟨Sub.int rfl, Sub.refl _, Sub.refl _, Sub.int ?_, trivial⟩)
        | refine ffin _ rfl rfl hS (Sub.refl _) rfl ⟨?_, rfl, rfl⟩)
      · have hc := cnt_up (n := max (day - x.due) 0) (k := 3) (by omega)
        exact hc.1 ‹_›
      · have hc := cnt_up (n := max (day - x.due) 0) (k := 3) (by omega)
        exact hc.2 ‹_›
    · skip
      repeat' first | with_reducible refine fzD_ite (fun q => ?_) (fun q => ?_) | ((try conv => whnf); first
        | refine bs_d (fun q => ?_) (fun q => ?_)
        | refine bs_n ?_
        | refine bs_i (fun q => ?_) (fun q => ?_)
        | refine ffin _ rfl rfl hS (Sub.refl _) rfl ⟨?_, rfl, rfl⟩)
      show D.tup _ = D.tup _
      rw [cnt_age]
  · rw [if_neg h1]
    by_cases hok : x.ok
    · rw [if_pos hok] at hc
      rw [show withinS [1, day, 3652059] = false from by rw [withinS_cons, decide_eq_false (fun h => h1 ⟨hok, h⟩)]; rfl] at hw
      refine ACalls.fgo c8 rfl fun hS => ?_
      repeat' first | with_reducible refine fzD_ite (fun q => ?_) (fun q => ?_) | ((try conv => whnf); first
        | refine bs_d (fun q => ?_) (fun q => ?_)
        | refine bs_n ?_
        | refine bs_i (fun q => ?_) (fun q => ?_)
        | refine ck rfl rfl (hc) ?_
        | refine cq (hc) ?_
        | refine ck rfl rfl (hw) ?_
        | refine cq (hw) ?_
        | refine ffin _ rfl rfl hS (Sub.refl _) rfl ⟨?_, rfl, rfl⟩)
      rfl
    · rw [if_neg hok] at hc
      refine ACalls.fgo c8 rfl fun hS => ?_
      repeat' first | with_reducible refine fzD_ite (fun q => ?_) (fun q => ?_) | ((try conv => whnf); first
        | refine bs_d (fun q => ?_) (fun q => ?_)
        | refine bs_n ?_
        | refine bs_i (fun q => ?_) (fun q => ?_)
        | refine ck rfl rfl (hc) ?_
        | refine cq (hc) ?_
        | refine ck rfl rfl (hw) ?_
        | refine cq (hw) ?_
        | refine ffin _ rfl rfl hS (Sub.refl _) rfl ⟨?_, rfl, rfl⟩)
      rfl

theorem refLate (x : Iv) (hx : x.R) (day : Int) (hd : I64 day) : Pure 9 [x.d, .int .i64 day] (lateD x day) := by
  intro S tk
  have hc := refCheck x hx
  have hw := day' day
  unfold lateD
  by_cases h1 : x.ok ∧ 1 ≤ day ∧ day ≤ 3652059
  · rw [if_pos h1.1] at hc
    rw [decide_eq_true h1.2] at hw
    rw [if_pos h1]
    have hk := h1.1
    unfold Iv.ok at hk
    have e : IntKind.wrap .i64 (day - x.due) = day - x.due := wi64_id (by unfold I64; omega)
    refine ACalls.fgo c9 rfl fun hS => ?_
    repeat' first | with_reducible refine fzD_ite (fun q => ?_) (fun q => ?_) | ((try conv => whnf); first
      | refine bs_d (fun q => ?_) (fun q => ?_)
      | refine bs_n ?_
      | refine bs_i (fun q => ?_) (fun q => ?_)
      | refine ck rfl rfl (hc) ?_
      | refine cq (hc) ?_
      | refine ck rfl rfl (hw) ?_
      | refine cq (hw) ?_
      | refine ffin _ rfl rfl hS (Sub.refl _) rfl ⟨?_, rfl, rfl⟩)
    all_goals show D.tup _ = D.tup _
    all_goals simp only [e] at *
    · rw [show max (day - x.due) 0 = 0 from by omega]; rfl
    · rw [show max (day - x.due) 0 = day - x.due from by omega, show ageOf (day - x.due) = 1 from by unfold ageOf; rw [if_neg (by omega), if_pos (by omega)]]
    · rw [show max (day - x.due) 0 = day - x.due from by omega, show ageOf (day - x.due) = 2 from by unfold ageOf; rw [if_neg (by omega), if_neg (by omega), if_pos (by omega)]]
    · rw [show max (day - x.due) 0 = day - x.due from by omega, show ageOf (day - x.due) = 3 from by unfold ageOf; rw [if_neg (by omega), if_neg (by omega), if_neg (by omega), if_pos (by omega)]]
    · rw [show max (day - x.due) 0 = day - x.due from by omega, show ageOf (day - x.due) = 4 from by unfold ageOf; rw [if_neg (by omega), if_neg (by omega), if_neg (by omega), if_neg (by omega)]]
  · rw [if_neg h1]
    by_cases hok : x.ok
    · rw [if_pos hok] at hc
      rw [decide_eq_false (fun h => h1 ⟨hok, h⟩)] at hw
      refine ACalls.fgo c9 rfl fun hS => ?_
      repeat' first | with_reducible refine fzD_ite (fun q => ?_) (fun q => ?_) | ((try conv => whnf); first
        | refine bs_d (fun q => ?_) (fun q => ?_)
        | refine bs_n ?_
        | refine bs_i (fun q => ?_) (fun q => ?_)
        | refine ck rfl rfl (hc) ?_
        | refine cq (hc) ?_
        | refine ck rfl rfl (hw) ?_
        | refine cq (hw) ?_
        | refine ffin _ rfl rfl hS (Sub.refl _) rfl ⟨?_, rfl, rfl⟩)
      rfl
    · rw [if_neg hok] at hc
      refine ACalls.fgo c9 rfl fun hS => ?_
      repeat' first | with_reducible refine fzD_ite (fun q => ?_) (fun q => ?_) | ((try conv => whnf); first
        | refine bs_d (fun q => ?_) (fun q => ?_)
        | refine bs_n ?_
        | refine bs_i (fun q => ?_) (fun q => ?_)
        | refine ck rfl rfl (hc) ?_
        | refine cq (hc) ?_
        | refine ck rfl rfl (hw) ?_
        | refine cq (hw) ?_
        | refine ffin _ rfl rfl hS (Sub.refl _) rfl ⟨?_, rfl, rfl⟩)
      rfl

end Go.KL.YtmijcaccgbhgdaaDoor
