/- The sort's plain functions, step by step. -/
import Derived.Test.YtjjdfplonbgpbaaDoorKL31
import Derived.Sort.AssemblyPlain
set_option linter.unusedVariables false
set_option linter.unusedSimpArgs false
set_option linter.unusedSectionVars false
namespace Go.KL
open Go Go.RowKit Go.Sort

section
variable {α : Type} [Inhabited α] {lt : α → α → Bool}
theorem insInner_step {a i : Nat} {d : Array α} (h : a < i) (h2 : lt d[i]! d[i - 1]! = true) : insInner lt a i d = insInner lt a (i - 1) (swp d i (i - 1)) := by
  obtain ⟨j, rfl⟩ : ∃ j, i = j + 1 := ⟨i - 1, by omega⟩
  simp only [Nat.add_sub_cancel] at h2 ⊢
  rw [insInner, h2, if_pos (by simpa using h)]
theorem insInner_stop {a i : Nat} {d : Array α} (h : a < i → lt d[i]! d[i - 1]! = false) : insInner lt a i d = d := by
  cases i with
  | zero => rfl
  | succ j =>
    simp only [Nat.add_sub_cancel] at h
    rw [insInner, if_neg]
    simp only [Bool.and_eq_true, decide_eq_true_eq, gt_iff_lt, not_and]
    intro h1
    rw [h h1]; simp
theorem insOuter_step {a b i : Nat} {d : Array α} (h : i < b) : insOuter lt a b i d = insOuter lt a b (i + 1) (insInner lt a i d) := by
  rw [insOuter, if_pos h]
theorem insOuter_stop {a b i : Nat} {d : Array α} (h : ¬ i < b) : insOuter lt a b i d = d := by
  rw [insOuter, if_neg h]
theorem size_swp' (d : Array α) (i j : Nat) : (swp d i j).size = d.size := by simp [swp]
theorem siftDown_stop {hi first r : Nat} {d : Array α} (h : hi ≤ 2 * r + 1) : siftDown lt hi first r d = d := by
  rw [siftDown, dif_pos h]
theorem siftDown_b1 {hi first r : Nat} {d : Array α} (h : ¬ hi ≤ 2 * r + 1) (h1 : 2 * r + 1 + 1 < hi) (h2 : lt d[first + (2 * r + 1)]! d[first + (2 * r + 1 + 1)]! = true) :
    siftDown lt hi first r d = if lt d[first + r]! d[first + (2 * r + 1 + 1)]! = true then siftDown lt hi first (2 * r + 1 + 1) (swp d (first + r) (first + (2 * r + 1 + 1))) else d := by
  rw [siftDown, dif_neg h, if_pos]
  · by_cases hc : lt d[first + r]! d[first + (2 * r + 1 + 1)]! = true
    · rw [if_neg (by simpa using hc), dif_pos h1, if_pos hc]
    · rw [if_pos (by simpa using hc), if_neg hc]
  · rw [Bool.and_eq_true]; exact ⟨by simpa using h1, h2⟩
theorem siftDown_b2 {hi first r : Nat} {d : Array α} (h : ¬ hi ≤ 2 * r + 1) (h2 : 2 * r + 1 + 1 < hi → lt d[first + (2 * r + 1)]! d[first + (2 * r + 1 + 1)]! = false) :
    siftDown lt hi first r d = if lt d[first + r]! d[first + (2 * r + 1)]! = true then siftDown lt hi first (2 * r + 1) (swp d (first + r) (first + (2 * r + 1))) else d := by
  rw [siftDown, dif_neg h, if_neg]
  · by_cases hc : lt d[first + r]! d[first + (2 * r + 1)]! = true
    · rw [if_neg (by simpa using hc), if_pos hc]
    · rw [if_pos (by simpa using hc), if_neg hc]
  · rw [Bool.and_eq_true, not_and]; intro h1
    have := h2 (by simpa using h1)
    intro h3
    rw [Nat.add_assoc] at h3
    rw [h3] at this; cases this
theorem reverseLoop_step {i j : Nat} {d : Array α} (h : i < j) : reverseLoop i j d = reverseLoop (i + 1) (j - 1) (swp d i j) := by
  rw [reverseLoop, if_pos h]
theorem reverseLoop_stop {i j : Nat} {d : Array α} (h : ¬ i < j) : reverseLoop i j d = d := by
  rw [reverseLoop, if_neg h]
theorem size_siftDown {hi first : Nat} : ∀ (k r : Nat) (d : Array α), hi - r ≤ k → (siftDown lt hi first r d).size = d.size
  | 0, r, d, hk => by rw [siftDown_stop (by omega)]
  | k + 1, r, d, hk => by
    by_cases h : hi ≤ 2 * r + 1
    · rw [siftDown_stop h]
    · by_cases h1 : 2 * r + 1 + 1 < hi ∧ lt d[first + (2 * r + 1)]! d[first + (2 * r + 1 + 1)]! = true
      · rw [siftDown_b1 h h1.1 h1.2]
        split
        · rw [size_siftDown k _ _ (by omega), size_swp']
        · rfl
      · rw [siftDown_b2 h (fun h2 => by cases hb : lt d[first + (2 * r + 1)]! d[first + (2 * r + 1 + 1)]! with
          | false => rfl
          | true => exact absurd ⟨h2, hb⟩ h1)]
        split
        · rw [size_siftDown k _ _ (by omega), size_swp']
        · rfl
theorem size_sift' {hi first r : Nat} (d : Array α) : (siftDown lt hi first r d).size = d.size := size_siftDown _ _ _ (Nat.le_refl _)
theorem scanUp_step {p : α → Bool} {d : Array α} {j i : Nat} (h : i ≤ j) (hp : p d[i]! = true) : scanUp p d j i = scanUp p d j (i + 1) := by
  rw [scanUp, if_pos]
  rw [Bool.and_eq_true]; exact ⟨by simpa using h, hp⟩
theorem scanUp_stop {p : α → Bool} {d : Array α} {j i : Nat} (h : i ≤ j → p d[i]! = false) : scanUp p d j i = i := by
  rw [scanUp, if_neg]
  rw [Bool.and_eq_true, not_and]
  intro h1; rw [h (by simpa using h1)]; simp
theorem scanDown_step {p : α → Bool} {d : Array α} {j i : Nat} (h0 : 0 < j) (h : i ≤ j) (hp : p d[j]! = true) : scanDown p d i j = scanDown p d i (j - 1) := by
  obtain ⟨k, rfl⟩ : ∃ k, j = k + 1 := ⟨j - 1, by omega⟩
  rw [scanDown, if_pos, Nat.add_sub_cancel]
  rw [Bool.and_eq_true]; exact ⟨by simpa using h, hp⟩
theorem scanDown_stop {p : α → Bool} {d : Array α} {j i : Nat} (h : i ≤ j → p d[j]! = false) : scanDown p d i j = j := by
  cases j with
  | zero => rfl
  | succ k =>
    rw [scanDown, if_neg]
    rw [Bool.and_eq_true, not_and]
    intro h1; rw [h (by simpa using h1)]; simp
theorem partition_of {d d0 : Array α} {a b p i j : Nat} (h0 : swp d a p = d0) (hi : i = scanUp (fun x => lt x d0[a]!) d0 (b - 1) (a + 1)) (hj : j = scanDown (fun x => !lt x d0[a]!) d0 i (b - 1)) :
    partition lt d a b p = if i > j then (j, true, swp d0 j a) else ((partLoop lt a (i + 1) (j - 1) (swp d0 i j)).1, false, swp (partLoop lt a (i + 1) (j - 1) (swp d0 i j)).2 (partLoop lt a (i + 1) (j - 1) (swp d0 i j)).1 a) := by
  subst h0; subst hi; subst hj; rfl
theorem scanSorted_step {d : Array α} {b i : Nat} (h : i < b) (hl : lt d[i]! d[i - 1]! = false) : scanSorted lt d b i = scanSorted lt d b (i + 1) := by
  rw [scanSorted, if_pos]
  rw [Bool.and_eq_true]; exact ⟨by simpa using h, by rw [hl]; rfl⟩
theorem scanSorted_stop {d : Array α} {b i : Nat} (h : i < b → lt d[i]! d[i - 1]! = true) : scanSorted lt d b i = i := by
  rw [scanSorted, if_neg]
  rw [Bool.and_eq_true, not_and]
  intro h1; rw [h (by simpa using h1)]; simp
theorem shiftDown_step {d : Array α} {j : Nat} (h : 0 < j) (hl : lt d[j]! d[j - 1]! = true) : shiftDown lt j d = shiftDown lt (j - 1) (swp d j (j - 1)) := by
  obtain ⟨k, rfl⟩ : ∃ k, j = k + 1 := ⟨j - 1, by omega⟩
  simp only [Nat.add_sub_cancel] at hl ⊢
  rw [shiftDown, hl, if_neg (by simp)]
theorem shiftDown_stop {d : Array α} {j : Nat} (h : 0 < j → lt d[j]! d[j - 1]! = false) : shiftDown lt j d = d := by
  cases j with
  | zero => rfl
  | succ k =>
    have := h (Nat.succ_pos _)
    simp only [Nat.add_sub_cancel] at this
    rw [shiftDown, this, if_pos (by simp)]
theorem shiftUp_step {d : Array α} {b j : Nat} (h : j < b) (hl : lt d[j]! d[j - 1]! = true) : shiftUp lt b j d = shiftUp lt b (j + 1) (swp d j (j - 1)) := by
  rw [shiftUp, if_pos h, hl, if_neg (by simp)]
theorem shiftUp_stop {d : Array α} {b j : Nat} (h : j < b → lt d[j]! d[j - 1]! = false) : shiftUp lt b j d = d := by
  rw [shiftUp]
  split
  · rename_i hj; rw [h hj, if_pos (by simp)]
  · rfl
theorem partialIns_of {a b s i t : Nat} {d D D' : Array α} (ht : t = scanSorted lt d b i) (hd2 : (if t - a ≥ 2 then shiftDown lt (t - 1) (swp d t (t - 1)) else swp d t (t - 1)) = D) (hd3 : (if b - t ≥ 2 then shiftUp lt b (t + 1) D else D) = D') :
    partialIns lt a b (s + 1) i d = if t = b then (d, true) else if b - a < 50 then (d, false) else partialIns lt a b s t D' := by
  subst ht; subst hd2; subst hd3; rfl
theorem tdiv2 {x : Int} (h : -1 ≤ x) : x.tdiv 2 = if x < 0 then 0 else x / 2 := by
  by_cases h0 : x < 0
  · obtain rfl : x = -1 := by omega
    rw [if_pos h0]; rfl
  · rw [if_neg h0, Int.tdiv_eq_ediv_of_nonneg (by omega)]
end
end Go.KL
