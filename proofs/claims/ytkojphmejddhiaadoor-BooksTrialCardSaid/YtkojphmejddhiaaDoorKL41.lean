/- Maps whose keys are anything that is told apart: what they are as functions. -/
import Derived.Test.YtkojphmejddhiaaDoorKL40
set_option linter.unusedVariables false
set_option linter.unusedSimpArgs false
set_option linter.unusedSectionVars false
namespace Go.KL.MG
open Go Go.KL Go.RowKit
section
variable {κ : Type} [DecidableEq κ] {kd : κ → D}
abbrev Ent (κ : Type) := κ × D × Nat
def entKv (kd : κ → D) (l : List (Ent κ)) : Kv := l.map fun e => (kd e.1, e.2.1, e.2.2)
/-- each entry has a stamp of its own, below the clock -/
structure Stamps (l : List (Ent κ)) (clk : Nat) : Prop where
  nodup : (l.map (·.2.2)).Nodup
  lt : ∀ e ∈ l, e.2.2 < clk
theorem Stamps.eq {l : List (Ent κ)} {clk : Nat} (h : Stamps l clk) {a b : Ent κ} (ha : a ∈ l) (hb : b ∈ l) (he : a.2.2 = b.2.2) : a = b := by
  obtain ⟨i, hi, rfl⟩ := List.mem_iff_getElem.1 ha
  obtain ⟨j, hj, rfl⟩ := List.mem_iff_getElem.1 hb
  have h1 := (List.getElem?_inj (i := i) (j := j) (l := l.map (·.2.2)) (by simpa using hi) h.nodup).1 (by simp [List.getElem?_eq_getElem hi, List.getElem?_eq_getElem hj, he])
  subst h1; rfl
theorem nd_of_map {α β : Type} {f : α → β} {l : List α} (h : (l.map f).Nodup) : l.Nodup := by
  rw [List.Nodup, List.pairwise_map] at h
  exact h.imp fun hne he => hne (by rw [he])
theorem Stamps.nd {l : List (Ent κ)} {clk : Nat} (h : Stamps l clk) : l.Nodup := nd_of_map h.nodup
theorem Stamps.kveq {l : List (Ent κ)} {clk : Nat} (h : Stamps l clk) {e : Ent κ} (he : e ∈ l) : ∀ q ∈ entKv kd l, q.2.2 = e.2.2 → q = (kd e.1, e.2.1, e.2.2) := by
  intro q hq hs
  obtain ⟨a, ha, rfl⟩ := List.mem_map.1 hq
  rw [h.eq ha he hs]
theorem Stamps.full {l vs : List (Ent κ)} {clk : Nat} (h : Stamps l clk) (hnd : vs.Nodup) (hs : ∀ e ∈ vs, e ∈ l) (hall : ∀ p ∈ entKv kd l, p.2.2 < clk → p.2.2 ∈ vs.map (·.2.2)) : vs.Perm l := by
  refine (List.perm_ext_iff_of_nodup hnd h.nd).2 fun e => ⟨hs e, fun he => ?_⟩
  obtain ⟨a, ha, hae⟩ := List.mem_map.1 (hall _ (List.mem_map_of_mem he) (h.lt e he))
  rw [h.eq he (hs a ha) hae.symm]; exact ha
theorem Stamps.more {l vs : List (Ent κ)} {clk : Nat} (h : Stamps l clk) (hnd : vs.Nodup) (hs : ∀ e ∈ vs, e ∈ l) {e : Ent κ} (he : e ∈ l) (hn : e.2.2 ∉ vs.map (·.2.2)) :
    (vs ++ [e]).Nodup ∧ (∀ x ∈ vs ++ [e], x ∈ l) ∧ vs.length < l.length := by
  have h1 : (vs ++ [e]).Nodup := by
    refine List.nodup_append.2 ⟨hnd, by simp, fun a ha b hb hab => hn ?_⟩
    rw [List.mem_singleton.1 hb] at hab
    exact hab ▸ List.mem_map_of_mem ha
  have h2 : ∀ x ∈ vs ++ [e], x ∈ l := fun x hx => by
    rcases List.mem_append.1 hx with hx | hx
    · exact hs x hx
    · rw [List.mem_singleton.1 hx]; exact he
  classical
  have := List.Nodup.length_le_of_subset h1 h2
  rw [List.length_append, List.length_singleton] at this
  exact ⟨h1, h2, by omega⟩
theorem entKv_first {l : List (Ent κ)} {clk : Nat} (h : Stamps l clk) : entKv kd l = [] ∨ ∃ p ∈ entKv kd l, p.2.2 < clk := by
  cases l with
  | nil => exact .inl rfl
  | cons e l => exact .inr ⟨_, List.mem_map_of_mem (List.mem_cons_self ..), h.lt e (List.mem_cons_self ..)⟩

/-- keys are told apart -/
abbrev KEq (kd : κ → D) : Prop := ∀ a b, keyB (kd a) (kd b) = decide (a = b)
def getE (l : List (Ent κ)) (k : κ) : Option D := match l with
  | [] => none
  | e :: r => if k = e.1 then some e.2.1 else getE r k
def replE (l : List (Ent κ)) (k : κ) (v : D) : List (Ent κ) := match l with
  | [] => []
  | e :: r => if k = e.1 then (e.1, v, e.2.2) :: r else e :: replE r k v
def delE (l : List (Ent κ)) (k : κ) : List (Ent κ) := match l with
  | [] => []
  | e :: r => if k = e.1 then r else e :: delE r k
theorem mfind_entKv (hk : KEq kd) : ∀ (l : List (Ent κ)) (k : κ), (mfind (entKv kd l) (kd k)).map (·.2.1) = getE l k
  | [], k => rfl
  | e :: r, k => by
    have ih := mfind_entKv hk r k
    simp only [mfind, entKv, List.map_cons, List.find?_cons, hk, getE] at ih ⊢
    by_cases h : k = e.1
    · simp [h]
    · rw [decide_eq_false h, if_neg h]; exact ih
theorem mget_entKv (hk : KEq kd) (z : D) (l : List (Ent κ)) (k : κ) : mget z (entKv kd l) (kd k) = (getE l k).getD z := by
  rw [← mfind_entKv hk, mget]
  cases mfind (entKv kd l) (kd k) <;> rfl
theorem mfind_some (hk : KEq kd) (l : List (Ent κ)) (k : κ) : (mfind (entKv kd l) (kd k)).isSome = (getE l k).isSome := by
  rw [← mfind_entKv hk]
  cases mfind (entKv kd l) (kd k) <;> rfl
theorem mrepl_entKv (hk : KEq kd) : ∀ (l : List (Ent κ)) (k : κ) (v : D), mrepl (entKv kd l) (kd k) v = entKv kd (replE l k v)
  | [], k, v => rfl
  | e :: r, k, v => by
    have ih := mrepl_entKv hk r k v
    simp only [entKv, List.map_cons, mrepl, hk, replE] at ih ⊢
    by_cases h : k = e.1
    · simp [h]
    · simp [h, ih]
theorem mdel_entKv (hk : KEq kd) : ∀ (l : List (Ent κ)) (k : κ), mdel (entKv kd l) (kd k) = entKv kd (delE l k)
  | [], k => rfl
  | e :: r, k => by
    have ih := mdel_entKv hk r k
    simp only [mdel, entKv, List.map_cons, List.eraseP_cons, hk, delE] at ih ⊢
    by_cases h : k = e.1
    · simp [h]
    · simp [h, ih]
theorem getE_mem : ∀ (l : List (Ent κ)) (k : κ), (getE l k).isSome = true ↔ k ∈ l.map (·.1)
  | [], k => by simp [getE]
  | e :: r, k => by
    simp only [getE, List.map_cons, List.mem_cons]
    by_cases h : k = e.1
    · simp [h]
    · simp [h, getE_mem r k]
theorem getE_repl : ∀ (l : List (Ent κ)) (k : κ) (v : D), (getE l k).isSome = true → ∀ j, getE (replE l k v) j = if j = k then some v else getE l j
  | [], k, v, h, j => by simp [getE] at h
  | e :: r, k, v, h, j => by
    simp only [getE, replE] at h ⊢
    by_cases hk : k = e.1
    · simp only [hk, if_true, getE]
      by_cases hj : j = e.1 <;> simp [hj]
    · rw [if_neg hk] at h
      simp only [if_neg hk, getE]
      rw [getE_repl r k v h j]
      by_cases hj : j = e.1
      · rw [if_pos hj, if_neg (by first | omega | (intro hh; simp_all)), if_pos hj]
      · rw [if_neg hj, if_neg hj]
theorem repl_fst : ∀ (l : List (Ent κ)) (k : κ) (v : D), (replE l k v).map (·.1) = l.map (·.1)
  | [], k, v => rfl
  | e :: r, k, v => by simp only [replE]; split <;> simp [repl_fst r k v]
theorem repl_st : ∀ (l : List (Ent κ)) (k : κ) (v : D), (replE l k v).map (·.2.2) = l.map (·.2.2)
  | [], k, v => rfl
  | e :: r, k, v => by simp only [replE]; split <;> simp [repl_st r k v]
theorem getE_app (l : List (Ent κ)) (k : κ) (v : D) (n : Nat) (h : getE l k = none) : ∀ j, getE (l ++ [(k, v, n)]) j = if j = k then some v else getE l j := by
  induction l with
  | nil => intro j; simp [getE]
  | cons e r ih =>
    intro j
    simp only [getE] at h
    split at h
    · cases h
    rename_i hk
    simp only [List.cons_append, getE]
    rw [ih h j]
    by_cases hj : j = e.1
    · rw [if_pos hj, if_neg (by first | omega | (intro hh; simp_all)), if_pos hj]
    · rw [if_neg hj, if_neg hj]
theorem del_sub : ∀ (l : List (Ent κ)) (k : κ), (delE l k).Sublist l
  | [], k => List.Sublist.refl _
  | e :: r, k => by
    simp only [delE]; split
    · exact List.sublist_cons_self ..
    · exact (del_sub r k).cons_cons _
theorem getE_del : ∀ (l : List (Ent κ)) (k : κ), (l.map (·.1)).Nodup → ∀ j, getE (delE l k) j = if j = k then none else getE l j
  | [], k, _, j => by simp [getE, delE]
  | e :: r, k, hn, j => by
    simp only [List.map_cons, List.nodup_cons] at hn
    simp only [delE, getE]
    by_cases hk : k = e.1
    · rw [if_pos hk]
      by_cases hj : j = k
      · rw [if_pos hj]
        cases h : getE r j with
        | none => rfl
        | some v => exact absurd ((getE_mem r j).1 (by rw [h]; rfl)) (by rw [hj, hk]; exact hn.1)
      · rw [if_neg hj, if_neg (by first | omega | (intro hh; simp_all))]
    · rw [if_neg hk, getE, getE_del r k hn.2 j]
      by_cases hj : j = e.1
      · rw [if_pos hj, if_neg (by first | omega | (intro hh; simp_all)), if_pos hj]
      · rw [if_neg hj, if_neg hj]

/-- the map l is the function f -/
structure MapR {β : Type} (vl : β → D) (l : List (Ent κ)) (clk : Nat) (f : κ → Option β) : Prop where
  st : Stamps l clk
  nd : (l.map (·.1)).Nodup
  get : ∀ k, getE l k = (f k).map vl
def setE (l : List (Ent κ)) (clk : Nat) (k : κ) (v : D) : List (Ent κ) := if (getE l k).isSome = true then replE l k v else l ++ [(k, v, clk)]
def clkE (l : List (Ent κ)) (clk : Nat) (k : κ) : Nat := if (getE l k).isSome = true then clk else clk + 1
theorem mset_entKv (hk : KEq kd) (l : List (Ent κ)) (clk : Nat) (k : κ) (v : D) : mset (entKv kd l) clk (kd k) v = entKv kd (setE l clk k v) := by
  have h := mfind_some hk l k
  unfold mset setE
  cases hm : mfind (entKv kd l) (kd k) with
  | some p => rw [hm] at h; rw [if_pos (by rw [← h]; rfl)]; exact mrepl_entKv hk l k v
  | none => rw [hm] at h; rw [if_neg (by rw [← h]; simp)]; simp [entKv]
theorem mclk_entKv (hk : KEq kd) (l : List (Ent κ)) (clk : Nat) (k : κ) : mclk (entKv kd l) clk (kd k) = clkE l clk k := by
  have h := mfind_some hk l k
  unfold mclk clkE
  cases hm : mfind (entKv kd l) (kd k) with
  | some p => rw [hm] at h; rw [if_pos (by rw [← h]; rfl)]
  | none => rw [hm] at h; rw [if_neg (by rw [← h]; simp)]
section
variable {β : Type} {vl : β → D} {l : List (Ent κ)} {clk : Nat} {f : κ → Option β}
theorem MapR.empty (vl : β → D) : MapR vl ([] : List (Ent κ)) 0 fun _ => none := ⟨⟨List.nodup_nil, by simp⟩, List.nodup_nil, fun _ => rfl⟩
theorem MapR.mem (h : MapR vl l clk f) (k : κ) : k ∈ l.map (·.1) ↔ (f k).isSome = true := by
  rw [← getE_mem, h.get]; cases f k <;> simp
theorem MapR.set (h : MapR vl l clk f) (k : κ) (v : β) : MapR vl (setE l clk k (vl v)) (clkE l clk k) fun j => if j = k then some v else f j := by
  unfold setE clkE
  by_cases hk : (getE l k).isSome = true
  · rw [if_pos hk, if_pos hk]
    refine ⟨⟨by rw [repl_st]; exact h.st.nodup, fun e he => ?_⟩, by rw [repl_fst]; exact h.nd, fun j => ?_⟩
    · have : e.2.2 ∈ (replE l k (vl v)).map (·.2.2) := List.mem_map_of_mem he
      rw [repl_st] at this
      obtain ⟨a, ha, hae⟩ := List.mem_map.1 this
      rw [← hae]; exact h.st.lt a ha
    · rw [getE_repl l k (vl v) hk j, h.get]; split <;> rfl
  · rw [if_neg hk, if_neg hk]
    have hn : getE l k = none := by cases hg : getE l k with
      | none => rfl
      | some v => rw [hg] at hk; simp at hk
    refine ⟨⟨?_, fun e he => ?_⟩, ?_, fun j => ?_⟩
    · rw [List.map_append, List.nodup_append]
      refine ⟨h.st.nodup, by simp, fun a ha b hb hab => ?_⟩
      obtain ⟨x, hx, rfl⟩ := List.mem_map.1 ha
      simp at hb
      have := h.st.lt x hx
      omega
    · rcases List.mem_append.1 he with he | he
      · have := h.st.lt e he; omega
      · rw [List.mem_singleton.1 he]; exact Nat.lt_succ_self _
    · rw [List.map_append, List.nodup_append]
      refine ⟨h.nd, by simp, fun a ha b hb hab => ?_⟩
      simp at hb
      have := (getE_mem l a).2 ha
      rw [hab, hb] at this
      exact hk this
    · rw [getE_app l k (vl v) clk hn j, h.get]; split <;> rfl
theorem MapR.del (h : MapR vl l clk f) (k : κ) : MapR vl (delE l k) clk fun j => if j = k then none else f j := by
  refine ⟨⟨h.st.nodup.sublist ((del_sub l k).map _), fun e he => h.st.lt e ((del_sub l k).subset he)⟩, h.nd.sublist ((del_sub l k).map _), fun j => ?_⟩
  rw [getE_del l k h.nd j, h.get]; split <;> rfl
theorem setE_len (l : List (Ent κ)) (clk : Nat) (k : κ) (v : D) : (setE l clk k v).length ≤ l.length + 1 := by
  unfold setE; split
  · have := congrArg List.length (repl_fst l k v)
    simp at this; omega
  · simp
theorem delE_len (l : List (Ent κ)) (k : κ) : (delE l k).length ≤ l.length := (del_sub l k).length_le
end
end
end Go.KL.MG
