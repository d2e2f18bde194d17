/- Regions in any order: the theorem. -/
import Derived.Test.YtjjdfplonbgpbaaDoorKL17
set_option linter.unusedVariables false
set_option linter.unusedSimpArgs false
namespace Go.KL
open Go Go.RowKit

/-- j hangs on i -/
inductive Reach (ops : Array Oper) : Nat → Nat → Prop
  | one (j : Nat) (o : Oper) (e : Edge) (ho : ops[j]? = some o) (he : e ∈ o.after) (hb : Region.binds .any e = true) : Reach ops j e.on
  | more (j i : Nat) (o : Oper) (e : Edge) (ho : ops[j]? = some o) (he : e ∈ o.after) (hb : Region.binds .any e = true) (h : Reach ops e.on i) : Reach ops j i

theorem foldl_bit {α : Type} (f : Nat → α → Nat) (P : Prop) (i : Nat) (l : List α) (hf : ∀ s x, x ∈ l → (f s x).testBit i = true → s.testBit i = true ∨ P) : ∀ s, (l.foldl f s).testBit i = true → s.testBit i = true ∨ P := by
  induction l with
  | nil => intro s h; exact .inl h
  | cons x l ih =>
    intro s h
    rcases ih (fun s y hy => hf s y (by simp [hy])) _ h with h | h
    · exact hf s x (by simp) h
    · exact .inr h

theorem befs_reach (ops : Array Oper) : ∀ (l : List Oper) (acc : List Nat), (∀ (k : Nat), l[k]? = ops[acc.length + k]?) → (∀ j i, ((acc.getD j 0).testBit i) = true → Reach ops j i) → ∀ j i, (((befs l acc).getD j 0).testBit i) = true → Reach ops j i
  | [], acc, _, h => h
  | o :: l, acc, hl, h => by
    simp only [befs]
    refine befs_reach ops l _ (fun k => ?_) (fun j i hji => ?_)
    · have := hl (k + 1)
      simp only [List.getElem?_cons_succ] at this
      rw [this]; congr 1; simp; omega
    · by_cases hj : j < acc.length
      · rw [List.getD_eq_getElem?_getD, List.getElem?_append_left hj, ← List.getD_eq_getElem?_getD] at hji; exact h j i hji
      · by_cases hj2 : j = acc.length
        · subst hj2
          have ho : ops[acc.length]? = some o := by have := hl 0; simpa using this.symm
          have e0 : (acc ++ [o.after.toList.foldl (fun s e => if Region.binds .any e then s ||| 2 ^ e.on ||| acc.getD e.on 0 else s) 0]).getD acc.length 0 = o.after.toList.foldl (fun s e => if Region.binds .any e then s ||| 2 ^ e.on ||| acc.getD e.on 0 else s) 0 := by
            rw [List.getD_eq_getElem?_getD, List.getElem?_append_right (Nat.le_refl _)]; simp
          rw [e0] at hji
          have := foldl_bit _ (Reach ops acc.length i) i o.after.toList (fun s e he hb => by
            split at hb
            · rename_i hbd
              rw [Nat.testBit_or, Nat.testBit_or, Bool.or_eq_true, Bool.or_eq_true] at hb
              rcases hb with (hb | hb) | hb
              · exact .inl hb
              · rw [Nat.testBit_two_pow] at hb
                have hbe : e.on = i := by simpa using hb
                right
                rw [← hbe]
                exact .one acc.length o e ho (by simpa using he) hbd
              · right
                exact .more acc.length i o e ho (by simpa using he) hbd (h _ _ hb)
            · exact .inl hb) 0 hji
          rcases this with h0 | h0
          · simp at h0
          · exact h0
        · rw [List.getD_eq_getElem?_getD, List.getElem?_eq_none (by simp; omega)] at hji
          simp at hji

theorem ordd_reach {ops : Array Oper} {i j : Nat} (h : ordd (befs ops.toList []) i j = true) : Reach ops j i :=
  befs_reach ops ops.toList [] (fun k => by simp) (fun j i h => by simp at h) j i h

/-- what is listed is closed -/
def Closed (ops : Array Oper) (L : Array Bool) : Prop := ∀ j o, L.getD j false = true → ops[j]? = some o → ∀ e ∈ o.after, Region.binds .any e = true → L.getD e.on false = true

theorem Closed.reach {ops : Array Oper} {L : Array Bool} (h : Closed ops L) {j i : Nat} (hr : Reach ops j i) (hj : L.getD j false = true) : L.getD i false = true := by
  induction hr with
  | one j o e ho he hb => exact h j o hj ho e he hb
  | more j i o e ho he hb _ ih => exact ih (h j o hj ho e he hb)

/-- what hangs ahead of what is ready is listed -/
theorem Closed.ready {ops : Array Oper} {L : Array Bool} (h : Closed ops L) {j i : Nat} (hr : Reach ops j i) (hj : j ∈ Region.ready .any ops L) : L.getD i false = true := by
  obtain ⟨_, o, ho, hall⟩ := mem_ready.1 hj
  cases hr with
  | one _ o' e ho' he hb => rw [ho] at ho'; obtain rfl := Option.some.inj ho'; exact hall e he hb
  | more _ _ o' e ho' he hb hr => rw [ho] at ho'; obtain rfl := Option.some.inj ho'; exact h.reach hr (hall e he hb)

/-- the static facts of a region and of the order chosen -/
structure DGood (ops : Array Oper) (cis : List CI) (pm : List Nat) : Prop where
  nops : cis.length = ops.size
  npm : pm.length = ops.size
  edges : ∀ (j : Nat) o, ops[j]? = some o → ∀ e ∈ o.after, Region.binds .any e = true → e.on < j
  cover : ∀ (j : Nat), j < ops.size → ∃ p : Nat, pm[p]? = some j
  lt : ∀ (p j : Nat), pm[p]? = some j → j < ops.size
  inj : ∀ (p q j : Nat), pm[p]? = some j → pm[q]? = some j → p = q
  writer : ∀ (p q i j : Nat) (ci cj : CI), pm[p]? = some i → pm[q]? = some j → cis[i]? = some ci → cis[j]? = some cj → p ≠ q → ∀ d, ci.dst = some d →
    cj.dst ≠ some d ∧ (d ∈ cj.looks → if p < q then Reach ops j i else Reach ops i j)
  piv1 : ∀ (p q i j : Nat), pm[p]? = some i → pm[q]? = some j → isPiv cis (befs ops.toList []) i = true → p < q → Reach ops j i
  piv2 : ∀ (p q i j : Nat) (ci : CI), pm[p]? = some i → pm[q]? = some j → cis[i]? = some ci → isPiv cis (befs ops.toList []) j = true → p < q → ci.ins.indep = true ∨ Reach ops j i ∨
    (ci ∈ rch cis (befs ops.toList []) pm j ∧ ci.dst.isSome = true ∧ ∀ (p' k : Nat) (ck : CI) (t : Nat), p ≤ p' → p' < q → pm[p']? = some k → cis[k]? = some ck → ck.dst = some t → t ∉ ci.looks)

theorem mem_takeWhile {j i : Nat} : ∀ {pm : List Nat} {p : Nat}, pm[p]? = some i → (∀ p', p' ≤ p → pm[p']? ≠ some j) → i ∈ pm.takeWhile fun i => i != j
  | [], p, h, _ => by simp at h
  | a :: pm, 0, h, hn => by
    have h0 := hn 0 (Nat.le_refl _)
    simp at h h0
    subst h
    have h1 : (a != j) = true := by simpa using h0
    simp only [List.takeWhile, h1, List.mem_cons, true_or]
  | a :: pm, p + 1, h, hn => by
    have h0 := hn 0 (Nat.zero_le _)
    simp at h h0
    have := mem_takeWhile (j := j) h (fun p' hp' => by have := hn (p' + 1) (by omega); simpa using this)
    have h1 : (a != j) = true := by simpa using h0
    simp only [List.takeWhile, h1, List.mem_cons]
    exact .inr this

theorem drawOK_good {ops : Array Oper} {cis : List CI} {pm : List Nat} (h : drawOK ops cis (befs ops.toList []) pm = true) : DGood ops cis pm := by
  simp only [drawOK, Bool.and_eq_true, beq_iff_eq, List.all_eq_true, List.mem_range, decide_eq_true_eq, List.contains_eq_mem] at h
  obtain ⟨⟨⟨⟨⟨⟨h1, h2⟩, h3⟩, h4⟩, h5⟩, h6⟩, h7⟩ := h
  have lt : ∀ (p j : Nat), pm[p]? = some j → j < cis.length := fun p j hp => h5 j (List.mem_of_getElem? hp)
  have pl : ∀ (p j : Nat), pm[p]? = some j → p < pm.length := fun p j hp => (List.getElem?_eq_some_iff.1 hp).1
  have key : ∀ (p q i j : Nat) (ci cj : CI), pm[p]? = some i → pm[q]? = some j → cis[i]? = some ci → cis[j]? = some cj → _ := fun p q i j ci cj hp hq hi hj => by
    have := h7 q (pl q j hq) p (pl p i hp)
    simp only [hp, hq, hi, hj] at this
    exact this
  refine ⟨h3, h2.trans h3, ?_, ?_, ?_, ?_, ?_, ?_, ?_⟩
  · intro j o ho e he hb
    have hj : j < ops.size := (Array.getElem?_eq_some_iff.1 ho).1
    have := h1
    simp only [edgesOK, List.all_eq_true, List.mem_range] at this
    have := this j hj
    simp only [ho, List.all_eq_true] at this
    have := this e (by simpa using he)
    simpa [hb] using this
  · intro j hj
    exact List.getElem?_of_mem (h4 j (by rw [h3]; exact hj))
  · intro p j hp; rw [← h3]; exact lt p j hp
  · intro p q j hp hq
    have := h6 p (pl p j hp) q (pl q j hq)
    simp only [Bool.or_eq_true, beq_iff_eq, bne_iff_ne, ne_eq] at this
    rcases this with h | h
    · exact h
    · exfalso; apply h
      rw [List.getD_eq_getElem?_getD, List.getD_eq_getElem?_getD, hp, hq]
  · intro p q i j ci cj hp hq hi hj hne d hd
    have hk := key p q i j ci cj hp hq hi hj
    simp only [Bool.and_eq_true, hd] at hk
    have hw := hk.1.1.1
    simp only [Bool.or_eq_true, beq_iff_eq, Bool.and_eq_true, bne_iff_ne, ne_eq, Bool.not_eq_true', List.contains_eq_mem, decide_eq_false_iff_not] at hw
    rcases hw with h | ⟨hw1, hw2⟩
    · exact absurd h hne
    · refine ⟨hw1, fun hl => ?_⟩
      rcases hw2 with h | h
      · exact absurd hl h
      · split at h
        · rename_i hpq; rw [if_pos hpq]; exact ordd_reach h
        · rename_i hpq; rw [if_neg hpq]; exact ordd_reach h
  · intro p q i j hp hq hpiv hpq
    have hi : cis[i]? = some (cis[i]'(lt p i hp)) := List.getElem?_eq_getElem _
    have hj : cis[j]? = some (cis[j]'(lt q j hq)) := List.getElem?_eq_getElem _
    have hk := key p q i j _ _ hp hq hi hj
    simp only [Bool.and_eq_true] at hk
    have := hk.1.2
    simp only [hpiv, hpq, decide_true, Bool.not_true, Bool.false_or] at this
    exact ordd_reach this
  · intro p q i j ci hp hq hi hpiv hpq
    have hj : cis[j]? = some (cis[j]'(lt q j hq)) := List.getElem?_eq_getElem _
    have hk := key p q i j ci _ hp hq hi hj
    simp only [Bool.and_eq_true] at hk
    have := hk.2
    simp only [hpiv, hpq, decide_true, Bool.not_true, Bool.false_or, Bool.or_eq_true] at this
    rcases this with (h | h) | h
    · exact .inl h
    · exact .inr (.inl (ordd_reach h))
    · by_cases hin : ci.ins.indep = true
      · exact .inl hin
      by_cases ho : ordd (befs ops.toList []) i j = true
      · exact .inr (.inl (ordd_reach ho))
      refine .inr (.inr ?_)
      simp only [Bool.and_eq_true, Bool.not_eq_true'] at h
      obtain ⟨⟨h1, h2⟩, h3⟩ := h
      refine ⟨?_, h2, ?_⟩
      · refine List.mem_filterMap.2 ⟨i, mem_takeWhile hp (fun p' hp' hj' => ?_), ?_⟩
        · have h8 := h6 p' (pl p' j hj') q (pl q j hq)
          simp only [Bool.or_eq_true, beq_iff_eq, bne_iff_ne, ne_eq] at h8
          rcases h8 with h8 | h8
          · omega
          · apply h8; rw [List.getD_eq_getElem?_getD, List.getD_eq_getElem?_getD, hj', hq]
        · simp only [hi]
          rw [if_neg]
          simp only [Bool.or_eq_true, not_or]
          exact ⟨⟨hin, ho⟩, by rw [h1]; simp⟩
      · intro p' k ck t hpp hpq' hk hck hd
        simp only [unwr, List.all_eq_true] at h3
        have hm : k ∈ (pm.take q).drop p := by
          refine List.mem_of_getElem? (i := p' - p) ?_
          rw [List.getElem?_drop, List.getElem?_take, if_pos (by omega), show p + (p' - p) = p' from by omega]
          exact hk
        have := h3 k hm
        rw [List.getD_eq_getElem?_getD, hck] at this
        simp only [Option.getD_some, hd, Bool.not_eq_true', List.contains_eq_mem, decide_eq_false_iff_not] at this
        exact this

end Go.KL
