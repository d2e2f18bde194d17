/- Regions in any order. -/
import Derived.Test.YtjjdfplonbgpbaaDoorKL16
set_option linter.unusedVariables false
set_option linter.unusedSimpArgs false
namespace Go.KL
open Go Go.RowKit

/-! ### what a step looks at -/

theorem ev_congr {E : Env} {fr fr' : List (Nat × D)} {x : Opd} (h : ∀ t ∈ x.slots, get fr t = get fr' t) : ev E fr x = ev E fr' x := by
  cases x with
  | t i => exact h i (by simp [Opd.slots])
  | k d => rfl
  | g i => rfl

theorem evs_congr {E : Env} {fr fr' : List (Nat × D)} : ∀ {xs : List Opd}, (∀ t ∈ slotsL xs, get fr t = get fr' t) → evs E fr xs = evs E fr' xs
  | [], _ => rfl
  | x :: xs, h => by
    simp only [evs]
    rw [ev_congr (fun t ht => h t (by simp [slotsL, ht])), evs_congr (fun t ht => h t (by simp [slotsL, ht]))]

theorem evP_congr {E : Env} {fr fr' : List (Nat × D)} : ∀ {xs : List (Nat × Nat × Opd)}, (∀ t ∈ slotsP xs, get fr t = get fr' t) → evP E fr xs = evP E fr' xs
  | [], _ => rfl
  | (o, s, x) :: xs, h => by
    simp only [evP]
    rw [ev_congr (fun t ht => h t (by simp [slotsP, ht])), evP_congr (fun t ht => h t (by simp [slotsP, ht]))]

theorem evQ_congr {E : Env} {fr fr' : List (Nat × D)} : ∀ {xs : List (Nat × Opd)}, (∀ t ∈ slotsQ xs, get fr t = get fr' t) → evQ E fr xs = evQ E fr' xs
  | [], _ => rfl
  | (o, x) :: xs, h => by
    simp only [evQ]
    rw [ev_congr (fun t ht => h t (by simp [slotsQ, ht])), evQ_congr (fun t ht => h t (by simp [slotsQ, ht]))]

theorem evO_congr {E : Env} {fr fr' : List (Nat × D)} {x : Option Opd} (h : ∀ t ∈ slotsO x, get fr t = get fr' t) : x.map (ev E fr) = x.map (ev E fr') := by
  cases x with
  | none => rfl
  | some x => exact congrArg some (ev_congr (fun t ht => h t (by simpa [slotsO] using ht)))

theorem pv_congr {E : Env} {fr fr' : List (Nat × D)} {S : List O} {i : Ins} (h : ∀ t ∈ i.slots, get fr t = get fr' t) : pv E fr S i = pv E fr' S i := by
  cases i <;> simp only [Ins.slots, List.mem_append] at h <;> simp only [pv]
  case mv x => rw [ev_congr h]
  case pick c a b => rw [ev_congr (fun t ht => h t (.inl ht)), ev_congr (x := a) (fun t ht => h t (.inr (.inl ht))), ev_congr (x := b) (fun t ht => h t (.inr (.inr ht)))]
  case build zs ps => rw [evP_congr h]
  case buildS n sz zs ps e => rw [evQ_congr h]
  case ld n ag x => rw [ev_congr h]
  case nilck x => rw [ev_congr h]
  case bin op q x y => rw [ev_congr (fun t ht => h t (.inl ht)), ev_congr (x := y) (fun t ht => h t (.inr ht))]
  case un op x => rw [ev_congr h]
  case conv k x => rw [ev_congr h]
  case convS x => rw [ev_congr h]
  case b2s x => rw [ev_congr h]
  case mkfn f xs => rw [evs_congr h]
  case fa off x => rw [ev_congr h]
  case fd off n ag x => rw [ev_congr h]
  case ia sz x i => rw [ev_congr (fun t ht => h t (.inl ht)), ev_congr (x := i) (fun t ht => h t (.inr ht))]
  case iaA len sz x i => rw [ev_congr (fun t ht => h t (.inl ht)), ev_congr (x := i) (fun t ht => h t (.inr ht))]
  case ixA len sz ag x i => rw [ev_congr (fun t ht => h t (.inl ht)), ev_congr (x := i) (fun t ht => h t (.inr ht))]
  case ixS x i => rw [ev_congr (fun t ht => h t (.inl ht)), ev_congr (x := i) (fun t ht => h t (.inr ht))]
  case slS x lo hi => rw [ev_congr (fun t ht => h t (.inl ht)), evO_congr (x := lo) (fun t ht => h t (.inr (.inl ht))), evO_congr (x := hi) (fun t ht => h t (.inr (.inr ht)))]
  case slL sz x lo hi mx => rw [ev_congr (fun t ht => h t (.inl ht)), evO_congr (x := lo) (fun t ht => h t (.inr (.inl ht))), evO_congr (x := hi) (fun t ht => h t (.inr (.inr (.inl ht)))), evO_congr (x := mx) (fun t ht => h t (.inr (.inr (.inr ht))))]
  case ext i x => rw [ev_congr h]
  case len q x => rw [ev_congr h]
  case mm mx xs => rw [evs_congr h]
  case mget kt z ok x k => rw [ev_congr (fun t ht => h t (.inl ht)), ev_congr (x := k) (fun t ht => h t (.inr ht))]
  case ent x => rw [ev_congr h]
  case mkbm f xs ys => rw [evs_congr (xs := xs) (fun t ht => h t (.inl ht)), evs_congr (xs := ys) (fun t ht => h t (.inr ht))]

theorem aop_congr {E : Env} {fr fr' : List (Nat × D)} {S : List O} {tk : Tks} {K : D → List O → Tks → Prop} {i : Ins} (h : ∀ t ∈ i.slots, get fr t = get fr' t) : aop E i fr S tk K = aop E i fr' S tk K := by
  cases hp : isPure i with
  | true => rw [aop_pure hp, aop_pure hp, pv_congr h]
  | false =>
    cases i <;> simp [isPure] at hp <;> simp only [Ins.slots, List.mem_append] at h <;> simp only [aop]
    case box x T => rw [ev_congr h]
    case st n x v => rw [ev_congr (fun t ht => h t (.inl ht)), ev_congr (x := v) (fun t ht => h t (.inr ht))]
    case app T e sz bytes zs x y => rw [ev_congr (fun t ht => h t (.inl ht)), ev_congr (x := y) (fun t ht => h t (.inr ht))]
    case call f xs => rw [evs_congr h]
    case callv x xs => rw [ev_congr (fun t ht => h t (.inl ht)), evs_congr (fun t ht => h t (.inr ht))]
    case extn f xs => rw [evs_congr h]
    case mset kt x k v => rw [ev_congr (fun t ht => h t (.inl ht)), ev_congr (x := k) (fun t ht => h t (.inr (.inl ht))), ev_congr (x := v) (fun t ht => h t (.inr (.inr ht)))]
    case ment kt z x k => rw [ev_congr (fun t ht => h t (.inl ht)), ev_congr (x := k) (fun t ht => h t (.inr ht))]
    case mest x s v => rw [ev_congr (fun t ht => h t (.inl ht)), ev_congr (x := s) (fun t ht => h t (.inr (.inl ht))), ev_congr (x := v) (fun t ht => h t (.inr (.inr ht)))]
    case mdel kt x k => rw [ev_congr (fun t ht => h t (.inl ht)), ev_congr (x := k) (fun t ht => h t (.inr ht))]
    case rngM x => rw [ev_congr h]
    case nxt x => rw [ev_congr h]
    case mksl e sz bytes zs l c => rw [ev_congr (fun t ht => h t (.inl ht)), ev_congr (x := c) (fun t ht => h t (.inr ht))]

theorem gD_congr {E : Env} {fr fr' : List (Nat × D)} {S : List O} {tk : Tks} {K : D → List O → Tks → Prop} {ci : CI} (h : ∀ t ∈ ci.looks, get fr t = get fr' t) : gD E ci fr S tk K = gD E ci fr' S tk K := by
  unfold gD
  have h1 : aop E ci.ins fr S tk K = aop E ci.ins fr' S tk K := aop_congr fun t ht => h t (by simp [CI.looks, ht])
  cases hg : ci.grd with
  | none => exact h1
  | some p =>
    obtain ⟨t, b⟩ := p
    simp only
    rw [h t (by simp [CI.looks, hg]), h1]

theorem ACalls.weaken {E : Env} {f : FuncId} {ds : List D} {S : List O} {tk : Tks} {P1 P2 : D → List O → Tks → Prop} (h : ACalls E f ds S tk P1) (hp : ∀ r S' tk', P1 r S' tk' → P2 r S' tk') : ACalls E f ds S tk P2 := h.mono hp

theorem pv_indep {E : Env} {fr : List (Nat × D)} {S S' : List O} {i : Ins} (h : i.indep = true) : pv E fr S i = pv E fr S' i := by
  cases i <;> simp only [Ins.indep, reduceCtorEq, Bool.false_eq_true, Bool.or_eq_true, beq_iff_eq] at h <;> simp only [pv]
  case len q x => rcases h with rfl | rfl <;> rfl

/-- one step that answers d and changes no object -/
def Fact (E : Env) (ci : CI) (fr : List (Nat × D)) (S : List O) (tk : Tks) (d : D) : Prop := gD E ci fr S tk fun r S' tk' => r = d ∧ S' = S ∧ tk' = tk

theorem aq1_fact {E : Env} {i : Ins} {fr : List (Nat × D)} {S : List O} {tk : Tks} {K : D → Prop} (h : aq1 E i fr S tk K) : ∃ d, aop E i fr S tk (fun r S' tk' => r = d ∧ S' = S ∧ tk' = tk) ∧ K d := by
  have pure : ∀ (hp : isPure i = true), (match pv E fr S i with | some d => K d | none => False) → ∃ d, aop E i fr S tk (fun r S' tk' => r = d ∧ S' = S ∧ tk' = tk) ∧ K d := by
    intro hp h
    split at h
    · rename_i d hd
      exact ⟨d, by rw [aop_pure hp, hd]; exact ⟨rfl, rfl, rfl⟩, h⟩
    · exact h.elim
  cases i
  case call f xs => exact h
  case callv x xs =>
    simp only [aq1] at h
    split at h
    · rename_i f caps he
      obtain ⟨h1, d, h2, h3⟩ := h
      exact ⟨d, by simp only [aop, he]; exact ⟨h1, h2⟩, h3⟩
    · rename_i f fs caps he
      obtain ⟨h1, d, h2, h3⟩ := h
      exact ⟨d, by simp only [aop, he]; exact ⟨h1, h2⟩, h3⟩
    · exact h.elim
  case extn f xs =>
    obtain ⟨d, h1, h2⟩ := h
    exact ⟨d, ⟨d, h1, rfl, rfl, rfl⟩, h2⟩
  all_goals first
    | exact pure rfl h
    | exact h.elim

theorem gQ_fact {E : Env} {ci : CI} {fr : List (Nat × D)} {S : List O} {tk : Tks} {K : D → Prop} (h : gQ E ci fr S tk K) : ∃ d, Fact E ci fr S tk d ∧ K d := by
  unfold gQ at h
  unfold Fact gD
  cases hg : ci.grd with
  | none => rw [hg] at h; exact aq1_fact h
  | some p =>
    obtain ⟨t, b⟩ := p
    rw [hg] at h
    simp only at h ⊢
    split at h
    · rename_i b' hb
      by_cases hbb : b' = b
      · obtain ⟨d, h1, h2⟩ := aq1_fact (h.1 hbb)
        exact ⟨d, ⟨fun _ => h1, fun hn => absurd hbb hn⟩, h2⟩
      · exact ⟨.und, ⟨fun he => absurd he hbb, fun _ => ⟨rfl, trivial, trivial⟩⟩, h.2 hbb⟩
    · exact ⟨.und, ⟨rfl, trivial, trivial⟩, h⟩
    · exact h.elim

theorem Fact.indep {E : Env} {ci : CI} {fr : List (Nat × D)} {S S' : List O} {tk tk' : Tks} {d : D} (h : Fact E ci fr S tk d) (hi : ci.ins.indep = true) : Fact E ci fr S' tk' d := by
  have hp : isPure ci.ins = true := by
    generalize ci.ins = i at hi
    cases i <;> first | rfl | (simp [Ins.indep] at hi)
  have key : aop E ci.ins fr S tk (fun r S' tk' => r = d ∧ S' = S ∧ tk' = tk) → aop E ci.ins fr S' tk' (fun r S2 tk2 => r = d ∧ S2 = S' ∧ tk2 = tk') := by
    intro h
    rw [aop_pure hp] at h ⊢
    rw [pv_indep (S' := S) hi]
    split at h
    · rename_i e he; exact ⟨h.1, rfl, rfl⟩
    · exact h.elim
  unfold Fact gD at h ⊢
  cases hg : ci.grd with
  | none => rw [hg] at h; exact key h
  | some p =>
    obtain ⟨t, b⟩ := p
    rw [hg] at h
    simp only at h ⊢
    split at h
    · rename_i b' hb
      exact ⟨fun he => key (h.1 he), fun hn => ⟨(h.2 hn).1, trivial, trivial⟩⟩
    · exact ⟨h.1, trivial, trivial⟩
    · exact h.elim

end Go.KL
