/- Shifts: what may be said otherwise without a step. -/
import Derived.Test.YtjjdfplonbgpbaaDoorKL20
set_option linter.unusedVariables false
set_option linter.unusedSimpArgs false
namespace Go.KL
open Go Go.RowKit

/-- what is read as d may be read as d' -/
def Sub (d d' : D) : Prop := ∀ c v, V c v d → V c v d'

theorem Sub.refl (d : D) : Sub d d := fun _ _ h => h
theorem Sub.top (d : D) : Sub d .top := fun _ v _ => .top v
theorem Sub.rd {d : D} {es : List (List D)} (h : d.rd = some es) : Sub d (.sl es) := fun _ _ hv => hv.rd h

inductive SubL : List D → List D → Prop
  | nil : SubL [] []
  | cons {d d' l l'} (h : Sub d d') (t : SubL l l') : SubL (d :: l) (d' :: l')

theorem SubL.spec {l l' : List D} (h : SubL l l') : l.length = l'.length ∧ ∀ (j : Nat) d d', l[j]? = some d → l'[j]? = some d' → Sub d d' := by
  induction h with
  | nil => exact ⟨rfl, fun j d d' h => by simp at h⟩
  | cons h t ih =>
    refine ⟨by simp [ih.1], fun j d d' h1 h2 => ?_⟩
    cases j with
    | zero => simp at h1 h2; subst h1; subst h2; exact h
    | succ j => exact ih.2 j d d' (by simpa using h1) (by simpa using h2)
theorem SubL.refl : ∀ l, SubL l l
  | [] => .nil
  | d :: l => .cons (Sub.refl d) (SubL.refl l)

theorem Sub.agg {l l' : List D} (h : SubL l l') : Sub (.agg l) (.agg l') := fun c v hv => by
  obtain ⟨h1, h2⟩ := h.spec
  obtain ⟨cs, rfl, hc1, hc2⟩ := hv.aggInv
  refine .agg cs l' (by rw [hc1, h1]) fun j v d' k1 k2 => ?_
  have hj : j < l.length := by rw [h1]; exact (List.getElem?_eq_some_iff.1 k2).1
  exact h2 j _ d' (List.getElem?_eq_getElem hj) k2 c v (hc2 j v _ k1 (List.getElem?_eq_getElem hj))

theorem Sub.tup {l l' : List D} (h : SubL l l') : Sub (.tup l) (.tup l') := fun c v hv => by
  obtain ⟨h1, h2⟩ := h.spec
  obtain ⟨cs, rfl, hc1, hc2⟩ := hv.tupInv
  refine .tup cs l' (by rw [hc1, h1]) fun j v d' k1 k2 => ?_
  have hj : j < l.length := by rw [h1]; exact (List.getElem?_eq_some_iff.1 k2).1
  exact h2 j _ d' (List.getElem?_eq_getElem hj) k2 c v (hc2 j v _ k1 (List.getElem?_eq_getElem hj))

/-- each slot of the new frame may be read so -/
def FrLe (fr : List (Nat × D)) : List (Nat × D) → Prop
  | [] => True
  | (t, d) :: r => Sub (get fr t) d ∧ FrLe fr r

theorem FrLe.get {fr : List (Nat × D)} : ∀ {fr' : List (Nat × D)}, FrLe fr fr' → ∀ t, Sub (get fr t) (get fr' t)
  | [], _, t => Sub.top _
  | (u, d) :: r, h, t => by
    simp only [KL.get]
    split
    · rename_i he; rw [← he]; exact h.1
    · exact FrLe.get h.2 t

theorem FRel.le {c : Cfg} {tmps : Array Value} {fr fr' : List (Nat × D)} (h : FRel c tmps fr) (hl : FrLe fr fr') : FRel c tmps fr' := fun t => hl.get t c _ (h t)

def frSc (n m : Nat) : List (Nat × D) → Bool
  | [] => true
  | (_, d) :: r => d.sc n m && frSc n m r

theorem frSc_get {n m : Nat} : ∀ {fr : List (Nat × D)}, frSc n m fr = true → ∀ t, (get fr t).sc n m = true
  | [], _, t => rfl
  | (u, d) :: r, h, t => by
    simp only [frSc, Bool.and_eq_true] at h
    simp only [get]
    split
    · exact h.1
    · exact frSc_get h.2 t

/-- slots are forgotten, and the last objects and tokens -/
theorem Shift.drop {E : Env} {n0 m0 : Nat} {fr fr' : List (Nat × D)} {S J : List O} {tk J' : Tks} (hl : FrLe fr fr') (hn : n0 ≤ S.length) (hm : m0 ≤ tk.length) (hsc : frSc S.length tk.length fr' = true) (hS : OSc S.length tk.length S) :
    Shift E n0 m0 ⟨fr, S ++ J, tk ++ J'⟩ ⟨fr', S, tk⟩ := by
  intro B w0 c0 c w tmps h0 h1 h2 hr hf
  have hcut := hr.s.cut S.length tk.length (by simp) (by simp) (fun i o hi ho => by
    rw [List.getElem?_append_left hi] at ho; exact hS i o ho)
  rw [List.take_left, List.take_left] at hcut
  have hle : c0.Le (c.cut S.length tk.length) := ⟨h0.F, by simp only [Cfg.cut]; omega, h0.μ, by simp only [Cfg.cut]; omega, h0.τ, h0.ν, h0.dd⟩
  exact ⟨_, hle, ⟨hcut, fun g e he => (hr.g g e he).cut (by simp only [D.sc]; exact E.hG g e he _ _)⟩, fun t => ((hf.le hl) t).cut (frSc_get hsc t), fun _ h => h⟩

/-- slots are forgotten -/
theorem Shift.frame {E : Env} {n0 m0 : Nat} {fr fr' : List (Nat × D)} {S : List O} {tk : Tks} (hl : FrLe fr fr') : Shift E n0 m0 ⟨fr, S, tk⟩ ⟨fr', S, tk⟩ := by
  intro B w0 c0 c w tmps h0 h1 h2 hr hf
  exact ⟨c, h0, hr, hf.le hl, fun _ h => h⟩

/-- a slice that is empty, or of no capacity, is to grow -/
theorem Shift.newtok {E : Env} {n0 m0 : Nat} {fr fr' : List (Nat × D)} {S : List O} {tk : Tks} (e : TypeId) (sz : Nat) {t : Nat} (ht : get fr t = .nilsl ∨ get fr t = .full []) (hl : FrLe ((t, .gsl [] tk.length) :: fr) fr') :
    Shift E n0 m0 ⟨fr, S, tk⟩ ⟨fr', S, tk ++ [(0, e, sz)]⟩ := by
  intro B w0 c0 c w tmps h0 h1 h2 hr hf
  obtain ⟨c', k1, k2, k3, k4⟩ := hr.s.newtok e sz
  refine ⟨c', h0.trans k1, ⟨k4, hr.g.mono k1⟩, FRel.le (fun u => ?_) hl, k1.dd⟩
  simp only [get]
  split
  · rename_i he
    subst he
    obtain ⟨A, hA⟩ : ∃ A, tmps.getD t undef = .slice A 0 0 := by
      have := hf t
      rcases ht with ht | ht <;> rw [ht] at this
      · exact ⟨_, this.nilslInv⟩
      · generalize tmps.getD t undef = v at this
        cases this with
        | fullnil => exact ⟨_, rfl⟩
        | full a es sz vs _ _ _ => exact ⟨_, rfl⟩
    rw [hA, ← hr.s.mT]
    exact k3 A
  · exact (hf u).mono k1

/-- what an object is read as when it is held fast -/
inductive Frz (id : Nat) (cs : List D) : D → D → Prop
  | refl (d) : Frz id cs d d
  | osl (off n sz) (h : off + n * sz ≤ cs.length) : Frz id cs (.osl id off n sz) (.sl (chunks sz n (cs.drop off)))
  | po (off) : Frz id cs (.po id off) (.pe cs off)
  | agg {l l'} (hn : l.length = l'.length) (h : ∀ (j : Nat) d d', l[j]? = some d → l'[j]? = some d' → Frz id cs d d') : Frz id cs (.agg l) (.agg l')
  | tup {l l'} (hn : l.length = l'.length) (h : ∀ (j : Nat) d d', l[j]? = some d → l'[j]? = some d' → Frz id cs d d') : Frz id cs (.tup l) (.tup l')

theorem Shift.freeze {E : Env} {n0 m0 : Nat} {fr fr' : List (Nat × D)} {S : List O} {tk : Tks} {id : Nat} {cs : List D} (hd : S[id]? = some (.arr cs)) {t : Nat} {d' : D} (hf : Frz id cs (get fr t) d') (hl : FrLe ((t, d') :: fr) fr') :
    Shift E n0 m0 ⟨fr, S, tk⟩ ⟨fr', S.set id .dead, tk⟩ := by
  intro B w0 c0 c w tmps h0 h1 h2 hr hfr
  obtain ⟨c', k1, k2, k3, k4⟩ := hr.s.freeze hd
  have key : ∀ d d', Frz id cs d d' → ∀ v, V c v d → V c' v d' := by
    intro d d' h
    induction h with
    | refl d => exact fun v hv => hv.mono k1
    | osl off n sz h => exact fun v hv => k3 v off n sz hv h
    | po off => exact fun v hv => k4 v off hv
    | @agg l l' hn h ih =>
      intro v hv
      obtain ⟨vs, rfl, g1, g2⟩ := hv.aggInv
      refine .agg vs l' (by rw [g1, hn]) fun j v e a1 a2 => ?_
      have hj : j < l.length := by rw [hn]; exact (List.getElem?_eq_some_iff.1 a2).1
      exact ih j _ e (List.getElem?_eq_getElem hj) a2 v (g2 j v _ a1 (List.getElem?_eq_getElem hj))
    | @tup l l' hn h ih =>
      intro v hv
      obtain ⟨vs, rfl, g1, g2⟩ := hv.tupInv
      refine .tup vs l' (by rw [g1, hn]) fun j v e a1 a2 => ?_
      have hj : j < l.length := by rw [hn]; exact (List.getElem?_eq_some_iff.1 a2).1
      exact ih j _ e (List.getElem?_eq_getElem hj) a2 v (g2 j v _ a1 (List.getElem?_eq_getElem hj))
  refine ⟨c', h0.trans k1, ⟨k2, hr.g.mono k1⟩, FRel.le (fun u => ?_) hl, k1.dd⟩
  simp only [get]
  split
  · rename_i he; subst he; exact key _ _ hf _ (hfr t)
  · exact (hfr u).mono k1

/-- a slice that is empty is to grow as a row of the call's own -/
theorem Shift.newvec {E : Env} {n0 m0 : Nat} {fr fr' : List (Nat × D)} {S : List O} {tk : Tks} (e : TypeId) (sz : Nat) {t : Nat} (ht : get fr t = .nilsl ∨ get fr t = .full []) (hl : FrLe ((t, .vec S.length 0 sz) :: fr) fr') :
    Shift E n0 m0 ⟨fr, S, tk⟩ ⟨fr', S ++ [.vec [] e sz], tk⟩ := by
  intro B w0 c0 c w tmps h0 h1 h2 hr hf
  obtain ⟨c', k1, k2, k3, k4⟩ := hr.s.newvec e sz
  refine ⟨c', h0.trans k1, ⟨k4, hr.g.mono k1⟩, FRel.le (fun u => ?_) hl, k1.dd⟩
  simp only [get]
  split
  · rename_i he
    subst he
    obtain ⟨A, hA⟩ : ∃ A, tmps.getD t undef = .slice A 0 0 := by
      have := hf t
      rcases ht with ht | ht <;> rw [ht] at this
      · exact ⟨_, this.nilslInv⟩
      · generalize tmps.getD t undef = v at this
        cases this with
        | fullnil => exact ⟨_, rfl⟩
        | full a es sz vs _ _ _ => exact ⟨_, rfl⟩
    rw [hA, ← hr.s.nS]
    exact k3 A
  · exact (hf u).mono k1

inductive VFrz (id : Nat) (es : List (List D)) : D → D → Prop
  | refl (d) : VFrz id es d d
  | vec (sz) : VFrz id es (.vec id es.length sz) (.sl es)
  | agg {l l'} (hn : l.length = l'.length) (h : ∀ (j : Nat) d d', l[j]? = some d → l'[j]? = some d' → VFrz id es d d') : VFrz id es (.agg l) (.agg l')
  | tup {l l'} (hn : l.length = l'.length) (h : ∀ (j : Nat) d d', l[j]? = some d → l'[j]? = some d' → VFrz id es d d') : VFrz id es (.tup l) (.tup l')

theorem Shift.vfreeze {E : Env} {n0 m0 : Nat} {fr fr' : List (Nat × D)} {S : List O} {tk : Tks} {id : Nat} {es : List (List D)} {e : TypeId} {sz : Nat} (hd : S[id]? = some (.vec es e sz)) {t : Nat} {d' : D} (hf : VFrz id es (get fr t) d') (hl : FrLe ((t, d') :: fr) fr') :
    Shift E n0 m0 ⟨fr, S, tk⟩ ⟨fr', S.set id .dead, tk⟩ := by
  intro B w0 c0 c w tmps h0 h1 h2 hr hfr
  obtain ⟨c', k1, k2, k3⟩ := hr.s.vfreeze hd
  have key : ∀ d d', VFrz id es d d' → ∀ v, V c v d → V c' v d' := by
    intro d d' h
    induction h with
    | refl d => exact fun v hv => hv.mono k1
    | vec sz => exact fun v hv => k3 v sz hv
    | @agg l l' hn h ih =>
      intro v hv
      obtain ⟨vs, rfl, g1, g2⟩ := hv.aggInv
      refine .agg vs l' (by rw [g1, hn]) fun j v e a1 a2 => ?_
      have hj : j < l.length := by rw [hn]; exact (List.getElem?_eq_some_iff.1 a2).1
      exact ih j _ e (List.getElem?_eq_getElem hj) a2 v (g2 j v _ a1 (List.getElem?_eq_getElem hj))
    | @tup l l' hn h ih =>
      intro v hv
      obtain ⟨vs, rfl, g1, g2⟩ := hv.tupInv
      refine .tup vs l' (by rw [g1, hn]) fun j v e a1 a2 => ?_
      have hj : j < l.length := by rw [hn]; exact (List.getElem?_eq_some_iff.1 a2).1
      exact ih j _ e (List.getElem?_eq_getElem hj) a2 v (g2 j v _ a1 (List.getElem?_eq_getElem hj))
  refine ⟨c', h0.trans k1, ⟨k2, hr.g.mono k1⟩, FRel.le (fun u => ?_) hl, k1.dd⟩
  simp only [get]
  split
  · rename_i he; subst he; exact key _ _ hf _ (hfr t)
  · exact (hfr u).mono k1

theorem appP_mono {e : TypeId} {sz bytes : Nat} {src : List (List D)} {S : List O} {tk : Tks} {K K' : D → List O → Tks → Prop} {d : D} (h : ∀ d S tk, K d S tk → K' d S tk) (hp : appP e sz bytes src S tk K d) : appP e sz bytes src S tk K' d := by
  unfold appP at hp ⊢
  split at hp
  · exact ⟨hp.1, h _ _ _ hp.2⟩
  · split at hp
    · exact ⟨hp.1, h _ _ _ hp.2⟩
    · exact hp.elim
  · exact ⟨hp.1, hp.2.imp (h _ _ _) (h _ _ _)⟩
  · exact ⟨hp.1, hp.2.imp (h _ _ _) (h _ _ _)⟩
  · exact ⟨hp.1, h _ _ _ hp.2⟩
  · rename_i es hne
    cases es with
    | nil => exact absurd rfl hne
    | cons a b => exact ⟨hp.1, h _ _ _ hp.2⟩
  · exact hp.elim

theorem nxtP_mono {S : List O} {tk : Tks} {K K' : D → List O → Tks → Prop} {d : D} (h : ∀ d S tk, K d S tk → K' d S tk) (hp : nxtP S tk K d) : nxtP S tk K' d := by
  unfold nxtP at hp ⊢
  split at hp
  · split at hp
    · split at hp
      · exact ⟨hp.1, fun p a b => h _ _ _ (hp.2.1 p a b), fun a => h _ _ _ (hp.2.2 a)⟩
      · exact hp.elim
    · exact h _ _ _ hp
    · exact hp.elim
  · exact hp.elim

theorem AYields.mono {E : Env} {id : Nat} {ds : List D} {S : List O} {tk : Tks} {P1 P2 : D → List O → Tks → Prop} (h : AYields E id ds S tk P1) (hp : ∀ r S' tk', P1 r S' tk' → P2 r S' tk') : AYields E id ds S tk P2 := by
  intro B w0 c w vs hr hv
  obtain ⟨fn, tmps, a, b, h1, h2⟩ := h B w0 c w vs hr hv
  exact ⟨fn, tmps, a, b, h1, h2.mono fun e w' ⟨v, c', r, S', tk', h1, h2, h3, h4, h5⟩ => ⟨v, c', r, S', tk', h1, h2, h3, h4, hp _ _ _ h5⟩⟩

theorem aop_mono {E : Env} {i : Ins} {fr : List (Nat × D)} {S : List O} {tk : Tks} {K K' : D → List O → Tks → Prop} (h : ∀ d S tk, K d S tk → K' d S tk) (hp : aop E i fr S tk K) : aop E i fr S tk K' := by
  cases hpi : isPure i with
  | true =>
    rw [aop_pure hpi] at hp ⊢
    split at hp
    · exact h _ _ _ hp
    · exact hp.elim
  | false =>
    cases i <;> simp [isPure] at hpi <;> simp only [aop] at hp ⊢
    case alloc => exact h _ _ _ hp
    case box => exact ⟨hp.1, h _ _ _ hp.2⟩
    case st =>
      split at hp
      · split at hp
        · exact ⟨hp.1, h _ _ _ hp.2⟩
        · exact hp.elim
      · split at hp
        · obtain ⟨row, h1, h2, h3⟩ := hp; exact ⟨row, h1, h2, h _ _ _ h3⟩
        · exact hp.elim
      · exact hp.elim
    case app =>
      split at hp
      · exact appP_mono h hp
      · exact hp.elim
    case call => exact hp.mono h
    case callv =>
      split at hp
      · exact ⟨hp.1, hp.2.mono h⟩
      · exact ⟨hp.1, hp.2.mono h⟩
      · exact hp.mono h
      · exact hp.elim
    case extn => obtain ⟨d, h1, h2⟩ := hp; exact ⟨d, h1, h _ _ _ h2⟩
    case mkmap => exact h _ _ _ hp
    case mset =>
      split at hp
      · split at hp
        · exact ⟨hp.1, h _ _ _ hp.2⟩
        · exact hp.elim
      · exact hp.elim
    case ment =>
      split at hp
      · split at hp
        · exact ⟨hp.1, h _ _ _ hp.2⟩
        · exact hp.elim
      · exact hp.elim
    case mest =>
      split at hp
      · split at hp
        · exact ⟨hp.1, h _ _ _ hp.2⟩
        · exact hp.elim
      · exact hp.elim
    case mdel =>
      split at hp
      · exact ⟨hp.1, h _ _ _ hp.2⟩
      · split at hp
        · exact ⟨hp.1, h _ _ _ hp.2⟩
        · exact hp.elim
      · exact hp.elim
    case rngM =>
      split at hp
      · exact h _ _ _ hp
      · split at hp
        · exact h _ _ _ hp
        · exact hp.elim
      · exact hp.elim
    case nxt => exact nxtP_mono h hp
    case mksl =>
      split at hp
      · exact ⟨hp.1, h _ _ _ hp.2⟩
      · exact hp.elim

theorem rfnP_mono {L : LI} {st : St} {Q Q' : X → St → Prop} (h : ∀ x st, Q x st → Q' x st) {r : D} {S' : List O} {tk' : Tks} (hp : rfnP L st Q r S' tk') : rfnP L st Q' r S' tk' := by
  obtain ⟨stt, pend, h1, h2, h3⟩ := hp
  refine ⟨stt, pend, h1, h2, ?_⟩
  split at h3
  · exact h _ _ h3
  · exact h _ _ h3
  · exact h _ _ h3
  · exact h3.elim

theorem AWp.mono {E : Env} {n0 m0 : Nat} : ∀ (ac : AC) {st : St} {Q Q' : X → St → Prop}, (∀ x st, Q x st → Q' x st) → AWp E n0 m0 ac st Q → AWp E n0 m0 ac st Q' := by
  have aopm : ∀ {i fr S tk} {K K' : D → List O → Tks → Prop}, (∀ d S tk, K d S tk → K' d S tk) → aop E i fr S tk K → aop E i fr S tk K' := fun h hp => aop_mono h hp
  have gdm : ∀ {ci fr S tk} {K K' : D → List O → Tks → Prop}, (∀ d S tk, K d S tk → K' d S tk) → gD E ci fr S tk K → gD E ci fr S tk K' := by
    intro ci fr S tk K K' h hp
    unfold gD at hp ⊢
    split at hp
    · exact aopm h hp
    · split at hp
      · exact ⟨fun e => aopm h (hp.1 e), fun e => h _ _ _ (hp.2 e)⟩
      · exact h _ _ _ hp
      · exact hp.elim
  have aq1m : ∀ {i fr S tk} {K K' : D → Prop}, (∀ d, K d → K' d) → aq1 E i fr S tk K → aq1 E i fr S tk K' := by
    intro i fr S tk K K' h hp
    cases i <;> simp only [aq1] at hp ⊢
    case call => obtain ⟨d, h1, h2⟩ := hp; exact ⟨d, h1, h d h2⟩
    case callv =>
      split at hp
      · obtain ⟨h0, d, h1, h2⟩ := hp; exact ⟨h0, d, h1, h d h2⟩
      · obtain ⟨h0, d, h1, h2⟩ := hp; exact ⟨h0, d, h1, h d h2⟩
      · exact hp.elim
    case extn => obtain ⟨d, h1, h2⟩ := hp; exact ⟨d, h1, h d h2⟩
    all_goals first
      | exact hp.elim
      | (split at hp
         · exact h _ hp
         · exact hp.elim)
  have gqm : ∀ {ci fr S tk} {K K' : D → Prop}, (∀ d, K d → K' d) → gQ E ci fr S tk K → gQ E ci fr S tk K' := by
    intro ci fr S tk K K' h hp
    unfold gQ at hp ⊢
    split at hp
    · exact aq1m h hp
    · split at hp
      · exact ⟨fun e => aq1m h (hp.1 e), fun e => h _ (hp.2 e)⟩
      · exact h _ hp
      · exact hp.elim
  have aopsm : ∀ (l : List CI) (st : St) {K K' : St → Prop}, (∀ st, K st → K' st) → aops E l st K → aops E l st K' := by
    intro l
    induction l with
    | nil => intro st K K' h hp; exact h _ hp
    | cons ci r ih => intro st K K' h hp; exact gdm (fun d S tk hx => ih _ h hx) hp
  have chksm : ∀ (rs : List CI) (fr : List (Nat × D)) (S : List O) (tk : Tks) {X X' : Prop}, (X → X') → chks E rs fr S tk X → chks E rs fr S tk X' := by
    intro rs fr S tk X X' hx
    induction rs with
    | nil => exact hx
    | cons c r ih => exact fun hp => gqm (fun d hd => ⟨hd.1, ih hd.2⟩) hp
  have aqsm : ∀ (l : List (CI × Option (List CI))) (st : St) {K K' : St → Prop}, (∀ st, K st → K' st) → aqs E l st K → aqs E l st K' := by
    intro l
    induction l with
    | nil => intro st K K' h hp; exact h _ hp
    | cons ci r ih =>
      intro st K K' h hp
      obtain ⟨ci, b⟩ := ci
      cases b with
      | some rs => exact gdm (fun d S tk hx => chksm rs _ _ _ (fun hx => ih _ h hx) hx) hp
      | none => exact gqm (fun d hx => ih _ h hx) hp
  intro ac
  induction ac with
  | skip => intro st Q Q' h hp; exact h _ _ hp
  | rfn f ps asg bod L _ _ =>
    intro st Q Q' h hp
    simp only [AWp] at hp ⊢
    split at hp
    · exact ⟨hp.1, fun L hL => (hp.2 L hL).mono fun r S' tk' hx => rfnP_mono h hx⟩
    · exact hp.elim
  | rg l => intro st Q Q' h hp; exact aopsm l st (fun st => h .nm st) hp
  | rd l => intro st Q Q' h hp; exact aqsm l st (fun st => h .nm st) hp
  | seq a b iha ihb =>
    intro st Q Q' h hp
    refine iha (fun x st' hx => ?_) hp
    cases x with
    | nm => obtain ⟨st'', hs, hx⟩ := hx; exact ⟨st'', hs, ihb h hx⟩
    | ex id => exact h _ _ hx
    | rt => exact h _ _ hx
  | cut a b _ _ => intro st Q Q' h hp; exact hp
  | cond c a b iha ihb =>
    intro st Q Q' h hp
    simp only [AWp] at hp ⊢
    split at hp
    · exact ⟨fun e => iha h (hp.1 e), fun e => ihb h (hp.2 e)⟩
    · exact hp.elim
  | block id a iha =>
    intro st Q Q' h hp
    refine iha (fun x st' hx => ?_) hp
    cases x with
    | nm => exact h _ _ hx
    | ex id' =>
      simp only at hx ⊢
      by_cases he : id' = id
      · rw [if_pos he] at hx ⊢; exact h _ _ hx
      · rw [if_neg he] at hx ⊢; exact h _ _ hx
    | rt => exact h _ _ hx
  | loop a iha =>
    intro st Q Q' h hp
    obtain ⟨I, n, st0, h1, h2, h3⟩ := hp
    refine ⟨I, n, st0, h1, h2, fun n st hI => iha (fun x st' hx => ?_) (h3 n st hI)⟩
    cases x with
    | nm => exact hx
    | ex id => exact h _ _ hx
    | rt => exact h _ _ hx
  | exit id => intro st Q Q' h hp; exact h _ _ hp
  | ret => intro st Q Q' h hp; exact h _ _ hp

end Go.KL
