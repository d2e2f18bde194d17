/- Regions are sound: in order, and in any order. -/
import Derived.Test.YtjjdfplonbgpbaaDoorKL15
import Derived.OrdersIn
import Derived.TacticsIn
import Derived.Sort.LoopGhostIn
set_option linter.unusedVariables false
set_option linter.unusedSimpArgs false
namespace Go.KL
open Go Go.RowKit

section
variable {E : Env} {B : Nat} {w0 : World} {nt : Nat} {D0 : List Nat} {ro : Option Nat} {rm : Nat}

/-- the marks of loops over functions -/
def marks (ms : List Nat) : List Deferred := ms.map fun b => { target := .collected b, args := #[] }
def Marks (D0 : List Nat) (c : Cfg) (a : Act) : Prop := ∃ ms, a.defers = marks ms ∧ (∀ b, b ∈ ms → b ∈ c.dd ∧ b ∉ D0) ∧ ms.Nodup
theorem Marks.mono {D0 : List Nat} {c c' : Cfg} {a : Act} (h : Marks D0 c a) (hc : c.Le c') : Marks D0 c' a := by
  obtain ⟨ms, h1, h2, h3⟩ := h
  exact ⟨ms, h1, fun b hb => ⟨hc.dd b (h2 b hb).1, (h2 b hb).2⟩, h3⟩
theorem Marks.sub' {D0 : List Nat} {c c' : Cfg} {a : Act} (h : Marks D0 c a) (hc : ∀ b, b ∈ c.dd → b ∈ c'.dd) : Marks D0 c' a := by
  obtain ⟨ms, h1, h2, h3⟩ := h
  exact ⟨ms, h1, fun b hb => ⟨hc b (h2 b hb).1, (h2 b hb).2⟩, h3⟩
theorem Marks.same {D0 : List Nat} {c : Cfg} {a a' : Act} (h : Marks D0 c a) (e : a'.defers = a.defers) : Marks D0 c a' := by
  obtain ⟨ms, h1, h2⟩ := h
  exact ⟨ms, by rw [e]; exact h1, h2⟩
theorem Marks.nil {D0 : List Nat} {c : Cfg} {a : Act} (h : a.defers = []) : Marks D0 c a := ⟨[], h, by simp, by simp⟩

/-- all that holds of a frame that runs -/
structure Rel (E : Env) (B : Nat) (w0 : World) (nt : Nat) (D0 : List Nat) (c : Cfg) (st : St) (a : Act) (w : World) : Prop where
  r : RelE E B w0 c st.S st.tk w
  f : FRel c a.tmps st.fr
  n : a.tmps.size = nt
  d : Marks D0 c a
  sub : ∀ b, b ∈ D0 → b ∈ c.dd

theorem FRel.put {c : Cfg} {a : Act} {fr : List (Nat × D)} (hf : FRel c a.tmps fr) {dst : Option Nat} (hd : ∀ d, dst = some d → d < a.tmps.size) {v : Value} {d : D} (hv : V c v d) : FRel c (a.put dst v).tmps (putf dst d fr) := by
  cases dst with
  | none => exact hf
  | some t =>
    intro i
    have ht := hd t rfl
    simp only [Act.put, putf, get]
    by_cases h : t = i
    · subst h
      rw [if_pos rfl]
      have : (a.tmps.setIfInBounds t v).getD t undef = v := by rw [Array.getD_eq_getD_getElem?, Array.getElem?_setIfInBounds_self_of_lt ht]; rfl
      rw [this]; exact hv
    · rw [if_neg h]
      have : (a.tmps.setIfInBounds t v).getD i undef = a.tmps.getD i undef := by rw [Array.getD_eq_getD_getElem?, Array.getElem?_setIfInBounds_ne h, Array.getD_eq_getD_getElem?]
      rw [this]; exact hf i

theorem put_size (a : Act) (dst : Option Nat) (v : Value) : (a.put dst v).tmps.size = a.tmps.size := by cases dst <;> simp [Act.put]
theorem put_defers (a : Act) (dst : Option Nat) (v : Value) : (a.put dst v).defers = a.defers := by cases dst <;> rfl

theorem cCI_spec {P : Program} {ops : Array Oper} {o : Oper} {ci : CI} (h : cCI P ops nt o = some ci) :
    cIns P o = some ci.ins ∧ ci.dst = o.dst ∧ (∀ d, o.dst = some d → d < nt) ∧
    ((o.guard = none ∧ ci.grd = none) ∨ ∃ j b t, o.guard = some (j, b) ∧ ci.grd = some (t, b) ∧ (ops[j]?).bind (·.dst) = some t) := by
  unfold cCI at h
  split at h
  · rename_i hd
    split at h
    · rename_i i hi
      split at h
      · rename_i hg
        obtain rfl := Option.some.inj h
        exact ⟨hi, rfl, fun d hd' => by simpa [hd', dstOK] using hd, .inl ⟨hg, rfl⟩⟩
      · rename_i j b hg
        split at h
        · rename_i t ht
          obtain rfl := Option.some.inj h
          exact ⟨hi, rfl, fun d hd' => by simpa [hd', dstOK] using hd, .inr ⟨j, b, t, hg, rfl, ht⟩⟩
        · cases h
    · cases h
  · cases h

theorem cCIs_spec {P : Program} {ops : Array Oper} : ∀ {l : List Oper} {cis : List CI}, cCIs P ops nt l = some cis → l.length = cis.length ∧ ∀ (j : Nat) o ci, l[j]? = some o → cis[j]? = some ci → cCI P ops nt o = some ci
  | [], cis, h => by simp only [cCIs, Option.some.injEq] at h; subst h; simp
  | o :: l, cis, h => by
    simp only [cCIs] at h
    split at h
    · rename_i a r h1 h2
      obtain rfl := Option.some.inj h
      obtain ⟨g1, g2⟩ := cCIs_spec h2
      refine ⟨by simp [g1], fun j o' ci h3 h4 => ?_⟩
      cases j with
      | zero => simp at h3 h4; subst h3; subst h4; exact h1
      | succ j => exact g2 j o' ci (by simpa using h3) (by simpa using h4)
    · cases h

/-- what a guard says -/
theorem wanted_of {P : Program} {ops : Array Oper} {o : Oper} {a : Act} {c : Cfg} {fr : List (Nat × D)} (hf : FRel c a.tmps fr) {j : Nat} {b b' : Bool} {t : Nat} (hg : o.guard = some (j, b)) (ht : (ops[j]?).bind (·.dst) = some t) (hb : get fr t = .bool b') :
    Region.wanted o (yielded ops a.tmps) = (b' == b) := by
  have hv := hf t
  rw [hb] at hv
  have hv' := hv.boolInv
  have hsome : a.tmps[t]? = some (.bool b') := by
    rw [Array.getD_eq_getD_getElem?] at hv'
    cases h : a.tmps[t]? with
    | none => rw [h] at hv'; simp [undef] at hv'
    | some v => rw [h] at hv'; simpa using hv'
  simp only [Region.wanted, hg, yielded, ht, Option.bind_some, hsome]
  cases b <;> cases b' <;> rfl

theorem V.undInv {c : Cfg} {v : Value} (h : V c v .und) : v = undef := by cases h; rfl
theorem wanted_und {P : Program} {ops : Array Oper} {o : Oper} {a : Act} {c : Cfg} {fr : List (Nat × D)} (hf : FRel c a.tmps fr) {j : Nat} {b : Bool} {t : Nat} (hg : o.guard = some (j, b)) (ht : (ops[j]?).bind (·.dst) = some t) (hb : get fr t = .und) :
    Region.wanted o (yielded ops a.tmps) = false := by
  have hv := hf t
  rw [hb] at hv
  have hv' := hv.undInv
  rw [Array.getD_eq_getD_getElem?] at hv'
  simp only [Region.wanted, hg, yielded, ht, Option.bind_some]
  cases h : a.tmps[t]? with
  | none => cases b <;> rfl
  | some v =>
    rw [h] at hv'
    simp only [Option.getD_some] at hv'
    subst hv'
    cases b <;> rfl

def gstep (E : Env) (ci : CI) (st : St) (K : St → Prop) : Prop := gD E ci st.fr st.S st.tk fun d S' tk' => K ⟨putf ci.dst d st.fr, S', tk'⟩

/-- an operation, guarded or not -/
theorem gD_sound {ops : Array Oper} {o : Oper} {ci : CI} (hc : cCI E.P ops nt o = some ci) {c : Cfg} {a : Act} {w : World} {fr : List (Nat × D)} {S : List O} {tk : Tks} (hr : RelE E B w0 c S tk w) (hf : FRel c a.tmps fr) {K : D → List O → Tks → Prop} (h : gD E ci fr S tk K) (Q : Exit → Act → World → Prop) (next : Act → World → Prop)
    (hn : ∀ c' v d S' tk' w', c.Le c' → RelE E B w0 c' S' tk' w' → V c' v d → K d S' tk' → next (a.put o.dst v) w') :
    if Region.wanted o (yielded ops a.tmps) then o.wpIn (FW ro) rm E.P a w next Q else (∀ f, o.about E.P w a.eval = some f → (FW ro).fn f) ∧ next (a.put o.dst undef) w := by
  obtain ⟨hi, hdst, hlt, hgd⟩ := cCI_spec hc
  have run : aop E ci.ins fr S tk K → o.wpIn (FW ro) rm E.P a w next Q := by
    intro h
    refine Oper.wpIn_mono (fun a' w' hx => ?_) (aop_sound hi hr hf h Q)
    obtain ⟨v, c', d, S', tk', rfl, hK, k1, k2, k3⟩ := hx
    exact hn c' v d S' tk' w' k1 k2 k3 hK
  have skip : K .und S tk → next (a.put o.dst undef) w := fun hK => hn c undef .und S tk w (Cfg.Le.refl c) hr .und hK
  unfold gD at h
  rcases hgd with ⟨hg, hcg⟩ | ⟨j, b, t, hg, hcg, ht⟩
  · rw [hcg] at h
    rw [if_pos (by simp [Region.wanted, hg])]
    exact run h
  · rw [hcg] at h
    simp only at h
    split at h
    · rename_i b' hb
      rw [wanted_of (P := E.P) hf hg ht hb]
      by_cases hbb : b' = b
      · rw [if_pos (by simp [hbb])]; exact run (h.1 hbb)
      · rw [if_neg (by simpa using hbb)]; exact ⟨fun _ _ => trivial, skip (h.2 hbb)⟩
    · rename_i hb
      rw [wanted_und (P := E.P) hf hg ht hb, if_neg (by simp)]
      exact ⟨fun _ _ => trivial, skip h⟩
    · exact h.elim

theorem gstep_sound {ops : Array Oper} {o : Oper} {ci : CI} (hc : cCI E.P ops nt o = some ci) {c : Cfg} {a : Act} {w : World} {st : St} (hr : Rel E B w0 nt D0 c st a w) {K : St → Prop} (h : gstep E ci st K) (Q : Exit → Act → World → Prop) (next : Act → World → Prop)
    (hn : ∀ c' a' w' st', c.Le c' → Rel E B w0 nt D0 c' st' a' w' → K st' → next a' w') :
    if Region.wanted o (yielded ops a.tmps) then o.wpIn (FW ro) rm E.P a w next Q else (∀ f, o.about E.P w a.eval = some f → (FW ro).fn f) ∧ next (a.put o.dst undef) w := by
  obtain ⟨hi, hdst, hlt, hgd⟩ := cCI_spec hc
  refine gD_sound hc hr.r hr.f h Q next fun c' v d S' tk' w' k1 k2 k3 hK => hn c' _ w' _ k1 ⟨k2, ?_, by rw [put_size]; exact hr.n, (hr.d.mono k1).same (put_defers ..), fun b hb => k1.dd b (hr.sub b hb)⟩ hK
  rw [hdst]
  exact FRel.put (hr.f.mono k1) (fun d hd => by rw [hr.n]; exact hlt d hd) k3

theorem aops_cons {ci : CI} {r : List CI} {st : St} {K : St → Prop} : aops E (ci :: r) st K = gstep E ci st (fun st' => aops E r st' K) := rfl

theorem aops_sound {ops : Array Oper} {Q : Exit → Act → World → Prop} {K : St → Prop} : ∀ (l : List Oper) (cis : List CI), cCIs E.P ops nt l = some cis → ∀ (c : Cfg) (a : Act) (w : World) (st : St), Rel E B w0 nt D0 c st a w → aops E cis st K →
    (∀ c' a' w' st', c.Le c' → Rel E B w0 nt D0 c' st' a' w' → K st' → Q .normal a' w') → wpListIn (FW ro) rm E.P ops Q l a w
  | [], cis, hc, c, a, w, st, hr, h, hn => by
    simp only [cCIs, Option.some.injEq] at hc
    subst hc
    exact hn c a w st (Cfg.Le.refl c) hr h
  | o :: l, cis, hc, c, a, w, st, hr, h, hn => by
    simp only [cCIs] at hc
    split at hc
    · rename_i ci r h1 h2
      obtain rfl := Option.some.inj hc
      rw [aops_cons] at h
      refine wpListIn_step fun K' hK' => ?_
      exact gstep_sound h1 hr h Q K' (fun c' a' w' st' k1 k2 k3 => hK' a' w' (aops_sound l r h2 c' a' w' st' k2 k3 (fun c2 a2 w2 st2 g1 => hn c2 a2 w2 st2 (k1.trans g1))))
    · cases hc

end
end Go.KL
