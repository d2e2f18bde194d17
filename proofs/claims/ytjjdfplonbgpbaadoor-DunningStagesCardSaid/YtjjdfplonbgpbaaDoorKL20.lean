/- The small code is sound; functions. -/
import Derived.Test.YtjjdfplonbgpbaaDoorKL19
import Derived.Deep.LoopGhost
set_option linter.unusedVariables false
set_option linter.unusedSimpArgs false
namespace Go.KL
open Go Go.RowKit

/-! ## a scope without jumps -/
theorem stepR_scope {P : Program} {b : Frame} {a : Act} {k : List Item} {cs : List Frame} {w : World} {c : Code} :
    step P (lone (b.atR a (.code (.scope c) :: k)) cs w) = .next (lone (b.atR a (.code c :: .inScope c :: k)) cs w) :=
  step_lone_go (by simp [stepG, stepG.exec, Frame.atR])
theorem stepR_inScope {P : Program} {b : Frame} {a : Act} {k : List Item} {cs : List Frame} {w : World} {c : Code} :
    step P (lone (b.atR a (.inScope c :: k)) cs w) = .next (lone (b.atR a k) cs w) :=
  step_lone_go (by simp [stepG, stepG.exec, Frame.atR])
theorem wpIn_scope_straight {F : Fence} {n : Nat} {P : Program} {Q : Exit → Act → World → Prop} {a : Act} {w : World} {c : Code} (h : c.wpIn F n P Q a w) (hg : ∀ l a w, ¬ Q (.goto l) a w) :
    (Code.scope c).wpIn F n P Q a w := by
  intro b k cs hro hb hr
  have h0 : (lone (b.atR a (.code (.scope c) :: k)) cs w).fenced P F := fenced_calm hb hr rfl
  obtain ⟨e, a₁, w₁, hq, harr⟩ := h b (.inScope c :: k) cs hro hb hr
  cases e with
  | normal => exact ⟨.normal, a₁, w₁, hq, .head h0 stepR_scope (StepsIn.trans harr (.one (fenced_calm hb hr rfl) stepR_inScope))⟩
  | exit id =>
    have hx : exitTo id (.inScope c :: k) = exitTo id k := by simp [exitTo]
    exact ⟨.exit id, a₁, w₁, hq, fun k' hk => .head h0 stepR_scope (harr.1 k' (by rw [hx]; exact hk)),
      fun hr' hk => let ⟨k₁, h1, h2⟩ := harr.2 hr' (by rw [hx]; exact hk); ⟨k₁, h1, .head h0 stepR_scope h2⟩⟩
  | goto l => exact absurd hq (hg l _ _)
  | ret => exact ⟨_, a₁, w₁, hq, .of_steps (.one h0 stepR_scope) harr⟩
  | panic ch => exact ⟨_, a₁, w₁, hq, .of_steps (.one h0 stepR_scope) harr⟩
  | outgrown => exact ⟨_, a₁, w₁, hq, .of_steps (.one h0 stepR_scope) harr⟩

section
variable {E : Env} {B : Nat} {w0 : World} {nt : Nat} {c0 : Cfg} {D0 : List Nat} {ro : Option Nat} {rm : Nat}

def QL (E : Env) (B : Nat) (w0 : World) (nt : Nat) (D0 : List Nat) (c0 : Cfg) (Q : X → St → Prop) : Exit → Act → World → Prop := fun e a w =>
  match e with
  | .normal => ∃ c st, c0.Le c ∧ Rel E B w0 nt D0 c st a w ∧ Q .nm st
  | .exit id => ∃ c st, c0.Le c ∧ Rel E B w0 nt D0 c st a w ∧ Q (.ex id) st
  | .ret => ∃ c st, c0.Le c ∧ Rel E B w0 nt D0 c st a w ∧ Q .rt st
  | _ => False

theorem QL.mono {Q Q' : X → St → Prop} (h : ∀ x st, Q x st → Q' x st) {e : Exit} {a : Act} {w : World} (hq : QL E B w0 nt D0 c0 Q e a w) : QL E B w0 nt D0 c0 Q' e a w := by
  cases e <;> first
    | (obtain ⟨c, st, h1, h2, h3⟩ := hq; exact ⟨c, st, h1, h2, h _ _ h3⟩)
    | exact hq

/-- no loop over a function within -/
def noRfn : AC → Bool
  | .seq a b => noRfn a && noRfn b
  | .cond _ a b => noRfn a && noRfn b
  | .block _ a => noRfn a
  | .loop a => noRfn a
  | .rfn _ _ _ _ _ => false
  | _ => true

/-- the record of a loop over a function, and the block for its rounds' deferred calls -/
theorem RelE.enter {c : Cfg} {S : List O} {tk : Tks} {w : World} (hr : RelE E B w0 c S tk w) {tmps : Array Value} {fr : List (Nat × D)} (hf : FRel c tmps fr) (L : LI) (hn : tmps.size = L.nt) (hdf : L.df = w.heap.size) :
    ∃ c', c.Le c' ∧ w.heap.size ∈ c'.dd ∧ c'.n = c.n + 1 ∧ c'.μ c.n = w.heap.size + 1 ∧ c'.ν c.n = none ∧
      RelE E B w0 c' (S ++ [.lp L fr .ready none]) tk ((w.alloc (.deferred (some []))).alloc (.loop { state := .ready, pending := none, fn := L.fn, tmps := tmps, params := L.ps, assign := L.asg, body := L.bod, defers := w.heap.size })) := by
  have h1 := hr.s.junk (.deferred (some []))
  let c1 : Cfg := { c with dd := w.heap.size :: c.dd }
  have hle : c.Le c1 := ⟨fun _ _ h => h, Nat.le_refl _, fun _ _ => rfl, Nat.le_refl _, fun _ _ => .inl rfl, fun _ _ => .inl rfl, fun b hb => List.mem_cons_of_mem _ hb⟩
  have h2 : RelS B w0 c1 S tk (w.alloc (.deferred (some []))) := ⟨h1.hB, h1.below, h1.nS, h1.mT, h1.holds, h1.inj, h1.base, h1.sep, h1.nu, fun i o ho => (h1.obj i o ho).mono hle (h1.lt ho) rfl, fun t x hx => by
      obtain ⟨a1, a2, a3, a4⟩ := h1.tok t x hx
      exact ⟨a1, a2, a3, a4⟩, h1.tinj, fun b hb => by
    rcases List.mem_cons.1 hb with rfl | hb
    · exact ⟨hr.s.hw, heap_alloc_new w _⟩
    · exact h1.dd b hb⟩
  obtain ⟨c', k1, k2, k3, k4, k5⟩ := h2.push (.loop { state := .ready, pending := none, fn := L.fn, tmps := tmps, params := L.ps, assign := L.asg, body := L.bod, defers := w.heap.size }) (.lp L fr .ready none) rfl
    (fun c' hc => ⟨tmps, by rw [hdf], (hf.mono hle).mono hc, hn⟩)
  exact ⟨c', hle.trans k1, k1.dd _ (List.mem_cons_self ..), k2, by rw [k3]; simp, k4, k5, hr.g.mono (hle.trans k1)⟩

theorem putObj_eq (w : World) (l : Nat) (o : Obj) : w.putObj l o = { w with heap := w.heap.setIfInBounds l o } := rfl

/-- a loop's record is written -/
theorem RelS.putLoop {c : Cfg} {S : List O} {tk : Tks} {w : World} (h : RelS B w0 c S tk w) {id : Nat} {L : LI} {fr : List (Nat × D)} {st st' : LoopState} {pd pd' : Option Code} (hS : S[id]? = some (.lp L fr st pd)) :
    ∃ r : Loop, w.heap[c.μ id]? = some (.loop r) ∧ r.state = st ∧ r.pending = pd ∧ r.fn = L.fn ∧ r.params = L.ps ∧ r.assign = L.asg ∧ r.body = L.bod ∧ FRel c r.tmps fr ∧ r.tmps.size = L.nt ∧
      RelS B w0 c (S.set id (.lp L fr st' pd')) tk (w.putObj (c.μ id) (.loop { r with state := st', pending := pd' })) := by
  obtain ⟨tmps, h1, h2, h3⟩ := h.objF hS rfl
  refine ⟨_, h1, rfl, rfl, rfl, rfl, rfl, rfl, h2, h3, ?_⟩
  rw [putObj_eq]
  exact h.putObj hS rfl _ rfl _ (by rw [h1]; simp) ⟨tmps, rfl, h2, h3⟩

theorem code_sound : ∀ (code : Code) (ac : AC), cCode E.P nt code = some ac → (ro = none ∨ noRfn ac = true) → ∀ (Q : X → St → Prop) (c : Cfg) (st : St) (a : Act) (w : World), c0.Le c → Rel E B w0 nt D0 c st a w → AWp E c0.n c0.m ac st Q → code.wpIn (FW ro) rm E.P (QL E B w0 nt D0 c0 Q) a w
  | .skip, ac, hc, hno, Q, c, st, a, w, h0, hr, h => by
    simp only [cCode, Option.some.injEq] at hc; subst hc
    exact wpIn_skip ⟨c, st, h0, hr, h⟩
  | .label l, ac, hc, hno, Q, c, st, a, w, h0, hr, h => by
    simp only [cCode, Option.some.injEq] at hc; subst hc
    exact wpIn_label ⟨c, st, h0, hr, h⟩
  | .exit id, ac, hc, hno, Q, c, st, a, w, h0, hr, h => by
    simp only [cCode, Option.some.injEq] at hc; subst hc
    exact wpIn_exit ⟨c, st, h0, hr, h⟩
  | .ret, ac, hc, hno, Q, c, st, a, w, h0, hr, h => by
    simp only [cCode, Option.some.injEq] at hc; subst hc
    exact wpIn_ret ⟨c, st, h0, hr, h⟩
  | .region id ops draw, ac, hc, hno, Q, c, st, a, w, h0, hr, h => by
    simp only [cCode] at hc
    split at hc
    · rename_i cis hcc
      cases draw with
      | true =>
        simp only [if_true, Option.map_eq_some_iff] at hc
        obtain ⟨l, hd, rfl⟩ := hc
        exact draw_sound hcc hd hr h fun c' a' w' st' k1 k2 k3 => ⟨c', st', h0.trans k1, k2, k3⟩
      | false =>
        simp only [Bool.false_eq_true, if_false, Option.some.injEq] at hc
        subst hc
        exact wpIn_region_list (aops_sound _ _ hcc c a w st hr h fun c' a' w' st' k1 k2 k3 => ⟨c', st', h0.trans k1, k2, k3⟩)
    · cases hc
  | .seq x y, ac, hc, hno, Q, c, st, a, w, h0, hr, h => by
    simp only [cCode] at hc
    split at hc
    · rename_i ax ay hx hy
      obtain rfl := Option.some.inj hc
      refine wpIn_seq (wpIn_mono (code_sound x ax hx (hno.imp id fun h => by simp only [noRfn, Bool.and_eq_true] at h; exact h.1) _ c st a w h0 hr h) ?_)
      intro e a' w' hq
      cases e with
      | normal =>
        obtain ⟨c', st', k1, k2, st'', hs, k3⟩ := hq
        obtain ⟨c1, g1, g2, g3, g4⟩ := hs B w0 c0 c' w' a'.tmps k1 rfl rfl k2.r k2.f
        exact code_sound y ay hy (hno.imp id fun h => by simp only [noRfn, Bool.and_eq_true] at h; exact h.2) Q c1 st'' a' w' g1 ⟨g2, g3, k2.n, k2.d.sub' g4, fun b hb => g4 b (k2.sub b hb)⟩ k3
      | exit id => exact hq
      | ret => exact hq
      | _ => exact hq.elim
    · cases hc
  | .cond x p q, ac, hc, hno, Q, c, st, a, w, h0, hr, h => by
    simp only [cCode] at hc
    split at hc
    · rename_i x' ap aq hx hp hq
      obtain rfl := Option.some.inj hc
      simp only [AWp] at h
      have hv := eval_V (a := a) hr.r.g hr.f hx
      split at h
      · rename_i t ht
        rw [ht] at hv
        refine wpIn_cond_split hv.boolInv (fun h1 => ?_) (fun h1 => ?_)
        · exact code_sound p ap hp (hno.imp id fun h => by simp only [noRfn, Bool.and_eq_true] at h; exact h.1) Q c st a w h0 hr (h.1 h1)
        · exact code_sound q aq hq (hno.imp id fun h => by simp only [noRfn, Bool.and_eq_true] at h; exact h.2) Q c st a w h0 hr (h.2 h1)
      · exact h.elim
    · cases hc
  | .block id x, ac, hc, hno, Q, c, st, a, w, h0, hr, h => by
    simp only [cCode, Option.map_eq_some_iff] at hc
    obtain ⟨ax, hx, rfl⟩ := hc
    refine wpIn_block (wpIn_mono (code_sound x ax hx hno _ c st a w h0 hr h) ?_)
    intro e a' w' hq
    cases e with
    | normal => exact hq
    | exit id' =>
      obtain ⟨c', st', k1, k2, k3⟩ := hq
      simp only at k3
      simp only [Exit.inBlock]
      split
      · rename_i he; rw [if_pos he] at k3; exact ⟨c', st', k1, k2, k3⟩
      · rename_i he; rw [if_neg he] at k3; exact ⟨c', st', k1, k2, k3⟩
    | ret => exact hq
    | _ => exact hq.elim
  | .loop x, ac, hc, hno, Q, c, st, a, w, h0, hr, h => by
    simp only [cCode, Option.map_eq_some_iff] at hc
    obtain ⟨ax, hx, rfl⟩ := hc
    obtain ⟨I, n, st0, hs, hI, hround⟩ := h
    obtain ⟨c1, k1, k2, k3, k4⟩ := hs B w0 c0 c w a.tmps h0 rfl rfl hr.r hr.f
    refine wpIn_loop_ghost (fun n a w => ∃ c st, c0.Le c ∧ Rel E B w0 nt D0 c st a w ∧ I n st) n ⟨c1, st0, k1, ⟨k2, k3, hr.n, hr.d.sub' k4, fun b hb => k4 b (hr.sub b hb)⟩, hI⟩ ?_
    rintro n a w ⟨c, st, h0, hr, hI⟩
    refine wpIn_mono (code_sound x ax hx hno _ c st a w h0 hr (hround n st hI)) ?_
    intro e a' w' hq
    cases e with
    | normal =>
      obtain ⟨c', st', k1, k2, n', st'', k3, k4, k5⟩ := hq
      obtain ⟨c2, g1, g2, g3, g4⟩ := k4 B w0 c0 c' w' a'.tmps k1 rfl rfl k2.r k2.f
      exact ⟨n', k3, c2, st'', g1, ⟨g2, g3, k2.n, k2.d.sub' g4, fun b hb => g4 b (k2.sub b hb)⟩, k5⟩
    | exit id => exact hq
    | ret => exact hq
    | _ => exact hq.elim
  | .rangeFunc g ps asg bod, ac, hc, hno, Q, c, st, a, w, h0, hr, h => by
    simp only [cCode] at hc
    split at hc
    case h_2 => cases hc
    rename_i g' aa ab hg' haa hab
    split at hc
    case isFalse => cases hc
    rename_i hlt
    obtain rfl := Option.some.inj hc
    rcases hno with rfl | hno
    case inr => simp [noRfn] at hno
    simp only [AWp] at h
    have hv := eval_V (a := a) hr.r.g hr.f hg'
    split at h
    case h_2 => exact h.elim
    rename_i gf caps he
    obtain ⟨hok, hcall⟩ := h
    rw [he] at hv
    obtain ⟨lb, had, hlb⟩ := hv.fnInv
    refine wpIn_rangeFunc fun fn _ => ?_
    let L : LI := { fn := fn, nt := nt, ps := ps, asg := asg, bod := bod, df := w.heap.size }
    obtain ⟨c1, k1, k2, k3, k4, k5, k6⟩ := hr.r.enter hr.f L hr.n rfl
    obtain ⟨W1, hW1⟩ : ∃ W1, W1 = ((w.alloc (.deferred (some []))).alloc (.loop { state := .ready, pending := none, fn := L.fn, tmps := a.tmps, params := L.ps, assign := L.asg, body := L.bod, defers := w.heap.size })) := ⟨_, rfl⟩
    rw [← hW1] at k6
    refine ⟨w.heap.size + 1, [{ target := .collected w.heap.size, args := #[] }], W1, { target := .fn (.func gf) lb, args := #[.func (.yield (w.heap.size + 1)) #[] #[]] }, W1, gf,
      #[.func (.yield (w.heap.size + 1)) #[] #[]] ++ lb, W1, by rw [hW1]; exact run_enterLoop_outer fn a.tmps ps asg bod, ?_, fun _ _ => trivial, ?_, fun h => by simp [FW, Fence.wide] at h, ?_⟩
    · simp only [resolve, had]
      simp [go_sem]
    · simp only [invoke]
      exact callFunc_run hok _
    · have hR : RoundOf E L ps.toList aa ab := ⟨rfl, fun p hp => by have := List.all_eq_true.1 hlt p hp; simpa using this, haa, hab⟩
      have hC := hcall L hR
      have hvl : VL c1 (#[.func (.yield (w.heap.size + 1)) #[] #[]] ++ lb) (.yld st.S.length :: caps) := by
        refine ⟨by simp [hlb.1]; omega, fun j v d h1 h2 => ?_⟩
        cases j with
        | zero =>
          rw [Array.getElem?_append_left (by simp)] at h1
          simp at h1 h2
          subst h1; subst h2
          have := V.yld (c := c1) c.n (by omega) k5
          rw [k4] at this
          rw [← hr.r.s.nS]; exact this
        | succ j =>
          rw [Array.getElem?_append_right (by simp)] at h1
          exact (hlb.2 j v d (by simpa using h1) (by simpa using h2)).mono k1
      refine callsIn_FW ((hC B w0 c1 _ _ k6 hvl).mono ?_)
      rintro e w2 ⟨v, c2, r, S', tk', rfl, g1, g2, g3, stt, pend, hS', hbusy, hpost⟩
      obtain ⟨rec, r1, r2, r3, r4, r5, r6, r7, r8, r9, r10⟩ := g2.s.putLoop (st' := .exhausted) (pd' := pend) hS'
      have hl : c2.μ st.S.length = w.heap.size + 1 := by
        rw [← hr.r.s.nS, g1.μ c.n (by omega), k4]
      rw [hl] at r1 r10
      have hend := run_endLoop (P := E.P) r1 (by rw [r2]; exact hbusy)
      rw [r3] at hend
      refine ⟨pend, _, hend, ?_⟩
      have hle : c.Le c2 := k1.trans g1
      obtain ⟨ms, m1, m2, m3⟩ := hr.d
      have hdl : ∀ b, b ∈ c.dd → b < w.heap.size := fun b hb => hr.r.s.ddlt hb
      have hmarks : Marks D0 c2 { a with defers := [{ target := .collected w.heap.size, args := #[] }] ++ a.defers } :=
        ⟨w.heap.size :: ms, by simp [marks, m1], fun b hb => by
          rcases List.mem_cons.1 hb with rfl | hb
          · exact ⟨g1.dd _ k2, fun hD => by have := hdl _ (hr.sub _ hD); omega⟩
          · exact ⟨hle.dd b (m2 b hb).1, (m2 b hb).2⟩, List.nodup_cons.2 ⟨fun hb => by have := hdl _ (m2 _ hb).1; omega, m3⟩⟩
      have hrel : Rel E B w0 nt D0 c2 ⟨st.fr, S'.set st.S.length (.lp L st.fr .exhausted pend), tk'⟩ { a with defers := [{ target := .collected w.heap.size, args := #[] }] ++ a.defers } (w2.putObj (w.heap.size + 1) (.loop { rec with state := .exhausted, pending := pend })) :=
        ⟨⟨r10, g2.g⟩, hr.f.mono hle, hr.n, hmarks, fun b hb => hle.dd b (hr.sub b hb)⟩
      cases pend with
      | none => exact ⟨c2, _, h0.trans hle, hrel, hpost⟩
      | some cd =>
        cases cd with
        | ret => exact wpIn_ret ⟨c2, _, h0.trans hle, hrel, hpost⟩
        | exit i => exact wpIn_exit ⟨c2, _, h0.trans hle, hrel, hpost⟩
        | _ => exact hpost.elim
  | .scope x, ac, hc, hno, Q, c, st, a, w, h0, hr, h => by
    simp only [cCode] at hc
    exact wpIn_scope_straight (code_sound x ac hc hno Q c st a w h0 hr h) fun l a w hq => hq
  | .goto _, ac, hc, hno, Q, c, st, a, w, h0, hr, h => by simp [cCode] at hc
  | .refuse _, ac, hc, hno, Q, c, st, a, w, h0, hr, h => by simp [cCode] at hc

end

/-! ## functions -/

def frA : Nat → List D → List (Nat × D)
  | _, [] => []
  | i, d :: r => (i, d) :: frA (i + 1) r

def Qret (E : Env) (n0 m0 : Nat) (res : List (Nat × Option (Nat × Bool))) (Post : D → List O → Tks → Prop) : X → St → Prop := fun x st =>
  match x with
  | .ex _ => False
  | _ => ∃ ds, resD st.fr st.S res = some ds ∧ ∃ d' S' tk', Shift E n0 m0 ⟨[(0, tupD ds)], st.S, st.tk⟩ ⟨[(0, d')], S', tk'⟩ ∧ Post d' S' tk'

/-- each object mentions only what there is -/
def OSc (n m : Nat) (S : List O) : Prop := ∀ (i : Nat) o, S[i]? = some o → osc n m o

theorem RelS.osc {B : Nat} {w0 : World} {c : Cfg} {S : List O} {tk : Tks} {w : World} (h : RelS B w0 c S tk w) : OSc S.length tk.length S := by
  intro i o ho
  have hob := h.obj i o ho
  rw [← h.nS, ← h.mT]
  cases o with
  | arr cs =>
    obtain ⟨cur, T, _, hle, hV⟩ := hob
    exact scL_of fun j d hd => by
      have hjl : j < cur.size := Nat.lt_of_lt_of_le (List.getElem?_eq_some_iff.1 hd).1 hle
      exact (hV j _ d (Array.getElem?_eq_getElem hjl) hd).1.sc
  | map kt kv clk =>
    obtain ⟨es, _, hle, hV, _⟩ := hob
    intro j p hp
    have hjl : j < es.size := by rw [hle]; exact (List.getElem?_eq_some_iff.1 hp).1
    have := hV j _ p (Array.getElem?_eq_getElem hjl) hp
    exact ⟨this.1.sc, this.2.1.sc⟩
  | iter mid since seen last => exact hob.1
  | iter0 => trivial
  | lp L fr st pend => obtain ⟨tmps, _, hf, _⟩ := hob; exact fun t => (hf t).sc
  | vec es e sz =>
    obtain ⟨k, _, hkl, _, _, hes, hb⟩ := hob
    cases hk : k.blk with
    | none => rw [hk] at hb; rw [hb]; exact rfl
    | some p =>
      obtain ⟨b, cap⟩ := p
      rw [hk] at hb
      obtain ⟨⟨cur, _, hcs, hV⟩, hcap, _⟩ := hb
      have hmul : es.length * sz ≤ cap * sz := Nat.mul_le_mul_right _ hcap
      exact scLL_of fun i x hx => scL_of fun j d hd => by
        have hf := flat_of es hes i j x d hx hd
        have hl := (List.getElem?_eq_some_iff.1 hf).1
        rw [flat_len es hes] at hl
        exact (hV _ _ d (Array.getElem?_eq_getElem (by omega)) hf).1.sc
  | dead => trivial

/-! ### leaving a function: the marks of its loops over functions -/

def Cfg.wd (c : Cfg) (l : List Nat) : Cfg := { c with dd := l }

theorem V.wd {c : Cfg} {l : List Nat} {v : Value} {d : D} (h : V c v d) : V (c.wd l) v d := by
  induction h with
  | top v => exact .top v
  | und => exact .und
  | int k n => exact .int k n
  | bool b => exact .bool b
  | str s => exact .str s
  | agg cs l hn _ ih => exact .agg cs l hn ih
  | tup cs l hn _ ih => exact .tup cs l hn ih
  | nilsl => exact .nilsl
  | slnil => exact .slnil
  | sl a cap es sz vs hcap hsz hF _ ih => exact .sl a cap es sz vs hcap hsz hF ih
  | fullnil => exact .fullnil
  | full a es sz vs hsz hF _ ih => exact .full a es sz vs hsz hF ih
  | gsl0 A t ht h0 => exact .gsl0 A t ht h0
  | gsl b cap es t sz vs ht h0 hcap hle hcur hsz hF _ ih => exact .gsl b cap es t sz vs ht h0 hcap hle hcur hsz hF ih
  | osl id off n sz cap hid hν hcap => exact .osl (c := c.wd l) id off n sz cap hid hν hcap
  | pe a e off vs hF _ ih => exact .pe a e off vs hF ih
  | po id off hid hν => exact .po (c := c.wd l) id off hid hν
  | nilp => exact .nilp
  | fn f cs l hn _ ih => exact .fn f cs l hn ih
  | nilfn => exact .nilfn
  | map id hid hν => exact .map (c := c.wd l) id hid hν
  | nilmap => exact .nilmap
  | vec A cap id n sz k hid hk h0 hcap h => exact .vec (c := c.wd l) A cap id n sz k hid hk h0 hcap h
  | pv A id n i j k hid hk h => exact .pv (c := c.wd l) A id n i j k hid hk h
  | yld id hid hν => exact .yld (c := c.wd l) id hid hν
  | bm f fs cs lf l hnf _ hn _ ihf ih => exact .bm f fs cs lf l hnf ihf hn ih

/-- a block for deferred calls is shut -/
theorem RelE.shut {E : Env} {B : Nat} {w0 : World} {c : Cfg} {S : List O} {tk : Tks} {w : World} (h : RelE E B w0 c S tk w) {b : Nat} (hb : b ∈ c.dd) :
    RelE E B w0 (c.wd (c.dd.filter fun x => x != b)) S tk (w.putObj b (.deferred none)) := by
  have hd := h.s.dd b hb
  have hlt := h.s.ddlt hb
  rw [putObj_eq]
  have hoth : ∀ k, k ≠ b → ({ w with heap := w.heap.setIfInBounds b (.deferred none) } : World).heap[k]? = w.heap[k]? := fun k hk => by
    simp only; rw [Array.getElem?_setIfInBounds_ne (by omega)]
  have hwd : ∀ {ob : Option Obj} {o : O}, ORelF c ob o → ORelF (c.wd (c.dd.filter fun x => x != b)) ob o := fun {ob o} ho => by
    cases o with
    | arr cs => obtain ⟨cur, T, a1, a2, a3⟩ := ho; exact ⟨cur, T, a1, a2, fun j v d x y => ⟨(a3 j v d x y).1.wd, (a3 j v d x y).2⟩⟩
    | map kt kv clk => obtain ⟨es, a1, a2, a3, a4⟩ := ho; exact ⟨es, a1, a2, fun j e p x y => ⟨(a3 j e p x y).1.wd, (a3 j e p x y).2.1.wd, (a3 j e p x y).2.2⟩, a4⟩
    | iter _ _ _ _ => exact ho
    | iter0 => exact ho
    | lp L fr st pend => obtain ⟨tmps, a1, a2, a3⟩ := ho; exact ⟨tmps, a1, fun t => (a2 t).wd, a3⟩
    | vec _ _ _ => exact ho
    | dead => trivial
  refine ⟨⟨h.s.hB, h.s.below.trans ⟨rfl, rfl, rfl, by simp, fun k hk => hoth k (by omega)⟩, h.s.nS, h.s.mT, fun a v ha => ?_, h.s.inj, fun i b' hi hb' => ⟨(h.s.base i b' hi hb').1, by simpa using (h.s.base i b' hi hb').2⟩, h.s.sep, h.s.nu, fun i o ho => ?_, fun t x ht => ?_, h.s.tinj, fun b' hb' => ?_⟩, fun g e he => (h.g g e he).wd⟩
  · have h1 := h.s.holds a v ha
    refine ⟨?_, h1.2⟩
    have hne : a.block ≠ b := fun e => by
      have := h1.1
      unfold World.cell? at this
      rw [e, hd.2] at this
      cases this
    exact (World.cell?_of_block (w := w) (hoth _ hne)).trans h1.1
  · have h1 := h.s.obj i o ho
    cases o with
    | vec es e sz =>
      obtain ⟨k, a1, a2, a3, a4, a5, a6⟩ := h1
      refine ⟨k, a1, a2, a3, a4, a5, ?_⟩
      cases hk : k.blk with
      | none => rw [hk] at a6; exact a6
      | some p =>
        obtain ⟨b1, cap⟩ := p
        rw [hk] at a6
        obtain ⟨⟨cur, g1, g2, g3⟩, g4⟩ := a6
        have hne : b1 ≠ b := fun e => by rw [e, hd.2] at g1; cases g1
        exact ⟨⟨cur, by rw [hoth b1 hne]; exact g1, g2, fun j v d x y => ⟨(g3 j v d x y).1.wd, (g3 j v d x y).2⟩⟩, g4⟩
    | dead => trivial
    | arr cs =>
      have hF := h1.toF rfl
      have hne : c.μ i ≠ b := fun e => by obtain ⟨cur, T, a1, _⟩ := hF; rw [e, hd.2] at a1; cases a1
      refine ORel.ofF ?_
      show ORelF _ (_[c.μ i]?) _
      rw [hoth _ hne]; exact hwd hF
    | map kt kv clk =>
      have hF := h1.toF rfl
      have hne : c.μ i ≠ b := fun e => by obtain ⟨cur, a1, _⟩ := hF; rw [e, hd.2] at a1; cases a1
      refine ORel.ofF ?_
      show ORelF _ (_[c.μ i]?) _
      rw [hoth _ hne]; exact hwd hF
    | iter mid since seen last =>
      have hF := h1.toF rfl
      have hne : c.μ i ≠ b := fun e => by obtain ⟨_, _, a1⟩ := hF; rw [e, hd.2] at a1; cases a1
      refine ORel.ofF ?_
      show ORelF _ (_[c.μ i]?) _
      rw [hoth _ hne]; exact hwd hF
    | iter0 =>
      have hF := h1.toF rfl
      have hne : c.μ i ≠ b := fun e => by have a1 : w.heap[c.μ i]? = _ := hF; rw [e, hd.2] at a1; cases a1
      refine ORel.ofF ?_
      show ORelF _ (_[c.μ i]?) _
      rw [hoth _ hne]; exact hwd hF
    | lp L fr st pend =>
      have hF := h1.toF rfl
      have hne : c.μ i ≠ b := fun e => by obtain ⟨_, a1, _⟩ := hF; rw [e, hd.2] at a1; cases a1
      refine ORel.ofF ?_
      show ORelF _ (_[c.μ i]?) _
      rw [hoth _ hne]; exact hwd hF
  · obtain ⟨a1, a2, a3, a4⟩ := h.s.tok t x ht
    refine ⟨a1, a2, a3, ?_⟩
    show match (c.τ t).blk with | none => _ | some (b, cap) => _
    cases hk : (c.τ t).blk with
    | none => rw [hk] at a4; exact a4
    | some p =>
      obtain ⟨b1, cap⟩ := p
      rw [hk] at a4
      obtain ⟨k1, ⟨cur, k2, k2'⟩, k3, k4, k5, k6, k7⟩ := a4
      have hne : b1 ≠ b := fun e => by rw [e, hd.2] at k2; cases k2
      exact ⟨k1, ⟨cur, by rw [hoth b1 hne]; exact k2, k2'⟩, k3, k4, k5, k6, k7⟩
  · have hb2 : b' ∈ c.dd ∧ b' ≠ b := by simpa [Cfg.wd] using hb'
    exact ⟨(h.s.dd b' hb2.1).1, by rw [hoth b' hb2.2]; exact (h.s.dd b' hb2.1).2⟩

/-- leaving with marks -/
theorem leaves_marks {E : Env} {B : Nat} {w0 : World} {S : List O} {tk : Tks} {P : Program} {fn : Func} {tmps : Array Value} {R : Ending → World → Prop} {d : D} {v : Value} {F : Fence} {n : Nat} :
    ∀ (ms : List Nat) (c : Cfg) (w : World), RelE E B w0 c S tk w → V c v d → (∀ b, b ∈ ms → b ∈ c.dd) → ms.Nodup →
      (∀ w' l, RelE E B w0 (c.wd l) S tk w' → V (c.wd l) v d → (∀ b, b ∈ c.dd → b ∉ ms → b ∈ l) → ∃ u, (results fn tmps).run P w' = .ok u w' ∧ R (.returned u) w') → LeavesInM F n P fn tmps R (marks ms) .returning w
  | [], c, w, hr, hv, hm, hn, h => by
    obtain ⟨u, h1, h2⟩ := h w c.dd hr hv (fun b hb _ => hb)
    exact ⟨u, h1, h2⟩
  | b :: ms, c, w, hr, hv, hm, hn, h => by
    have hb := hm b (by simp)
    have hsh := hr.shut hb
    have hn' := List.nodup_cons.1 hn
    refine ⟨by simp, .inl ⟨b, _, rfl, run_takeDeferred (hr.s.dd b hb).2, ?_⟩⟩
    refine leaves_marks ms _ _ hsh hv.wd (fun b' hb' => ?_) hn'.2 (fun w' l h1 h2 h3 => h w' l h1 h2 (fun b' hb' hnm => h3 b' ?_ (fun hx => hnm (List.mem_cons_of_mem _ hx))))
    · have : b' ∈ c.dd ∧ b' ≠ b := ⟨hm b' (List.mem_cons_of_mem _ hb'), fun e => hn'.1 (e ▸ hb')⟩
      simpa [Cfg.wd] using this
    · have : b' ∈ c.dd ∧ b' ≠ b := ⟨hb', fun e => hnm (e ▸ List.mem_cons_self ..)⟩
      simpa [Cfg.wd] using this

theorem get_frA {c : Cfg} : ∀ (vs : List Value) (ds : List D) (i t : Nat), vs.length = ds.length → (∀ (j : Nat) v d, vs[j]? = some v → ds[j]? = some d → V c v d) → i ≤ t → V c ((vs[t - i]?).getD undef) (get (frA i ds) t)
  | [], ds, i, t, hl, h, hit => by
    have : ds = [] := List.eq_nil_of_length_eq_zero (by simpa using hl.symm)
    subst this
    exact .top _
  | v :: vs, [], i, t, hl, h, hit => by simp at hl
  | v :: vs, d :: ds, i, t, hl, h, hit => by
    simp only [frA, get]
    by_cases he : i = t
    · subst he
      rw [if_pos rfl, Nat.sub_self]
      exact h 0 v d rfl rfl
    · rw [if_neg he, show t - i = (t - (i + 1)) + 1 from by omega]
      exact get_frA vs ds (i + 1) t (by simpa using hl) (fun j v d h1 h2 => h (j + 1) v d (by simpa using h1) (by simpa using h2)) (by omega)

theorem resD_run {E : Env} {B w0 c S tk w} {tmps : Array Value} {fr : List (Nat × D)} (hr : RelE E B w0 c S tk w) (hf : FRel c tmps fr) : ∀ (rs : List ResultVar) (res : List (Nat × Option (Nat × Bool))) (ds : List D), cRes E.P rs = some res → resD fr S res = some ds →
    ∃ vs, (rs.mapM (m := Sem) fun | .tmp t => pure (tmps.getD t undef) | .cell a t => do loadVar t (← asAddr (tmps.getD a undef))).run E.P w = .ok vs w ∧ vs.length = ds.length ∧ ∀ (j : Nat) v d, vs[j]? = some v → ds[j]? = some d → V c v d
  | [], res, ds, hc, hd => by
    simp only [cRes, Option.some.injEq] at hc; subst hc
    simp only [resD, Option.some.injEq] at hd; subst hd
    exact ⟨[], by simp, rfl, by simp⟩
  | .tmp t :: rs, res, ds, hc, hd => by
    simp only [cRes, Option.map_eq_some_iff] at hc
    obtain ⟨l, hl, rfl⟩ := hc
    simp only [resD, Option.map_eq_some_iff] at hd
    obtain ⟨l', hl', rfl⟩ := hd
    obtain ⟨vs, h1, h2, h3⟩ := resD_run hr hf rs l l' hl hl'
    refine ⟨tmps.getD t undef :: vs, by simp only [List.mapM_cons, Sem.run_bind, Sem.run_pure, Result.andThen_ok, h1], by simp [h2], fun j v d k1 k2 => ?_⟩
    cases j with
    | zero => simp only [List.getElem?_cons_zero, Option.some.injEq] at k1 k2; subst k1; subst k2; exact hf t
    | succ j => exact h3 j v d (by simpa using k1) (by simpa using k2)
  | .cell a T :: rs, res, ds, hc, hd => by
    simp only [cRes] at hc
    split at hc
    · rename_i x l hx hl
      obtain ⟨n, ag⟩ := x
      obtain rfl := Option.some.inj hc
      simp only [resD] at hd
      split at hd
      · rename_i d l' hdd hl'
        obtain rfl := Option.some.inj hd
        obtain ⟨vs, h1, h2, h3⟩ := resD_run hr hf rs l l' hl hl'
        have hv := hf a
        have hload : ∃ ad v, tmps.getD a undef = .pointer (some ad) ∧ (loadVar T ad).run E.P w = .ok v w ∧ V c v d := by
          split at hdd
          · rename_i e off he
            rw [he] at hv
            obtain ⟨ad, had, hli⟩ := LiesAt.pe hr.s hv
            obtain ⟨v, g1, g2⟩ := loadVar_run (P := E.P) hx hli hdd
            exact ⟨ad, v, had, g1, g2⟩
          · rename_i id off he
            rw [he] at hv
            split at hdd
            · rename_i cs hcs
              obtain ⟨ad, had, hli⟩ := LiesAt.po hr.s hv hcs
              obtain ⟨v, g1, g2⟩ := loadVar_run (P := E.P) hx hli hdd
              exact ⟨ad, v, had, g1, g2⟩
            · cases hdd
          · cases hdd
        obtain ⟨ad, v, had, g1, g2⟩ := hload
        have hasA : (asAddr (tmps.getD a undef)).run E.P w = .ok ad w := by rw [had]; rfl
        refine ⟨v :: vs, by simp only [List.mapM_cons, Sem.run_bind, hasA, Sem.run_pure, Result.andThen_ok, g1, h1], by simp [h2], fun j u e k1 k2 => ?_⟩
        cases j with
        | zero => simp only [List.getElem?_cons_zero, Option.some.injEq] at k1 k2; subst k1; subst k2; exact g2
        | succ j => exact h3 j u e (by simpa using k1) (by simpa using k2)
      · cases hd
    · cases hc

theorem ACalls.intro {E : Env} {f : FuncId} {af : AF} (hc : cFun E.P f = some af) {ds : List D} (hn : ds.length ≤ af.nt) {S : List O} {tk : Tks} {Post : D → List O → Tks → Prop}
    (h : OSc S.length tk.length S → AWp E S.length tk.length af.code ⟨frA 0 ds, S, tk⟩ (Qret E S.length tk.length af.res Post)) : ACalls E f ds S tk Post := by
  intro B w0 c w vs hr hl
  unfold cFun at hc
  split at hc
  · rename_i fn hfn
    split at hc
    · rename_i code res hb hres
      split at hc
      · rename_i ac hac
        obtain rfl := Option.some.inj hc
        simp only at hn h
        have hsc : OSc S.length tk.length S := hr.s.osc
        have hsz : vs.size ≤ fn.ntmps := by rw [hl.1]; exact hn
        have hrel : Rel E B w0 fn.ntmps c.dd c ⟨frA 0 ds, S, tk⟩ { tmps := vs ++ Array.replicate (fn.ntmps - vs.size) undef, defers := [] } w := by
          refine ⟨hr, fun t => ?_, by simp; omega, .nil rfl, fun b hb => hb⟩
          have := get_frA (c := c) vs.toList ds 0 t (by simpa using hl.1) (fun j v d h1 h2 => hl.2 j v d (by simpa using h1) h2) (Nat.zero_le _)
          simp only [Nat.sub_zero, Array.getElem?_toList] at this
          show V c ((vs ++ Array.replicate (fn.ntmps - vs.size) undef).getD t undef) _
          rw [Array.getD_eq_getD_getElem?]
          by_cases ht : t < vs.size
          · rw [Array.getElem?_append_left ht]; exact this
          · rw [Array.getElem?_append_right (by omega)]
            rw [Array.getElem?_eq_none (by omega)] at this
            rw [Array.getElem?_replicate]
            split <;> exact this
        have hwp := code_sound (c0 := c) (ro := none) (rm := 0) code ac hac (.inl rfl) (Qret E S.length tk.length res Post) c _ _ w (Cfg.Le.refl c) hrel (by rw [hr.s.nS, hr.s.mT]; exact h hsc)
        refine (callsIn_wide (n := 0)).1 (callsIn_of_wp_marks (F := Fence.wide) hfn hb trivial (wpIn_mono hwp ?_))
        have fin : ∀ (c' : Cfg) (st : St) (a' : Act) (w' : World), c.Le c' → Rel E B w0 fn.ntmps c.dd c' st a' w' → (∃ ds, resD st.fr st.S res = some ds ∧ ∃ d' S' tk', Shift E S.length tk.length ⟨[(0, tupD ds)], st.S, st.tk⟩ ⟨[(0, d')], S', tk'⟩ ∧ Post d' S' tk') →
            LeavesInM Fence.wide 0 E.P fn a'.tmps (fun e w' => ∃ v c' r S' tk', e = Ending.returned v ∧ c.Le c' ∧ RelE E B w0 c' S' tk' w' ∧ V c' v r ∧ Post r S' tk') a'.defers .returning w' := by
          rintro c' st a' w' hle hrel ⟨rds, hrd, d', S', tk', hsh, hpost⟩
          obtain ⟨ms, m1, m2, m3⟩ := hrel.d
          rw [m1]
          refine leaves_marks (d := .top) (v := undef) ms c' w' hrel.r (.top _) (fun b hb => (m2 b hb).1) m3 (fun w2 l hrl _ hkeep => ?_)
          have hle2 : c.Le (c'.wd l) := ⟨hle.F, hle.n, hle.μ, hle.m, hle.τ, hle.ν, fun b hb => hkeep b (hle.dd b hb) (fun hx => (m2 b hx).2 hb)⟩
          have hfl : FRel (c'.wd l) a'.tmps st.fr := fun t => (hrel.f t).wd
          obtain ⟨vs', h1, h2, h3⟩ := resD_run hrl hfl fn.results.toList res rds hres hrd
          have hval : ∃ v, (results fn a'.tmps).run E.P w2 = .ok v w2 ∧ V (c'.wd l) v (tupD rds) := by
            have hrun : (results fn a'.tmps).run E.P w2 = .ok (if h : vs'.toArray.size = 1 then vs'.toArray[0] else .tuple vs'.toArray) w2 := by
              simp only [results, Sem.run_bind]
              rw [Array.mapM_eq_mapM_toList]
              simp only [Sem.run_map, Sem.run_pure]
              exact Eq.trans (congrArg (fun r : Result (List Value) => (r.andThen fun a w' => Result.ok a.toArray w').andThen fun a w' => Result.ok (if h : a.size = 1 then a[0] else Value.tuple a) w') h1) rfl
            refine ⟨_, hrun, ?_⟩
            match vs', rds, h2, h3 with
            | [v], [d], _, h3 => simpa [tupD] using h3 0 v d rfl rfl
            | [], [], _, _ => simpa [tupD] using V.tup (c := c'.wd l) #[] [] rfl (by simp)
            | v1 :: v2 :: r, d1 :: d2 :: r', hl, h3 =>
              rw [dif_neg (by simp)]
              exact .tup _ _ (by simpa using hl) (fun j v d k1 k2 => h3 j v d (by simpa using k1) k2)
          obtain ⟨v, hv1, hv2⟩ := hval
          obtain ⟨c2, g1, g2, g3, _⟩ := hsh B w0 c (c'.wd l) w2 #[v] hle2 hr.s.nS hr.s.mT hrl (fun t => by
            simp only [get]
            split
            · rename_i h0; subst h0; exact hv2
            · exact .top _)
          refine ⟨v, hv1, v, c2, d', S', tk', rfl, g1, g2, ?_, hpost⟩
          have := g3 0
          simpa [get] using this
        intro e a' w' hq
        cases e with
        | normal =>
          obtain ⟨c', st, k1, k2, k3⟩ := hq
          exact fin c' st a' w' k1 k2 k3
        | ret =>
          obtain ⟨c', st, k1, k2, k3⟩ := hq
          exact fin c' st a' w' k1 k2 k3
        | exit id => obtain ⟨c', st, k1, k2, k3⟩ := hq; exact k3.elim
        | _ => exact hq.elim
      · cases hc
    · cases hc
  · cases hc

/-! ## rounds -/

/-- what a round's temporaries hold -/
def frP : List Nat → List D → List (Nat × D) → List (Nat × D)
  | p :: ps, d :: ds, fr => frP ps ds ((p, d) :: fr)
  | _, _, fr => fr

theorem frP_rel {c : Cfg} : ∀ (ps : List Nat) (ds : List D) (vs : List Value) (tmps : Array Value) (fr : List (Nat × D)), FRel c tmps fr → ps.length = ds.length → vs.length = ds.length → (∀ p, p ∈ ps → p < tmps.size) → (∀ (j : Nat) v d, vs[j]? = some v → ds[j]? = some d → V c v d) →
    FRel c ((ps.zip vs).foldl (fun t (p, a) => t.setIfInBounds p a) tmps) (frP ps ds fr) ∧ ((ps.zip vs).foldl (fun t (p, a) => t.setIfInBounds p a) tmps).size = tmps.size
  | [], [], [], tmps, fr, hf, _, _, _, _ => ⟨hf, rfl⟩
  | [], [], _ :: _, _, _, _, _, h, _, _ => by simp at h
  | [], _ :: _, _, _, _, _, h, _, _, _ => by simp at h
  | _ :: _, [], _, _, _, _, h, _, _, _ => by simp at h
  | _ :: _, _ :: _, [], _, _, _, _, h, _, _ => by simp at h
  | p :: ps, d :: ds, v :: vs, tmps, fr, hf, h1, h2, h3, h4 => by
    simp only [List.zip_cons_cons, List.foldl_cons, frP]
    have hp := h3 p (by simp)
    have := frP_rel ps ds vs (tmps.setIfInBounds p v) ((p, d) :: fr) (fun t => by
      simp only [get]
      by_cases ht : p = t
      · subst ht
        rw [if_pos rfl]
        have : (tmps.setIfInBounds p v).getD p undef = v := by rw [Array.getD_eq_getD_getElem?, Array.getElem?_setIfInBounds_self_of_lt hp]; rfl
        rw [this]; exact h4 0 v d rfl rfl
      · rw [if_neg ht]
        have : (tmps.setIfInBounds p v).getD t undef = tmps.getD t undef := by rw [Array.getD_eq_getD_getElem?, Array.getElem?_setIfInBounds_ne ht, Array.getD_eq_getD_getElem?]
        rw [this]; exact hf t) (by simpa using h1) (by simpa using h2) (fun q hq => by simpa using h3 q (by simp [hq])) (fun j v d a b => h4 (j + 1) v d (by simpa using a) (by simpa using b))
    exact ⟨this.1, by rw [this.2]; simp⟩

/-- behind a round -/
def rndP (E : Env) (n0 m0 : Nat) (id : Nat) (L : LI) (fr : List (Nat × D)) (Post : D → List O → Tks → Prop) : X → St → Prop := fun x st =>
  st.S[id]? = some (.lp L fr .busy none) ∧ match x with
  | .nm => ∃ S' tk', Shift E n0 m0 ⟨[], st.S.set id (.lp L fr .ready none), st.tk⟩ ⟨[], S', tk'⟩ ∧ Post (.bool true) S' tk'
  | .rt => ∃ S' tk', Shift E n0 m0 ⟨[], st.S.set id (.lp L fr .done (some .ret)), st.tk⟩ ⟨[], S', tk'⟩ ∧ Post (.bool false) S' tk'
  | .ex i => ∃ S' tk', Shift E n0 m0 ⟨[], st.S.set id (.lp L fr .done (some (.exit i))), st.tk⟩ ⟨[], S', tk'⟩ ∧ Post (.bool false) S' tk'

theorem AYields.intro {E : Env} {id : Nat} {L : LI} {ps : List Nat} {asg bod : AC} (hR : RoundOf E L ps asg bod) (hn1 : noRfn asg = true) (hn2 : noRfn bod = true) {ds : List D} {S : List O} {tk : Tks} {fr : List (Nat × D)} {Post : D → List O → Tks → Prop}
    (hS : S[id]? = some (.lp L fr .ready none)) (hl : ps.length = ds.length)
    (h : OSc S.length tk.length S → AWp E S.length tk.length asg ⟨frP ps ds fr, S, tk⟩ fun x st => x = .nm ∧ st.S[id]? = some (.lp L fr .ready none) ∧ AWp E S.length tk.length bod ⟨st.fr, st.S.set id (.lp L fr .busy none), st.tk⟩ (rndP E S.length tk.length id L fr Post)) :
    AYields E id ds S tk Post := by
  intro B w0 c w vs hr hv
  obtain ⟨rec, r1, r2, r3, r4, r5, r6, r7, r8, r9, _⟩ := hr.s.putLoop (st' := .busy) (pd' := none) hS
  have hps : rec.params.toList = ps := by rw [r5]; exact hR.hps
  have hsz : vs.size = rec.params.size := by rw [hv.1, ← hl, ← hps]; simp
  refine ⟨rec.fn, _, rec.assign, rec.body, run_yield r1 hsz, ?_⟩
  have hfold : (rec.params.zip vs).foldl (fun tmps (t, a) => tmps.setIfInBounds t a) rec.tmps = (ps.zip vs.toList).foldl (fun t (p, a) => t.setIfInBounds p a) rec.tmps := by
    rw [← Array.foldl_toList, Array.toList_zip, hps]
  rw [hfold]
  obtain ⟨hf1, hn1'⟩ := frP_rel ps ds vs.toList rec.tmps fr r8 hl (by rw [Array.length_toList]; exact hv.1) (fun p hp => by rw [r9]; exact hR.lt p hp) (fun j v d a b => hv.2 j v d (by simpa using a) b)
  have hrel : Rel E B w0 L.nt [] c ⟨frP ps ds fr, S, tk⟩ { tmps := (ps.zip vs.toList).foldl (fun t (p, a) => t.setIfInBounds p a) rec.tmps, defers := [] } w := ⟨hr, hf1, by rw [← r9]; exact hn1', .nil rfl, by simp⟩
  have hw1 := code_sound (c0 := c) (ro := some (c.μ id)) (rm := 0) L.asg asg hR.hasg (.inr hn1) _ c _ _ w (Cfg.Le.refl c) hrel (by rw [hr.s.nS, hr.s.mT]; exact h hr.s.osc)
  rw [r6, r7]
  have hid : id < c.n := hr.s.lt hS
  refine roundIn_of_wpIn (F := Fence.wide) (n := 0) trivial (wpIn_mono hw1 ?_)
  intro e a1 w1 hq
  cases e with
  | normal =>
    obtain ⟨c1, st1, k1, k2, _, k3, k4⟩ := hq
    obtain ⟨rec1, q1, q2, q3, q4, q5, q6, q7, q8, q9, q10⟩ := k2.r.s.putLoop (st' := .busy) (pd' := none) k3
    have hμ : c1.μ id = c.μ id := k1.μ id hid
    rw [hμ] at q1 q10
    have hbr := run_beginRound (P := E.P) q1 q2
    have hsame : ({ rec1 with state := .busy, pending := none } : Loop) = { rec1 with state := .busy } := by rw [← q3]
    rw [hsame] at q10
    refine ⟨_, hbr, ?_⟩
    have hrel1 : Rel E B w0 L.nt [] c1 ⟨st1.fr, st1.S.set id (.lp L fr .busy none), st1.tk⟩ a1 (w1.putObj (c.μ id) (.loop { rec1 with state := .busy })) := ⟨⟨q10, k2.r.g⟩, k2.f, k2.n, k2.d, k2.sub⟩
    have hw2 := code_sound (c0 := c) (ro := some (c.μ id)) (rm := 0) L.bod bod hR.hbod (.inr hn2) _ c1 _ _ _ k1 hrel1 (by rw [hr.s.nS, hr.s.mT]; exact k4)
    refine wpIn_mono hw2 ?_
    have fin : ∀ (jump : Option Code) (stt : LoopState) (c2 : Cfg) (st2 : St) (a2 : Act) (w2 : World), c.Le c2 → Rel E B w0 L.nt [] c2 st2 a2 w2 → st2.S[id]? = some (.lp L fr .busy none) → stt = (if jump.isNone then .ready else .done) →
        (∃ S' tk', Shift E S.length tk.length ⟨[], st2.S.set id (.lp L fr stt jump), st2.tk⟩ ⟨[], S', tk'⟩ ∧ Post (.bool jump.isNone) S' tk') →
        ∃ v w', (Instr.endRound (c.μ id) jump).run E.P w2 = .ok v w' ∧ ∃ v' c' r S' tk', Ending.returned v = .returned v' ∧ c.Le c' ∧ RelE E B w0 c' S' tk' w' ∧ V c' v' r ∧ Post r S' tk' := by
      rintro jump stt c2 st2 a2 w2 hle hrel2 hS2 rfl ⟨S', tk', hsh, hpost⟩
      obtain ⟨rec2, p1, p2, p3, p4, p5, p6, p7, p8, p9, p10⟩ := hrel2.r.s.putLoop (st' := if jump.isNone then .ready else .done) (pd' := jump) hS2
      have hμ2 : c2.μ id = c.μ id := hle.μ id hid
      rw [hμ2] at p1 p10
      have her := run_endRound (P := E.P) jump p1
      obtain ⟨c3, g1, g2, g3, _⟩ := hsh B w0 c c2 _ #[] hle hr.s.nS hr.s.mT ⟨p10, hrel2.r.g⟩ (fun t => .top _)
      exact ⟨_, _, her, _, c3, _, S', tk', rfl, g1, g2, .bool _, hpost⟩
    intro e2 a2 w2 hq2
    cases e2 with
    | normal => obtain ⟨c2, st2, j1, j2, j3, j4⟩ := hq2; exact fin none _ c2 st2 a2 w2 j1 j2 j3 rfl j4
    | ret => obtain ⟨c2, st2, j1, j2, j3, j4⟩ := hq2; exact fin (some .ret) _ c2 st2 a2 w2 j1 j2 j3 rfl j4
    | exit i => obtain ⟨c2, st2, j1, j2, j3, j4⟩ := hq2; exact fin (some (.exit i)) _ c2 st2 a2 w2 j1 j2 j3 rfl j4
    | _ => exact hq2.elim
  | exit i => obtain ⟨c1, st1, k1, k2, k3, _⟩ := hq; cases k3
  | ret => obtain ⟨c1, st1, k1, k2, k3, _⟩ := hq; cases k3
  | _ => exact hq.elim

end Go.KL
