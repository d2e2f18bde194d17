/- A step is sound; a region in order is sound. -/
import Derived.Test.YtjjdfplonbgpbaaDoorKL14M
set_option linter.unusedVariables false
set_option linter.unusedSimpArgs false
namespace Go.KL
open Go Go.RowKit

def isPure : Ins → Bool
  | .alloc _ _ | .box _ _ | .st _ _ _ | .app _ _ _ _ _ _ _ | .call _ _ | .callv _ _ | .extn _ _ | .mkmap _ | .mksl _ _ _ _ _ _ => false
  | .mset _ _ _ _ | .ment _ _ _ _ | .mest _ _ _ | .mdel _ _ _ | .rngM _ | .nxt _ => false
  | _ => true

theorem aop_pure {E : Env} {i : Ins} {fr : List (Nat × D)} {S : List O} {tk : Tks} {K : D → List O → Tks → Prop} (hi : isPure i = true) : aop E i fr S tk K = match pv E fr S i with
    | some d => K d S tk
    | none => False := by
  cases i <;> first | rfl | (simp [isPure] at hi)

section
variable {E : Env} {B : Nat} {w0 : World} {c : Cfg} {w : World} {a : Act} {fr : List (Nat × D)} {S : List O} {tk : Tks}

theorem app_sound {P : Program} {T ty e : TypeId} {i : TypeInfo} {zs : List D} (hu : P.underlying T = some (.slice e)) (hi : P.info? e = some i) (hz : zeroT P e = some zs) (hsz : i.size = zs.length)
    (hr : RelE E B w0 c S tk w) {v x : Value} {d : D} {src : List (List D)} (hv : V c v d) (hx : Src c w x src i.size) {K : D → List O → Tks → Prop}
    (h : appP e i.size i.bytes src S tk K d) :
    ∃ v' w' c' d' S' tk', (Builtin.append_ #[T, T] ty #[v, x]).run P w = .ok v' w' ∧ K d' S' tk' ∧ c.Le c' ∧ RelE E B w0 c' S' tk' w' ∧ V c' v' d' := by
  obtain ⟨z, hzr, hzc, hzl, _, hi', hzi⟩ := zeroT_run (c := c) (w := w) hz
  rw [hi] at hi'
  obtain rfl := Option.some.inj hi'
  have hzs : z.cells.size = i.size := by rw [hzc.1, hsz]
  have fresh : ∀ A, v = .slice A 0 0 → ((∀ s ∈ src, s.length = i.size) ∧ src.length ≤ maxLen ∧ src.length * i.bytes ≤ 140737488355328) → (K (.gsl src tk.length) S (tk ++ [(src.length, e, i.size)]) ∨ K (.vec S.length src.length i.size) (S ++ [.vec src e i.size]) tk) →
      ∃ v' w' c' d' S' tk', (Builtin.append_ #[T, T] ty #[v, x]).run P w = .ok v' w' ∧ K d' S' tk' ∧ c.Le c' ∧ RelE E B w0 c' S' tk' w' ∧ V c' v' d' := by
    rintro A rfl ⟨h1, h2, h3⟩ (hK | hK)
    case inr =>
      obtain ⟨c1, k1, k2, k3, k4⟩ := hr.s.newvec e i.size
      have hn := hr.s.nS
      have hd : (S ++ [O.vec [] e i.size])[c.n]? = some (O.vec [] e i.size) := by rw [hn]; simp
      obtain ⟨v', w', c', g1, g2, g3, g4⟩ := k4.vgrow (P := P) (es := []) hd (k3 A) (hx.mono k1) h1 T ty i z hu hi hzi rfl hzs (by simpa using h2) (by simpa using h3)
      have hset : (S ++ [O.vec [] e i.size]).set c.n (O.vec ([] ++ src) e i.size) = S ++ [O.vec src e i.size] := by
        rw [hn, List.set_append_right _ _ (Nat.le_refl _)]; simp
      rw [hset] at g3
      rw [List.nil_append, hn] at g4
      exact ⟨v', w', c', _, _, _, g1, hK, k1.trans g2, ⟨g3, hr.g.mono (k1.trans g2)⟩, g4⟩
    obtain ⟨c1, k1, k2, k3, k4⟩ := hr.s.newtok e i.size
    have hm := hr.s.mT
    have ht : (tk ++ [(0, e, i.size)])[c.m]? = some (([] : List (List D)).length, e, i.size) := by rw [hm]; simp
    obtain ⟨v', w', c', g1, g2, g3, g4⟩ := k4.grow (P := P) (k3 A) ht (hx.mono k1) h1 T ty i z hu hi hzi rfl hzs (by simpa using h2) (by simpa using h3)
    have hset : (tk ++ [(0, e, i.size)]).set c.m (([] ++ src : List (List D)).length, e, i.size) = tk ++ [(src.length, e, i.size)] := by
      rw [hm, List.set_append_right _ _ (Nat.le_refl _)]; simp
    rw [hset] at g3
    rw [List.nil_append, hm] at g4
    exact ⟨v', w', c', _, _, _, g1, hK, k1.trans g2, ⟨g3, hr.g.mono (k1.trans g2)⟩, g4⟩
  unfold appP at h
  split at h
  · rename_i es t
    obtain ⟨⟨h1, h2, h3, h4⟩, hK⟩ := h
    obtain ⟨v', w', c', g1, g2, g3, g4⟩ := hr.s.grow (P := P) hv h1 hx h2 T ty i z hu hi hzi rfl hzs h3 h4
    exact ⟨v', w', c', _, _, _, g1, hK, g2, ⟨g3, hr.g.mono g2⟩, g4⟩
  · rename_i id n sz'
    split at h
    · rename_i es e' sz'' hes
      obtain ⟨⟨rfl, rfl, rfl, h2, h3, h4⟩, hK⟩ := h
      obtain ⟨v', w', c', g1, g2, g3, g4⟩ := hr.s.vgrow (P := P) hes hv hx h2 T ty i z hu hi hzi rfl hzs h3 h4
      exact ⟨v', w', c', _, _, _, g1, hK, g2, ⟨g3, hr.g.mono g2⟩, g4⟩
    · exact h.elim
  · exact fresh none hv.nilslInv h.1 h.2
  · obtain ⟨A, hA⟩ : ∃ A, v = .slice A 0 0 := by
      cases hv with
      | fullnil => exact ⟨_, rfl⟩
      | full a es sz vs _ _ _ => exact ⟨_, rfl⟩
    exact fresh A hA h.1 h.2
  · rename_i es
    obtain ⟨rfl, hK⟩ := h
    obtain ⟨A, n, cap, rfl, hcap⟩ : ∃ A n cap, v = .slice A n cap ∧ n ≤ cap := by
      rcases hv.slForm with ⟨rfl, _⟩ | ⟨ad, cap, rfl, hc⟩
      · exact ⟨_, _, _, rfl, Nat.le_refl _⟩
      · exact ⟨_, _, _, rfl, hc⟩
    obtain ⟨A', c', rfl⟩ : ∃ A' c', x = .slice A' 0 c' := by
      rcases hx with ⟨_, A, c, rfl⟩ | ⟨a, cap, _, rfl, _⟩
      · exact ⟨_, _, rfl⟩
      · exact ⟨_, _, rfl⟩
    exact ⟨_, w, c, _, _, _, run_append_empty T ty e i hu hi A n cap hcap A' c', hK, Cfg.Le.refl c, hr, hv⟩
  · rename_i es hne
    obtain ⟨⟨h0, h1, h2, h3, h4⟩, hK⟩ := h
    obtain ⟨v', w', c', g1, g2, g3, g4⟩ := hr.s.vgrowFull (P := P) hv (fun e0 => hne e0) hx h1 h2 h0 T ty i z hu hi hzi rfl hzs h3 h4
    exact ⟨v', w', c', _, _, _, g1, hK, g2, ⟨g3, hr.g.mono g2⟩, g4⟩
  · exact h.elim

theorem srcD_src {sz : Nat} {x : Value} {d : D} {src : List (List D)} (hr : RelE E B w0 c S tk w) (hx : V c x d) (h : srcD S sz d = some src) (hsrc : (∀ s ∈ src, s.length = sz) ∨ src = []) : Src c w x src sz := by
  have hs : ∀ s ∈ src, s.length = sz := by
    rcases hsrc with h | rfl
    · exact h
    · simp
  unfold srcD at h
  split at h
  · split at h
    · rename_i es e' sz' hes
      split at h
      · rename_i hc
        obtain rfl := Option.some.inj h
        obtain ⟨rfl, rfl⟩ := hc
        exact Src.of_vec hr.s hes hx
      · cases h
    · cases h
  · split at h
    · rename_i cs hcs
      split at h
      · rename_i hc
        obtain rfl := Option.some.inj h
        obtain ⟨rfl, hle⟩ := hc
        exact Src.of_osl hr.s hcs hx hle
      · cases h
    · cases h
  · exact Src.of_sl hr.s (hx.rd h) hs

theorem appP_sizes {e : TypeId} {sz bytes : Nat} {src : List (List D)} {K : D → List O → Tks → Prop} {d : D} (h : appP e sz bytes src S tk K d) : (∀ s ∈ src, s.length = sz) ∨ src = [] := by
  unfold appP at h
  split at h
  · exact .inl h.1.2.1
  · split at h
    · exact .inl h.1.2.2.2.1
    · exact h.elim
  · exact .inl h.1.1
  · exact .inl h.1.1
  · exact .inr h.1
  · exact .inl h.1.2.2.1
  · exact h.elim

theorem cIns_nodefer {P : Program} {o : Oper} {i : Ins} (hc : cIns P o = some i) : ∀ c, o.op ≠ .defer c := by
  intro c hop
  unfold cIns at hc
  rw [hop] at hc
  simp at hc

theorem aop_sound {r : Option Nat} {rm : Nat} {o : Oper} {i : Ins} (hc : cIns E.P o = some i) (hr : RelE E B w0 c S tk w) (hf : FRel c a.tmps fr) {K : D → List O → Tks → Prop} (h : aop E i fr S tk K) (Q : Exit → Act → World → Prop) :
    o.wpIn (FW r) rm E.P a w (NX E B w0 c a o.dst K) Q := by
  have hg := hr.g
  have hnd := cIns_nodefer hc
  cases hpi : isPure i with
  | true =>
    rw [aop_pure hpi] at h
    split at h
    · rename_i d hd
      obtain ⟨v, w', c', h1, h2, h3, h4⟩ := pv_sound hc hr hf hd
      exact wp_val hnd h1 ⟨v, c', d, _, _, rfl, h, h2, h3, h4⟩
    · exact h.elim
  | false =>
    unfold cIns at hc
    split at hc
    case h_1 => simp only [Option.map_eq_some_iff] at hc; obtain ⟨y, _, rfl⟩ := hc; cases hpi
    case h_2 => simp only [Option.map_eq_some_iff] at hc; obtain ⟨y, _, rfl⟩ := hc; cases hpi
    case h_3 =>
      split at hc
      · cases hc; cases hpi
      · cases hc
    case h_4 T ho =>
      simp only [Option.map_eq_some_iff] at hc
      obtain ⟨zs, hz, rfl⟩ := hc
      obtain ⟨w', c', k1, k2, k3, k4⟩ := alloc_sound (P := E.P) hz hr
      exact wp_val hnd (by simp only [execOp, ho]; exact map_ok k1) ⟨_, c', _, _, _, rfl, h, k2, k3, k4⟩
    case h_5 T x ho =>
      simp only [Option.map_eq_some_iff] at hc
      obtain ⟨y, hy, rfl⟩ := hc
      obtain ⟨⟨h1, h2⟩, hK⟩ := h
      obtain ⟨w', c', k1, k2, k3, k4⟩ := box_sound (P := E.P) (T := T) (eval_V (a := a) hg hf hy) h1 h2 hr
      exact wp_val hnd (by simp only [execOp, ho]; exact map_ok k1) ⟨_, c', _, _, _, rfl, hK, k2, k3, k4⟩
    case h_6 =>
      split at hc
      · split at hc
        · simp only [Option.map_eq_some_iff] at hc; obtain ⟨y, _, rfl⟩ := hc; cases hpi
        · cases hc
      · split at hc
        · simp only [Option.map_eq_some_iff] at hc; obtain ⟨y, _, rfl⟩ := hc; cases hpi
        · cases hc
      · cases hc
    case h_7 =>
      split at hc
      · split at hc
        · split at hc
          · simp only [Option.map_eq_some_iff] at hc; obtain ⟨y, _, rfl⟩ := hc; cases hpi
          · cases hc
        · cases hc
      · cases hc
    case h_8 =>
      split at hc
      · cases hc; cases hpi
      · cases hc
    case h_9 T x v ho =>
      split at hc
      · rename_i n ag y z hsz hx hv
        obtain rfl := Option.some.inj hc
        have hvx := eval_V (a := a) hg hf hx
        have hvv := eval_V (a := a) hg hf hv
        simp only [aop] at h
        split at h
        · rename_i id off he
          rw [he] at hvx
          split at h
          · rename_i cs hcs
            obtain ⟨⟨h1, h2, h3, h4⟩, hK⟩ := h
            obtain ⟨w', k1, k2⟩ := st_sound (P := E.P) hsz hr hvx hvv hcs h1 h2 h3 h4
            refine wp_skip' hnd (w' := w') ?_ ⟨_, c, _, _, _, rfl, hK, Cfg.Le.refl c, k2, .top _⟩
            simp only [execOp, ho, Sem.run_bind, k1, Result.andThen_ok, Sem.run_pure]
          · exact h.elim
        · rename_i id m i j he
          rw [he] at hvx
          split at h
          · rename_i es e sz hes
            obtain ⟨row, hrow, ⟨h1, h2, h3, h4, h5⟩, hK⟩ := h
            obtain ⟨w', c', k1, k2, k3⟩ := sv_sound (P := E.P) hsz hr hvx hvv hes hrow h1 h2 h3 h4 h5
            refine wp_skip' hnd (w' := w') ?_ ⟨_, c', _, _, _, rfl, hK, k2, k3, .top _⟩
            simp only [execOp, ho, Sem.run_bind, k1, Result.andThen_ok, Sem.run_pure]
          · exact h.elim
        · exact h.elim
      · cases hc
    case h_10 => simp only [Option.map_eq_some_iff] at hc; obtain ⟨y, _, rfl⟩ := hc; cases hpi
    case h_11 =>
      split at hc
      · split at hc
        · simp only [Option.map_eq_some_iff] at hc; obtain ⟨y, _, rfl⟩ := hc; cases hpi
        · cases hc; cases hpi
      · cases hc
    case h_12 => simp only [Option.map_eq_some_iff] at hc; obtain ⟨y, _, rfl⟩ := hc; cases hpi
    case h_13 =>
      split at hc
      · cases hc; cases hpi
      · cases hc; cases hpi
      · split at hc
        · cases hc; cases hpi
        · cases hc
      · cases hc
    case h_14 =>
      split at hc
      · simp only [Option.map_eq_some_iff] at hc; obtain ⟨y, _, rfl⟩ := hc; cases hpi
      · split at hc
        · cases hc; cases hpi
        · cases hc
    case h_15 =>
      split at hc
      · split at hc
        · split at hc
          · split at hc
            · cases hc
            · cases hc; cases hpi
          · cases hc
        · cases hc
      · cases hc
    case h_16 =>
      split at hc
      · split at hc
        · split at hc
          · cases hc; cases hpi
          · cases hc
        · cases hc
      · cases hc
    case h_17 =>
      split at hc
      · split at hc
        · cases hc; cases hpi
        · cases hc
      · split at hc
        · cases hc; cases hpi
        · cases hc
      · cases hc
    case h_18 =>
      split at hc
      · split at hc
        · cases hc; cases hpi
        · cases hc
      · cases hc; cases hpi
      · cases hc
    case h_19 =>
      split at hc
      · cases hc; cases hpi
      · split at hc
        · split at hc
          · cases hc; cases hpi
          · cases hc
        · cases hc
      · split at hc
        · cases hc; cases hpi
        · cases hc
      · cases hc
    case h_20 => simp only [Option.map_eq_some_iff] at hc; obtain ⟨y, _, rfl⟩ := hc; cases hpi
    case h_21 T ho =>
      split at hc
      case h_2 => cases hc
      simp only [Option.map_eq_some_iff] at hc
      obtain ⟨kt, _, rfl⟩ := hc
      obtain ⟨c', h1, h2, h3, h5, h4⟩ := hr.s.push (.map #[] 0) (.map kt [] 0) rfl (fun c' _ => ⟨#[], rfl, rfl, by simp, by simp⟩)
      refine wp_val hnd (v := .map (some w.heap.size)) (w' := w.alloc (.map #[] 0)) ?_ ⟨_, c', _, _, _, rfl, h, h1, ⟨h4, hg.mono h1⟩, ?_⟩
      · simp only [execOp, ho, Option.map_none]; rfl
      · have := V.map (c := c') c.n (by omega) h5
        rw [h3] at this
        rw [← hr.s.nS]; exact this
    case h_22 T l c0 ho =>
      split at hc
      · rename_i e y z hu hl hcp
        split at hc
        · rename_i inf zs hi hz
          split at hc
          · rename_i hcnd
            obtain rfl := Option.some.inj hc
            have hvl := eval_V (a := a) hg hf hl
            have hvc := eval_V (a := a) hg hf hcp
            simp only [aop] at h
            split at h
            · rename_i k n k' m he1 he2
              rw [he1] at hvl; rw [he2] at hvc
              obtain ⟨⟨h1, rfl, h2, h3⟩, hK⟩ := h
              obtain ⟨v, w', c', g1, g2, g3, g4⟩ := mksl_sound (P := E.P) hu hi hz hcnd.1 hcnd.2 hr (k := k) (k' := k') h1 h2 h3
              exact wp_val hnd (w' := w') (by simp only [execOp, ho, hvl.intInv, hvc.intInv]; exact map_ok g1) ⟨_, c', _, _, _, rfl, hK, g2, g3, g4⟩
            · exact h.elim
          · cases hc
        · cases hc
      · cases hc
    case h_23 cl ho =>
      split at hc
      · rename_i f hcal
        split at hc
        · rename_i ys hys
          have hl := evals_VL (a := a) hg hf hys
          have hrun : (execOp a.eval o).run E.P w = (callFunc f (cl.args.map a.eval)).run E.P w := by
            simp only [execOp, ho, resolve, hcal, Sem.run_bind, Sem.run_pure, Result.andThen_ok, Act.eval, Deferred.ofValue, invoke]
            simp [invoke]
          split at hc
          · rename_i hok
            obtain rfl := Option.some.inj hc
            exact call_sound hnd hrun hok hr hl h
          · split at hc
            · obtain rfl := Option.some.inj hc
              obtain ⟨d, hd, hK⟩ := h
              obtain ⟨v, g1, g2⟩ := hd B w0 c S tk w _ hr hl
              exact wp_val hnd (hrun.trans g1) ⟨v, c, d, _, _, rfl, hK, Cfg.Le.refl c, hr, g2⟩
            · cases hc
        · cases hc
      · rename_i x hnf hcal
        split at hc
        · rename_i y ys hy hys
          obtain rfl := Option.some.inj hc
          have hl := evals_VL (a := a) hg hf hys
          have hvx := eval_V (a := a) hg hf hy
          simp only [aop] at h
          split at h
          · rename_i f caps he
            rw [he] at hvx
            obtain ⟨cs, had, hcs⟩ := hvx.fnInv
            have hrun : (execOp a.eval o).run E.P w = (callFunc f (cl.args.map a.eval ++ cs)).run E.P w := by
              simp only [execOp, ho, resolve, hcal, Sem.run_bind, had, Deferred.ofValue, Sem.run_pure, Result.andThen_ok]
              simp [invoke]
            refine call_sound hnd hrun h.1 hr ⟨by simp [hl.1, hcs.1], fun j v d h1 h2 => ?_⟩ h.2
            by_cases hj : j < (cl.args.map a.eval).size
            · rw [Array.getElem?_append_left hj] at h1
              rw [List.getElem?_append_left (by rw [← hl.1]; exact hj)] at h2
              exact hl.2 j v d h1 h2
            · rw [Array.getElem?_append_right (by omega)] at h1
              rw [List.getElem?_append_right (by rw [← hl.1]; omega), ← hl.1] at h2
              exact hcs.2 _ v d h1 h2
          · rename_i f fs caps he
            rw [he] at hvx
            obtain ⟨fv, cs, had, hfs, hcs⟩ := hvx.bmInv
            have hrun : (execOp a.eval o).run E.P w = (callFunc f (fv ++ cl.args.map a.eval ++ cs)).run E.P w := by
              simp only [execOp, ho, resolve, hcal, Sem.run_bind, had, Deferred.ofValue, Sem.run_pure, Result.andThen_ok]
              simp [invoke]
            have app : ∀ {x y : Array Value} {p q : List D}, VL c x p → VL c y q → VL c (x ++ y) (p ++ q) := fun {x y p q} hx hy => ⟨by simp [hx.1, hy.1], fun j v d h1 h2 => by
              by_cases hj : j < x.size
              · rw [Array.getElem?_append_left hj] at h1
                rw [List.getElem?_append_left (by rw [← hx.1]; exact hj)] at h2
                exact hx.2 j v d h1 h2
              · rw [Array.getElem?_append_right (by omega)] at h1
                rw [List.getElem?_append_right (by rw [← hx.1]; omega), ← hx.1] at h2
                exact hy.2 _ v d h1 h2⟩
            exact call_sound hnd hrun h.1 hr (app (app hfs hl) hcs) h.2
          · rename_i id he
            rw [he] at hvx
            obtain ⟨had, _, _⟩ := hvx.yldInv
            have hrun : (execOp a.eval o).run E.P w = (Instr.yield (c.μ id) (cl.args.map a.eval)).run E.P w := by
              simp only [execOp, ho, resolve, hcal, Sem.run_bind, had, Deferred.ofValue, Sem.run_pure, Result.andThen_ok]
              simp [invoke]
            exact yield_sound hnd hrun hr hl h
          · exact h.elim
        · cases hc
      · split at hc
        · split at hc
          · cases hc; cases hpi
          · cases hc; cases hpi
          · cases hc; cases hpi
          · cases hc; cases hpi
          · cases hc
        · cases hc
      · rename_i hcal
        split at hc
        · rename_i x y T T' hargs htys
          split at hc
          · rename_i hTT
            subst hTT
            split at hc
            · rename_i e x' y' hu hx hy
              split at hc
              · rename_i inf zs hi hz
                split at hc
                · rename_i hcnd
                  obtain rfl := Option.some.inj hc
                  have e1 : cl.args = #[x, y] := by apply Array.toList_inj.1; rw [hargs]
                  have e2 : cl.argTypes = #[T, T] := by apply Array.toList_inj.1; rw [htys]
                  simp only [aop] at h
                  split at h
                  · rename_i src hsrc
                    obtain ⟨v', w', c', d', S', tk', g1, g2, g3, g4, g5⟩ := app_sound (P := E.P) (ty := o.type) hu hi hz hcnd.1 hr (eval_V (a := a) hg hf hx) (srcD_src hr (eval_V (a := a) hg hf hy) hsrc (appP_sizes h)) (K := K) h
                    refine wp_val hnd (v := v') (w' := w') ?_ ⟨v', c', d', S', tk', rfl, g2, g3, g4, g5⟩
                    simp only [execOp, ho, resolve, hcal, Sem.run_bind, Sem.run_pure, Result.andThen_ok, invoke, builtin, e1, e2, List.map_toArray, List.map_cons, List.map_nil, g1]
                  · exact h.elim
                · cases hc
              · cases hc
            · cases hc
          · cases hc
        · cases hc
      · simp only [Option.map_eq_some_iff] at hc; obtain ⟨y, _, rfl⟩ := hc; cases hpi
      · simp only [Option.map_eq_some_iff] at hc; obtain ⟨y, _, rfl⟩ := hc; cases hpi
      · rename_i hcal
        split at hc
        · rename_i x k T ts hargs htys
          split at hc
          · rename_i kT e x' k' hu hx hk
            simp only [Option.map_eq_some_iff] at hc
            obtain ⟨kt, hT, rfl⟩ := hc
            have e1 : cl.args = #[x, k] := by apply Array.toList_inj.1; rw [hargs]
            have e2 : cl.argTypes[0]? = some T := by rw [← Array.getElem?_toList, htys]; rfl
            have hvx := eval_V (a := a) hg hf hx
            have hvk := eval_V (a := a) hg hf hk
            have hrun : ∀ {w'}, (Builtin.delete_ cl.argTypes o.type #[a.eval x, a.eval k]).run E.P w = .ok (.tuple #[]) w' → (execOp a.eval o).run E.P w = .ok (.value (.tuple #[])) w' := fun {w'} hd => by
              simp only [execOp, ho, resolve, hcal, Sem.run_bind, Sem.run_pure, Result.andThen_ok, invoke, builtin, e1, List.map_toArray, List.map_cons, List.map_nil, hd]
            simp only [aop] at h
            split at h
            · rename_i he
              rw [he] at hvx
              exact wp_val hnd (hrun (mdelnil_sound (P := E.P) hu hT _ e2 hvx hvk h.1)) ⟨_, c, _, _, _, rfl, h.2, Cfg.Le.refl c, hr, .tup _ _ rfl (by simp)⟩
            · rename_i id he
              rw [he] at hvx
              split at h
              · rename_i kt' kv clk hS
                obtain ⟨⟨rfl, hkk⟩, hK⟩ := h
                obtain ⟨w', g1, g2⟩ := mdel_sound (P := E.P) (T' := 0) (ty := o.type) hu hT hr _ e2 hvx hS hvk hkk
                exact wp_val hnd (hrun g1) ⟨_, c, _, _, _, rfl, hK, Cfg.Le.refl c, g2, .tup _ _ rfl (by simp)⟩
              · exact h.elim
            · exact h.elim
          · cases hc
        · cases hc
      · cases hc
    case h_24 =>
      split at hc
      · split at hc
        · cases hc; cases hpi
        · cases hc
      · cases hc
    case h_25 T x k v ho =>
      split at hc
      · rename_i kT e x' k' v' hu hx hk hv
        simp only [Option.map_eq_some_iff] at hc
        obtain ⟨kt, hT, rfl⟩ := hc
        have hvx := eval_V (a := a) hg hf hx
        simp only [aop] at h
        split at h
        · rename_i id he
          rw [he] at hvx
          split at h
          · rename_i kt' kv clk hS
            obtain ⟨⟨rfl, hkk⟩, hK⟩ := h
            obtain ⟨w', g1, g2⟩ := mset_sound (P := E.P) hu hT hr hvx hS (eval_V (a := a) hg hf hk) hkk (eval_V (a := a) hg hf hv)
            exact wp_skip' hnd (w' := w') (by simp only [execOp, ho, Sem.run_bind, g1, Result.andThen_ok, Sem.run_pure]) ⟨_, c, _, _, _, rfl, hK, Cfg.Le.refl c, g2, .top _⟩
          · exact h.elim
        · exact h.elim
      · cases hc
    case h_26 T x k v ho =>
      split at hc
      · rename_i kT e x' k' v' hu hx hk hv
        simp only [Option.map_eq_some_iff] at hc
        obtain ⟨kt, hT, rfl⟩ := hc
        have hvx := eval_V (a := a) hg hf hx
        simp only [aop] at h
        split at h
        · rename_i id he
          rw [he] at hvx
          split at h
          · rename_i kt' kv clk hS
            obtain ⟨⟨rfl, hkk⟩, hK⟩ := h
            obtain ⟨w', g1, g2⟩ := mset_sound (P := E.P) hu hT hr hvx hS (eval_V (a := a) hg hf hk) hkk (eval_V (a := a) hg hf hv)
            exact wp_skip' hnd (w' := w') (by simp only [execOp, ho, Sem.run_bind, g1, Result.andThen_ok, Sem.run_pure]) ⟨_, c, _, _, _, rfl, hK, Cfg.Le.refl c, g2, .top _⟩
          · exact h.elim
        · exact h.elim
      · cases hc
    case h_27 T x k ho =>
      split at hc
      · rename_i kT e x' k' hu hx hk
        split at hc
        · rename_i kt z hT hz
          obtain rfl := Option.some.inj hc
          have hvx := eval_V (a := a) hg hf hx
          simp only [aop] at h
          split at h
          · rename_i id he
            rw [he] at hvx
            split at h
            · rename_i kt' kv clk hS
              obtain ⟨⟨rfl, hkk⟩, hK⟩ := h
              obtain ⟨u, w', g1, g2, g3⟩ := ment_sound (P := E.P) hu hT hz hr hvx hS (eval_V (a := a) hg hf hk) hkk
              exact wp_val hnd (w' := w') (by simp only [execOp, ho]; exact map_ok g1) ⟨_, c, _, _, _, rfl, hK, Cfg.Le.refl c, g2, g3⟩
            · exact h.elim
          · exact h.elim
        · cases hc
      · cases hc
    case h_28 T x s v ho =>
      split at hc
      · rename_i x' s' v' hx hs hv
        obtain rfl := Option.some.inj hc
        have hvx := eval_V (a := a) hg hf hx
        have hvs := eval_V (a := a) hg hf hs
        simp only [aop] at h
        split at h
        · rename_i id n he1 he2
          rw [he1] at hvx
          rw [he2] at hvs
          split at h
          · rename_i kt kv clk hS
            obtain ⟨⟨h0, hex⟩, hK⟩ := h
            obtain ⟨w', g1, g2⟩ := mest_sound (P := E.P) (T := T) hr hvx hS (eval_V (a := a) hg hf hv) h0 hex
            exact wp_skip' hnd (w' := w') (by simp only [execOp, ho, hvs.intInv, Sem.run_bind, g1, Result.andThen_ok, Sem.run_pure]) ⟨_, c, _, _, _, rfl, hK, Cfg.Le.refl c, g2, .top _⟩
          · exact h.elim
        · exact h.elim
      · cases hc
    case h_29 T x ho =>
      split at hc
      · rename_i kT e x' hu hx
        obtain rfl := Option.some.inj hc
        have hvx := eval_V (a := a) hg hf hx
        simp only [aop] at h
        split at h
        · rename_i he
          rw [he] at hvx
          obtain ⟨u, w', c', g1, g2, g3, g4⟩ := rngnil_sound (P := E.P) hu hr hvx
          exact wp_val hnd (w' := w') (by simp only [execOp, ho]; exact map_ok g1) ⟨_, c', _, _, _, rfl, h, g2, g3, g4⟩
        · rename_i id he
          rw [he] at hvx
          split at h
          · rename_i kt kv clk hS
            obtain ⟨u, w', c', g1, g2, g3, g4⟩ := rng_sound (P := E.P) hu hr hvx hS
            exact wp_val hnd (w' := w') (by simp only [execOp, ho]; exact map_ok g1) ⟨_, c', _, _, _, rfl, h, g2, g3, g4⟩
          · exact h.elim
        · exact h.elim
      · cases hc
    case h_30 x ho =>
      simp only [Option.map_eq_some_iff] at hc
      obtain ⟨y, hy, rfl⟩ := hc
      obtain ⟨u, w', d, S', g1, g2, g3, g4⟩ := nxt_sound (P := E.P) (ty := o.type) hr (eval_V (a := a) hg hf hy) h
      exact wp_val hnd (w' := w') (by simp only [execOp, ho]; exact map_ok g1) ⟨_, c, _, _, _, rfl, g2, Cfg.Le.refl c, g3, g4⟩
    case h_31 => simp only [Option.map_eq_some_iff] at hc; obtain ⟨y, _, rfl⟩ := hc; cases hpi
    case h_32 => cases hc

end
end Go.KL
