/- The small code is sound; functions. -/
import Derived.Test.YtmijcaccgbhgdaaDoorKL19
import Derived.Deep.LoopGhost
set_option linter.unusedVariables false
set_option linter.unusedSimpArgs false
namespace Go.KL
open Go Go.RowKit

section
variable {E : Env} {B : Nat} {w0 : World} {nt : Nat} {c0 : Cfg}

def QL (E : Env) (B : Nat) (w0 : World) (nt : Nat) (c0 : Cfg) (Q : X → St → Prop) : Exit → Act → World → Prop := fun e a w =>
  match e with
  | .normal => ∃ c st, c0.Le c ∧ Rel E B w0 nt c st a w ∧ Q .nm st
  | .exit id => ∃ c st, c0.Le c ∧ Rel E B w0 nt c st a w ∧ Q (.ex id) st
  | .ret => ∃ c st, c0.Le c ∧ Rel E B w0 nt c st a w ∧ Q .rt st
  | _ => False

theorem QL.mono {Q Q' : X → St → Prop} (h : ∀ x st, Q x st → Q' x st) {e : Exit} {a : Act} {w : World} (hq : QL E B w0 nt c0 Q e a w) : QL E B w0 nt c0 Q' e a w := by
  cases e <;> first
    | (obtain ⟨c, st, h1, h2, h3⟩ := hq; exact ⟨c, st, h1, h2, h _ _ h3⟩)
    | exact hq

theorem code_sound : ∀ (code : Code) (ac : AC), cCode E.P nt code = some ac → ∀ (Q : X → St → Prop) (c : Cfg) (st : St) (a : Act) (w : World), c0.Le c → Rel E B w0 nt c st a w → AWp E c0.n c0.m ac st Q → code.wp E.P (QL E B w0 nt c0 Q) a w
  | .skip, ac, hc, Q, c, st, a, w, h0, hr, h => by
    simp only [cCode, Option.some.injEq] at hc; subst hc
    exact wp_skip ⟨c, st, h0, hr, h⟩
  | .label l, ac, hc, Q, c, st, a, w, h0, hr, h => by
    simp only [cCode, Option.some.injEq] at hc; subst hc
    exact wp_label ⟨c, st, h0, hr, h⟩
  | .exit id, ac, hc, Q, c, st, a, w, h0, hr, h => by
    simp only [cCode, Option.some.injEq] at hc; subst hc
    exact wp_exit ⟨c, st, h0, hr, h⟩
  | .ret, ac, hc, Q, c, st, a, w, h0, hr, h => by
    simp only [cCode, Option.some.injEq] at hc; subst hc
    exact wp_ret ⟨c, st, h0, hr, h⟩
  | .region id ops draw, ac, hc, Q, c, st, a, w, h0, hr, h => by
    simp only [cCode] at hc
    split at hc
    · rename_i cis hcc
      cases draw with
      | true =>
        simp only [if_true, Option.map_eq_some_iff] at hc
        obtain ⟨l, hd, rfl⟩ := hc
        exact draw_sound hcc hd hr h fun c' a' w' st' k1 k2 k3 => ⟨c', st', h0.trans k1, k2, k3⟩
      | false =>
        simp only [Bool.false_eq_true, if_false, Option.some.injEq] at hc
        subst hc
        exact wp_region_list (aops_sound _ _ hcc c a w st hr h fun c' a' w' st' k1 k2 k3 => ⟨c', st', h0.trans k1, k2, k3⟩)
    · cases hc
  | .seq x y, ac, hc, Q, c, st, a, w, h0, hr, h => by
    simp only [cCode] at hc
    split at hc
    · rename_i ax ay hx hy
      obtain rfl := Option.some.inj hc
      refine wp_seq (wp_mono (code_sound x ax hx _ c st a w h0 hr h) ?_)
      intro e a' w' hq
      cases e with
      | normal =>
        obtain ⟨c', st', k1, k2, k3⟩ := hq
        exact code_sound y ay hy Q c' st' a' w' k1 k2 k3
      | exit id => exact hq
      | ret => exact hq
      | _ => exact hq.elim
    · cases hc
  | .cond x p q, ac, hc, Q, c, st, a, w, h0, hr, h => by
    simp only [cCode] at hc
    split at hc
    · rename_i x' ap aq hx hp hq
      obtain rfl := Option.some.inj hc
      simp only [AWp] at h
      have hv := eval_V (a := a) hr.r.g hr.f hx
      split at h
      · rename_i t ht
        rw [ht] at hv
        refine wp_cond_split hv.boolInv (fun h1 => ?_) (fun h1 => ?_)
        · exact code_sound p ap hp Q c st a w h0 hr (h.1 h1)
        · exact code_sound q aq hq Q c st a w h0 hr (h.2 h1)
      · exact h.elim
    · cases hc
  | .block id x, ac, hc, Q, c, st, a, w, h0, hr, h => by
    simp only [cCode, Option.map_eq_some_iff] at hc
    obtain ⟨ax, hx, rfl⟩ := hc
    refine wp_block (wp_mono (code_sound x ax hx _ c st a w h0 hr h) ?_)
    intro e a' w' hq
    cases e with
    | normal => exact hq
    | exit id' =>
      obtain ⟨c', st', k1, k2, k3⟩ := hq
      simp only at k3
      simp only [Exit.inBlock]
      split
      · rename_i he; rw [if_pos he] at k3; exact ⟨c', st', k1, k2, k3⟩
      · rename_i he; rw [if_neg he] at k3; exact ⟨c', st', k1, k2, k3⟩
    | ret => exact hq
    | _ => exact hq.elim
  | .loop x, ac, hc, Q, c, st, a, w, h0, hr, h => by
    simp only [cCode, Option.map_eq_some_iff] at hc
    obtain ⟨ax, hx, rfl⟩ := hc
    obtain ⟨I, n, st0, hs, hI, hround⟩ := h
    obtain ⟨c1, k1, k2, k3⟩ := hs B w0 c0 c w a.tmps h0 rfl rfl hr.r hr.f
    refine wp_loop_ghost (fun n a w => ∃ c st, c0.Le c ∧ Rel E B w0 nt c st a w ∧ I n st) n ⟨c1, st0, k1, ⟨k2, k3, hr.n, hr.d⟩, hI⟩ ?_
    rintro n a w ⟨c, st, h0, hr, hI⟩
    refine wp_mono (code_sound x ax hx _ c st a w h0 hr (hround n st hI)) ?_
    intro e a' w' hq
    cases e with
    | normal =>
      obtain ⟨c', st', k1, k2, n', st'', k3, k4, k5⟩ := hq
      obtain ⟨c2, g1, g2, g3⟩ := k4 B w0 c0 c' w' a'.tmps k1 rfl rfl k2.r k2.f
      exact ⟨n', k3, c2, st'', g1, ⟨g2, g3, k2.n, k2.d⟩, k5⟩
    | exit id => exact hq
    | ret => exact hq
    | _ => exact hq.elim
  | .rangeFunc _ _ _ _, ac, hc, Q, c, st, a, w, h0, hr, h => by simp [cCode] at hc
  | .scope _, ac, hc, Q, c, st, a, w, h0, hr, h => by simp [cCode] at hc
  | .goto _, ac, hc, Q, c, st, a, w, h0, hr, h => by simp [cCode] at hc
  | .refuse _, ac, hc, Q, c, st, a, w, h0, hr, h => by simp [cCode] at hc

end

/-! ## functions -/

def frA : Nat → List D → List (Nat × D)
  | _, [] => []
  | i, d :: r => (i, d) :: frA (i + 1) r

def Qret (E : Env) (n0 m0 : Nat) (res : List (Nat × Option (Nat × Bool))) (Post : D → List O → Tks → Prop) : X → St → Prop := fun x st =>
  match x with
  | .ex _ => False
  | _ => ∃ ds, resD st.fr st.S res = some ds ∧ ∃ d' S' tk', Shift E n0 m0 ⟨[(0, tupD ds)], st.S, st.tk⟩ ⟨[(0, d')], S', tk'⟩ ∧ Post d' S' tk'

/-- each object mentions only what there is -/
def OSc (n m : Nat) (S : List O) : Prop := ∀ (i : Nat) o, S[i]? = some o → (match o with | .arr cs => scL n m cs = true | .map kv => ∀ (j : Nat) (p : D × D), kv[j]? = some p → p.1.sc n m = true ∧ p.2.sc n m = true | .dead => True)

theorem get_frA {c : Cfg} : ∀ (vs : List Value) (ds : List D) (i t : Nat), vs.length = ds.length → (∀ (j : Nat) v d, vs[j]? = some v → ds[j]? = some d → V c v d) → i ≤ t → V c ((vs[t - i]?).getD undef) (get (frA i ds) t)
  | [], ds, i, t, hl, h, hit => by
    have : ds = [] := List.eq_nil_of_length_eq_zero (by simpa using hl.symm)
    subst this
    exact .top _
  | v :: vs, [], i, t, hl, h, hit => by simp at hl
  | v :: vs, d :: ds, i, t, hl, h, hit => by
    simp only [frA, get]
    by_cases he : i = t
    · subst he
      rw [if_pos rfl, Nat.sub_self]
      exact h 0 v d rfl rfl
    · rw [if_neg he, show t - i = (t - (i + 1)) + 1 from by omega]
      exact get_frA vs ds (i + 1) t (by simpa using hl) (fun j v d h1 h2 => h (j + 1) v d (by simpa using h1) (by simpa using h2)) (by omega)

theorem resD_run {E : Env} {B w0 c S tk w} {tmps : Array Value} {fr : List (Nat × D)} (hr : RelE E B w0 c S tk w) (hf : FRel c tmps fr) : ∀ (rs : List ResultVar) (res : List (Nat × Option (Nat × Bool))) (ds : List D), cRes E.P rs = some res → resD fr S res = some ds →
    ∃ vs, (rs.mapM (m := Sem) fun | .tmp t => pure (tmps.getD t undef) | .cell a t => do loadVar t (← asAddr (tmps.getD a undef))).run E.P w = .ok vs w ∧ vs.length = ds.length ∧ ∀ (j : Nat) v d, vs[j]? = some v → ds[j]? = some d → V c v d
  | [], res, ds, hc, hd => by
    simp only [cRes, Option.some.injEq] at hc; subst hc
    simp only [resD, Option.some.injEq] at hd; subst hd
    exact ⟨[], by simp, rfl, by simp⟩
  | .tmp t :: rs, res, ds, hc, hd => by
    simp only [cRes, Option.map_eq_some_iff] at hc
    obtain ⟨l, hl, rfl⟩ := hc
    simp only [resD, Option.map_eq_some_iff] at hd
    obtain ⟨l', hl', rfl⟩ := hd
    obtain ⟨vs, h1, h2, h3⟩ := resD_run hr hf rs l l' hl hl'
    refine ⟨tmps.getD t undef :: vs, by simp only [List.mapM_cons, Sem.run_bind, Sem.run_pure, Result.andThen_ok, h1], by simp [h2], fun j v d k1 k2 => ?_⟩
    cases j with
    | zero => simp only [List.getElem?_cons_zero, Option.some.injEq] at k1 k2; subst k1; subst k2; exact hf t
    | succ j => exact h3 j v d (by simpa using k1) (by simpa using k2)
  | .cell a T :: rs, res, ds, hc, hd => by
    simp only [cRes] at hc
    split at hc
    · rename_i x l hx hl
      obtain ⟨n, ag⟩ := x
      obtain rfl := Option.some.inj hc
      simp only [resD] at hd
      split at hd
      · rename_i d l' hdd hl'
        obtain rfl := Option.some.inj hd
        obtain ⟨vs, h1, h2, h3⟩ := resD_run hr hf rs l l' hl hl'
        have hv := hf a
        have hload : ∃ ad v, tmps.getD a undef = .pointer (some ad) ∧ (loadVar T ad).run E.P w = .ok v w ∧ V c v d := by
          split at hdd
          · rename_i e off he
            rw [he] at hv
            obtain ⟨ad, had, hli⟩ := LiesAt.pe hr.s hv
            obtain ⟨v, g1, g2⟩ := loadVar_run (P := E.P) hx hli hdd
            exact ⟨ad, v, had, g1, g2⟩
          · rename_i id off he
            rw [he] at hv
            split at hdd
            · rename_i cs hcs
              obtain ⟨ad, had, hli⟩ := LiesAt.po hr.s hv hcs
              obtain ⟨v, g1, g2⟩ := loadVar_run (P := E.P) hx hli hdd
              exact ⟨ad, v, had, g1, g2⟩
            · cases hdd
          · cases hdd
        obtain ⟨ad, v, had, g1, g2⟩ := hload
        have hasA : (asAddr (tmps.getD a undef)).run E.P w = .ok ad w := by rw [had]; rfl
        refine ⟨v :: vs, by simp only [List.mapM_cons, Sem.run_bind, hasA, Sem.run_pure, Result.andThen_ok, g1, h1], by simp [h2], fun j u e k1 k2 => ?_⟩
        cases j with
        | zero => simp only [List.getElem?_cons_zero, Option.some.injEq] at k1 k2; subst k1; subst k2; exact g2
        | succ j => exact h3 j u e (by simpa using k1) (by simpa using k2)
      · cases hd
    · cases hc

theorem ACalls.intro {E : Env} {f : FuncId} {af : AF} (hc : cFun E.P f = some af) {ds : List D} (hn : ds.length ≤ af.nt) {S : List O} {tk : Tks} {Post : D → List O → Tks → Prop}
    (h : OSc S.length tk.length S → AWp E S.length tk.length af.code ⟨frA 0 ds, S, tk⟩ (Qret E S.length tk.length af.res Post)) : ACalls E f ds S tk Post := by
  intro B w0 c w vs hr hl
  unfold cFun at hc
  split at hc
  · rename_i fn hfn
    split at hc
    · rename_i code res hb hres
      split at hc
      · rename_i ac hac
        obtain rfl := Option.some.inj hc
        simp only at hn h
        have hsc : OSc S.length tk.length S := by
          intro i o ho
          have hob := hr.s.obj i o ho
          rw [← hr.s.nS, ← hr.s.mT]
          cases o with
          | arr cs =>
            obtain ⟨cur, T, _, hle, hV⟩ := hob
            exact scL_of fun j d hd => by
              have hjl : j < cur.size := Nat.lt_of_lt_of_le (List.getElem?_eq_some_iff.1 hd).1 hle
              exact (hV j _ d (Array.getElem?_eq_getElem hjl) hd).1.sc
          | map kv =>
            obtain ⟨es, cl, _, hle, hV, _⟩ := hob
            intro j p hp
            have hjl : j < es.size := by rw [hle]; exact (List.getElem?_eq_some_iff.1 hp).1
            have := hV j _ p (Array.getElem?_eq_getElem hjl) hp
            exact ⟨this.1.sc, this.2.sc⟩
          | dead => trivial
        have hsz : vs.size ≤ fn.ntmps := by rw [hl.1]; exact hn
        have hrel : Rel E B w0 fn.ntmps c ⟨frA 0 ds, S, tk⟩ { tmps := vs ++ Array.replicate (fn.ntmps - vs.size) undef, defers := [] } w := by
          refine ⟨hr, fun t => ?_, by simp; omega, rfl⟩
          have := get_frA (c := c) vs.toList ds 0 t (by simpa using hl.1) (fun j v d h1 h2 => hl.2 j v d (by simpa using h1) h2) (Nat.zero_le _)
          simp only [Nat.sub_zero, Array.getElem?_toList] at this
          show V c ((vs ++ Array.replicate (fn.ntmps - vs.size) undef).getD t undef) _
          rw [Array.getD_eq_getD_getElem?]
          by_cases ht : t < vs.size
          · rw [Array.getElem?_append_left ht]; exact this
          · rw [Array.getElem?_append_right (by omega)]
            rw [Array.getElem?_eq_none (by omega)] at this
            rw [Array.getElem?_replicate]
            split <;> exact this
        have hwp := code_sound (c0 := c) code ac hac (Qret E S.length tk.length res Post) c _ _ w (Cfg.Le.refl c) hrel (by rw [hr.s.nS, hr.s.mT]; exact h hsc)
        refine calls_of_wp hfn hb (wp_mono hwp ?_)
        have fin : ∀ (c' : Cfg) (st : St) (a' : Act) (w' : World), c.Le c' → Rel E B w0 fn.ntmps c' st a' w' → (∃ ds, resD st.fr st.S res = some ds ∧ ∃ d' S' tk', Shift E S.length tk.length ⟨[(0, tupD ds)], st.S, st.tk⟩ ⟨[(0, d')], S', tk'⟩ ∧ Post d' S' tk') →
            ∃ v, (results fn a'.tmps).run E.P w' = .ok v w' ∧ (fun e w' => ∃ v c' r S' tk', e = Ending.returned v ∧ c.Le c' ∧ RelE E B w0 c' S' tk' w' ∧ V c' v r ∧ Post r S' tk') (.returned v) w' := by
          rintro c' st a' w' hle hrel ⟨rds, hrd, d', S', tk', hsh, hpost⟩
          obtain ⟨vs', h1, h2, h3⟩ := resD_run hrel.r hrel.f fn.results.toList res rds hres hrd
          have hval : ∃ v, (results fn a'.tmps).run E.P w' = .ok v w' ∧ V c' v (tupD rds) := by
            have hrun : (results fn a'.tmps).run E.P w' = .ok (if h : vs'.toArray.size = 1 then vs'.toArray[0] else .tuple vs'.toArray) w' := by
              simp only [results, Sem.run_bind]
              rw [Array.mapM_eq_mapM_toList]
              simp only [Sem.run_map, Sem.run_pure]
              exact Eq.trans (congrArg (fun r : Result (List Value) => (r.andThen fun a w' => Result.ok a.toArray w').andThen fun a w' => Result.ok (if h : a.size = 1 then a[0] else Value.tuple a) w') h1) rfl
            refine ⟨_, hrun, ?_⟩
            match vs', rds, h2, h3 with
            | [v], [d], _, h3 => simpa [tupD] using h3 0 v d rfl rfl
            | [], [], _, _ => simpa [tupD] using V.tup (c := c') #[] [] rfl (by simp)
            | v1 :: v2 :: r, d1 :: d2 :: r', hl, h3 =>
              rw [dif_neg (by simp)]
              exact .tup _ _ (by simpa using hl) (fun j v d k1 k2 => h3 j v d (by simpa using k1) k2)
          obtain ⟨v, hv1, hv2⟩ := hval
          obtain ⟨c2, g1, g2, g3⟩ := hsh B w0 c c' w' #[v] hle hr.s.nS hr.s.mT hrel.r (fun t => by
            simp only [get]
            split
            · rename_i h0; subst h0; exact hv2
            · exact .top _)
          refine ⟨v, hv1, v, c2, d', S', tk', rfl, g1, g2, ?_, hpost⟩
          have := g3 0
          simpa [get] using this
        intro e a' w' hq
        cases e with
        | normal =>
          obtain ⟨c', st, k1, k2, k3⟩ := hq
          obtain ⟨v, g1, g2⟩ := fin c' st a' w' k1 k2 k3
          exact ⟨k2.d, v, g1, g2⟩
        | ret =>
          obtain ⟨c', st, k1, k2, k3⟩ := hq
          obtain ⟨v, g1, g2⟩ := fin c' st a' w' k1 k2 k3
          exact ⟨k2.d, v, g1, g2⟩
        | exit id => obtain ⟨c', st, k1, k2, k3⟩ := hq; exact k3.elim
        | _ => exact hq.elim
      · cases hc
    · cases hc
  · cases hc

end Go.KL
