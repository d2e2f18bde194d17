/- Pure steps are sound: the theorem. -/
import Derived.Test.YtjjdfplonbgpbaaDoorKL12M
import Derived.Test.YtjjdfplonbgpbaaDoorKL12S
set_option linter.unusedVariables false
set_option linter.unusedSimpArgs false
namespace Go.KL
open Go Go.RowKit

section
variable {E : Env} {B : Nat} {w0 : World} {c : Cfg} {S : List O} {tk : List (Nat × TypeId × Nat)} {w : World} {a : Act} {fr : List (Nat × D)}

def PS (E : Env) (B : Nat) (w0 : World) (c : Cfg) (S : List O) (tk : List (Nat × TypeId × Nat)) (w : World) (a : Act) (o : Oper) (d : D) : Prop :=
  ∃ v w' c', (execOp a.eval o).run E.P w = .ok (.value v) w' ∧ c.Le c' ∧ RelE E B w0 c' S tk w' ∧ V c' v d

theorem PS.same {o : Oper} {d : D} (hr : RelE E B w0 c S tk w) {v : Value} (h : (execOp a.eval o).run E.P w = .ok (.value v) w) (hv : V c v d) : PS E B w0 c S tk w a o d :=
  ⟨v, w, c, h, Cfg.Le.refl c, hr, hv⟩

/-- an operation that is a run of values -/
theorem PS.val {o : Oper} {d : D} (hr : RelE E B w0 c S tk w) {s : Sem Value} (he : execOp a.eval o = (do pure (Next.value (← s)))) (h : ∃ v, s.run E.P w = .ok v w ∧ V c v d) : PS E B w0 c S tk w a o d := by
  obtain ⟨v, h1, h2⟩ := h
  exact PS.same hr (by rw [he]; exact map_ok h1) h2

theorem pv_sound {o : Oper} {i : Ins} (hc : cIns E.P o = some i) (hr : RelE E B w0 c S tk w) (hf : FRel c a.tmps fr) {d : D} (hp : pv E fr S i = some d) : PS E B w0 c S tk w a o d := by
  have hg := hr.g
  unfold cIns at hc
  split at hc
  case h_1 x ho =>
    simp only [Option.map_eq_some_iff] at hc
    obtain ⟨y, h1, rfl⟩ := hc
    simp only [pv, Option.some.injEq] at hp
    subst hp
    exact PS.same hr (by simp only [execOp, ho, Sem.run_pure]) (eval_V hg hf h1)
  case h_2 x ho =>
    simp only [Option.map_eq_some_iff] at hc
    obtain ⟨y, h1, rfl⟩ := hc
    simp only [pv, Option.some.injEq] at hp
    subst hp
    exact PS.same hr (by simp only [execOp, ho, Sem.run_pure]) (eval_V hg hf h1)
  case h_3 c0 x y ho =>
    split at hc
    · rename_i c' x' y' h1 h2 h3
      obtain rfl := Option.some.inj hc
      obtain ⟨v, k1, k2⟩ := pick_run (P := E.P) (w := w) (a := a) (S := S) hg hf h1 h2 h3 hp
      exact PS.same hr (by simp only [execOp, ho]; exact k1) k2
    · cases hc
  case h_4 T ho =>
    simp only [Option.map_eq_some_iff] at hc
    obtain ⟨y, h1, rfl⟩ := hc
    simp [pv] at hp
  case h_5 T x ho =>
    simp only [Option.map_eq_some_iff] at hc
    obtain ⟨y, h1, rfl⟩ := hc
    simp [pv] at hp
  case h_6 T parts ho =>
    split at hc
    · rename_i fs zs hu hz
      split at hc
      · rename_i pl hpl
        simp only [Option.map_eq_some_iff] at hc
        obtain ⟨qs, h1, rfl⟩ := hc
        simp only [pv, Option.map_eq_some_iff] at hp
        obtain ⟨l, h2, rfl⟩ := hp
        exact PS.val hr (by simp only [execOp, ho]) (build_run (a := a) hz hg hf (.inl ⟨fs, pl, hu, hpl, h1⟩) h2)
      · cases hc
    · rename_i n e zs hu hz
      split at hc
      · rename_i inf hi
        simp only [Option.map_eq_some_iff] at hc
        obtain ⟨qs, h1, rfl⟩ := hc
        simp only [pv, Option.map_eq_some_iff] at hp
        obtain ⟨l, h2, rfl⟩ := hp
        exact PS.val hr (by simp only [execOp, ho]) (build_run (a := a) hz hg hf (.inr ⟨n, e, inf, hu, hi, h1⟩) h2)
      · cases hc
    · cases hc
  case h_7 T n parts ho =>
    split at hc
    · rename_i e hu
      split at hc
      · rename_i inf zs hi hz
        split at hc
        · rename_i hcnd
          simp only [Option.map_eq_some_iff] at hc
          obtain ⟨qs, h1, rfl⟩ := hc
          simp only [pv, Option.map_eq_some_iff] at hp
          obtain ⟨es, h2, rfl⟩ := hp
          obtain ⟨v, w', c', k1, k2, k3, k4⟩ := buildS_run (a := a) hu hi hz hcnd.1 hcnd.2.1 hcnd.2.2 hr hf h1 h2
          exact ⟨v, w', c', by simp only [execOp, ho]; exact map_ok k1, k2, k3, k4⟩
        · cases hc
      · cases hc
    · cases hc
  case h_8 T x ho =>
    split at hc
    · rename_i n ag y hsz hx
      obtain rfl := Option.some.inj hc
      have hv := eval_V (a := a) hg hf hx
      simp only [pv] at hp
      refine PS.val hr (s := Instr.loadAt T (a.eval x)) (by simp only [execOp, ho]) ?_
      split at hp
      · rename_i e off he
        rw [he] at hv
        obtain ⟨ad, had, hl⟩ := LiesAt.pe hr.s hv
        obtain ⟨v, k1, k2⟩ := loadVar_run (P := E.P) hsz hl hp
        exact ⟨v, by rw [had]; simp only [Instr.loadAt, Sem.run_bind, sureAddr_run, Result.andThen_ok, k1], k2⟩
      · rename_i id off he
        rw [he] at hv
        split at hp
        · rename_i cs hcs
          obtain ⟨ad, had, hl⟩ := LiesAt.po hr.s hv hcs
          obtain ⟨v, k1, k2⟩ := loadVar_run (P := E.P) hsz hl hp
          exact ⟨v, by rw [had]; simp only [Instr.loadAt, Sem.run_bind, sureAddr_run, Result.andThen_ok, k1], k2⟩
        · cases hp
      · rename_i id m i j he
        rw [he] at hv
        unfold ldV at hp
        split at hp
        · rename_i es e sz hes
          split at hp
          · rename_i hm
            split at hp
            · rename_i row hrow
              obtain ⟨ad, had, hl⟩ := LiesAt.pv hr.s hv hes hm hrow
              obtain ⟨v, k1, k2⟩ := loadVar_run (P := E.P) hsz hl hp
              exact ⟨v, by rw [had]; simp only [Instr.loadAt, Sem.run_bind, sureAddr_run, Result.andThen_ok, k1], k2⟩
            · cases hp
          · cases hp
        · cases hp
      · cases hp
    · cases hc
  case h_9 T x v ho =>
    split at hc
    · obtain rfl := Option.some.inj hc
      simp [pv] at hp
    · cases hc
  case h_10 x ho =>
    simp only [Option.map_eq_some_iff] at hc
    obtain ⟨y, h1, rfl⟩ := hc
    have hv := eval_V (a := a) hg hf h1
    simp only [pv] at hp
    split at hp
    · rename_i e off he
      obtain rfl := Option.some.inj hp
      rw [he] at hv
      obtain ⟨ad, had⟩ : ∃ ad, a.eval x = .pointer (some ad) := by generalize a.eval x = u at hv; cases hv; exact ⟨_, rfl⟩
      exact PS.same hr (v := a.eval x) (by simp only [execOp, ho, had, Sem.run_pure]) hv
    · rename_i id off he
      obtain rfl := Option.some.inj hp
      rw [he] at hv
      obtain ⟨ad, had⟩ : ∃ ad, a.eval x = .pointer (some ad) := by generalize a.eval x = u at hv; cases hv; exact ⟨_, rfl⟩
      exact PS.same hr (v := a.eval x) (by simp only [execOp, ho, had, Sem.run_pure]) hv
    · rename_i id n i j he
      obtain rfl := Option.some.inj hp
      rw [he] at hv
      obtain ⟨_, _, ad, _, had, _⟩ := hv.pvInv
      exact PS.same hr (v := a.eval x) (by simp only [execOp, ho, had, Sem.run_pure]) hv
    · rename_i f cs he
      obtain rfl := Option.some.inj hp
      rw [he] at hv
      obtain ⟨vs, had, _⟩ := hv.fnInv
      exact PS.same hr (v := a.eval x) (by simp only [execOp, ho, had, Sem.run_pure]) hv
    · cases hp
  case h_11 op T x y T' ho =>
    split at hc
    · rename_i x' y' hx hy
      have hvx := eval_V (a := a) hg hf hx
      have hvy := eval_V (a := a) hg hf hy
      have key : ∀ q, ((op = .eql ∨ op = .neq) → eqK E.P T = some q) → binD op q (ev E fr x') (ev E fr y') = some d → PS E B w0 c S tk w a o d := by
        intro q hq hb
        refine PS.val hr (s := do eqGuard op T x y (a.eval x) (a.eval y); binOp op T (a.eval x) (a.eval y)) (by simp only [execOp, ho]) ?_
        exact bin_run (P := E.P) hq x y hvx hvy hb
      split at hc
      · simp only [Option.map_eq_some_iff] at hc
        obtain ⟨q, h1, rfl⟩ := hc
        simp only [pv] at hp
        exact key q (fun _ => h1) hp
      · rename_i hop
        obtain rfl := Option.some.inj hc
        simp only [pv] at hp
        refine key .leaf (fun h => ?_) hp
        rcases h with rfl | rfl <;> simp [isEq] at hop
    · cases hc
  case h_12 op T x ho =>
    simp only [Option.map_eq_some_iff] at hc
    obtain ⟨y, h1, rfl⟩ := hc
    have hv := eval_V (a := a) hg hf h1
    simp only [pv] at hp
    refine PS.val hr (s := Op.unary op (a.eval x)) (by simp only [execOp, ho]) ?_
    generalize ev E fr y = yd at hp hv
    cases op <;> cases yd <;> simp only [unD, reduceCtorEq, Option.some.injEq] at hp
    · subst hp; rw [hv.intInv]; exact ⟨_, by simp [Op.unary, Op.intArith], .int _ _⟩
    · subst hp; rw [hv.boolInv]; exact ⟨_, by simp [Op.unary], .bool _⟩
  case h_13 src dst x ho =>
    split at hc
    · rename_i s k y hs hd' hx
      obtain rfl := Option.some.inj hc
      have hv := eval_V (a := a) hg hf hx
      simp only [pv] at hp
      split at hp
      · rename_i k' n he
        obtain rfl := Option.some.inj hp
        rw [he] at hv
        refine PS.val hr (s := convert src dst (a.eval x)) (by simp only [execOp, ho]) ⟨.int k (k.wrap n), ?_, .int _ _⟩
        rw [hv.intInv]
        simp only [convert, Sem.run_bind, run_underlying hs, run_underlying hd', Result.andThen_ok, Conv.intToInt, Sem.run_pure]
      · cases hp
    · rename_i y hs hd' hx
      obtain rfl := Option.some.inj hc
      have hv := eval_V (a := a) hg hf hx
      simp only [pv] at hp
      split at hp
      · rename_i s he
        obtain rfl := Option.some.inj hp
        rw [he] at hv
        refine PS.val hr (s := convert src dst (a.eval x)) (by simp only [execOp, ho]) ⟨.string s, ?_, .str _⟩
        rw [hv.strInv]
        simp only [convert, Sem.run_bind, run_underlying hs, run_underlying hd', Result.andThen_ok, Sem.run_pure]
      · cases hp
    · rename_i e y hs hd' hx
      split at hc
      · rename_i hee
        obtain rfl := Option.some.inj hc
        have hv := eval_V (a := a) hg hf hx
        simp only [pv, Option.map_eq_some_iff, Option.bind_eq_some_iff] at hp
        obtain ⟨ns, ⟨rows, h1, h2⟩, rfl⟩ := hp
        exact PS.val hr (s := convert src dst (a.eval x)) (by simp only [execOp, ho]) ⟨.string (bytesOf ns), b2s_sound hs hd' hee hr hv h1 h2, .str _⟩
      · cases hc
    · cases hc
  case h_14 f first caps ho =>
    split at hc
    · rename_i h0
      simp only [Option.map_eq_some_iff] at hc
      obtain ⟨ys, h1, rfl⟩ := hc
      simp only [pv, Option.some.injEq] at hp
      subst hp
      have hl := evals_VL (a := a) hg hf h1
      have hfirst : first = #[] := Array.eq_empty_of_size_eq_zero h0
      subst hfirst
      refine PS.val hr (s := Instr.makeFunc (.func f) #[] (caps.map a.eval)) (by simp [execOp, ho]) ⟨_, rfl, ?_⟩
      exact .fn f _ _ hl.1 hl.2
    · split at hc
      · rename_i xs ys hx hy
        obtain rfl := Option.some.inj hc
        simp only [pv, Option.some.injEq] at hp
        subst hp
        have hlx := evals_VL (a := a) hg hf hx
        have hly := evals_VL (a := a) hg hf hy
        exact PS.val hr (s := Instr.makeFunc (.func f) (first.map a.eval) (caps.map a.eval)) (by simp [execOp, ho]) ⟨_, rfl, .bm f _ _ _ _ hlx.1 hlx.2 hly.1 hly.2⟩
      · cases hc
  case h_15 T x f ho =>
    split at hc
    · rename_i fs y hu hx
      split at hc
      · rename_i fd hfd
        split at hc
        · rename_i inf hi
          split at hc
          · cases hc
          · rename_i h0
            obtain rfl := Option.some.inj hc
            simp only [pv] at hp
            exact PS.val hr (s := Instr.fieldAt T (a.eval x) f) (by simp only [execOp, ho]) (fa_run hu hfd hi h0 (eval_V (a := a) hg hf hx) hp)
        · cases hc
      · cases hc
    · cases hc
  case h_16 T x f ho =>
    split at hc
    · rename_i fs y hu hx
      split at hc
      · rename_i fd hfd
        split at hc
        · rename_i n ag hsz
          obtain rfl := Option.some.inj hc
          have hv := eval_V (a := a) hg hf hx
          simp only [pv] at hp
          split at hp
          · rename_i cs he
            rw [he] at hv
            obtain ⟨vs, had, h1, h2⟩ := hv.aggInv
            obtain ⟨v, k1, k2⟩ := part_run (P := E.P) (w := w) hsz h1 h2 hp
            refine PS.val hr (s := Instr.field T (a.eval x) f) (by simp only [execOp, ho]) ⟨v, ?_, k2⟩
            rw [had]
            simp only [Instr.field, Sem.run_bind, run_underlying hu, Result.andThen_ok, hfd, asAgg, Sem.run_pure, k1]
          · cases hp
        · cases hc
      · cases hc
    · cases hc
  case h_17 T x ix ho =>
    split at hc
    · rename_i e y j hu hx hj
      split at hc
      · rename_i inf hi
        obtain rfl := Option.some.inj hc
        simp only [pv] at hp
        exact PS.val hr (s := Instr.indexAt T (a.eval x) (a.eval ix)) (by simp only [execOp, ho]) (ia_run hu hi (eval_V (a := a) hg hf hx) (eval_V (a := a) hg hf hj) hp)
      · cases hc
    · rename_i n e y j hu hx hj
      split at hc
      · rename_i inf hi
        obtain rfl := Option.some.inj hc
        have hvj := eval_V (a := a) hg hf hj
        simp only [pv] at hp
        split at hp
        · rename_i k m he
          rw [he] at hvj
          split at hp
          · rename_i hb
            refine PS.val hr (s := Instr.indexAt T (a.eval x) (a.eval ix)) (by simp only [execOp, ho]) ?_
            rw [hvj.intInv]
            exact iaA_run hu hi (eval_V (a := a) hg hf hx) hb hp
          · cases hp
        · cases hp
      · cases hc
    · cases hc
  case h_18 T x ix ho =>
    split at hc
    · rename_i n e y j hu hx hj
      split at hc
      · rename_i sz ag hsz
        obtain rfl := Option.some.inj hc
        have hvj := eval_V (a := a) hg hf hj
        have hvx := eval_V (a := a) hg hf hx
        simp only [pv] at hp
        split at hp
        · rename_i k m cs he1 he2
          rw [he1] at hvj
          rw [he2] at hvx
          split at hp
          · rename_i hb
            obtain ⟨vs, had, h1, h2⟩ := hvx.aggInv
            obtain ⟨v, k1, k2⟩ := part_run (P := E.P) (w := w) hsz h1 h2 hp
            obtain ⟨inf, hi, _, hn, _⟩ := szT_spec hsz
            refine PS.val hr (s := Instr.index T (a.eval x) (a.eval ix)) (by simp only [execOp, ho]) ⟨v, ?_, k2⟩
            rw [hvj.intInv, had]
            simp only [Instr.index, asIntOf, Sem.run_bind, Sem.run_pure, Result.andThen_ok, run_underlying hu, hb, and_self, if_true, sizeOf_run hi, hn, k1]
          · cases hp
        · cases hp
      · cases hc
    · rename_i y j hu hx hj
      obtain rfl := Option.some.inj hc
      have hvj := eval_V (a := a) hg hf hj
      have hvx := eval_V (a := a) hg hf hx
      simp only [pv] at hp
      split at hp
      · rename_i k m s he1 he2
        rw [he1] at hvj
        rw [he2] at hvx
        split at hp
        · rename_i hb
          split at hp
          · rename_i b hbs
            obtain rfl := Option.some.inj hp
            refine PS.val hr (s := Instr.index T (a.eval x) (a.eval ix)) (by simp only [execOp, ho]) ⟨.int .u8 b.toNat, ?_, .int _ _⟩
            rw [hvj.intInv, hvx.strInv]
            simp only [Instr.index, asIntOf, Sem.run_bind, Sem.run_pure, Result.andThen_ok, run_underlying hu, hb, if_true, hbs]
          · cases hp
        · cases hp
      · cases hp
    · cases hc
  case h_19 T x lo hi mx ho =>
    split at hc
    · rename_i y lo' hi' hu hx hlo hhi hmx
      obtain rfl := Option.some.inj hc
      have hvx := eval_V (a := a) hg hf hx
      simp only [pv] at hp
      split at hp
      · rename_i s he
        rw [he] at hvx
        have hmn : mx = none := by cases mx with | none => rfl | some m => simp [cOpt] at hmx
        subst hmn
        obtain ⟨u, k1, k2⟩ := strSl_run (P := E.P) (w := w) hu (cOpt_OV (a := a) hg hf hlo) (cOpt_OV (a := a) hg hf hhi) hp
        exact PS.val hr (s := Instr.sliceAt T (a.eval x) (lo.map a.eval) (hi.map a.eval) ((none : Option Operand).map a.eval)) (by simp only [execOp, ho]) ⟨u, by rw [hvx.strInv]; exact k1, k2⟩
      · cases hp
    · rename_i e y lo' hi' mx' hu hx hlo hhi hmx
      split at hc
      · rename_i inf hinf
        split at hc
        · rename_i h3
          obtain rfl := Option.some.inj hc
          simp only [pv] at hp
          refine PS.val hr (s := Instr.sliceAt T (a.eval x) (lo.map a.eval) (hi.map a.eval) (mx.map a.eval)) (by simp only [execOp, ho]) ?_
          exact sl_run hu hinf (eval_V (a := a) hg hf hx) (cOpt_OV (a := a) hg hf hlo) (cOpt_OV (a := a) hg hf hhi) (cOpt_OV (a := a) hg hf hmx) (by rw [Option.isSome_map, Option.isSome_map, cOpt_isSome hmx, cOpt_isSome hhi]; exact h3) hp
        · cases hc
      · cases hc
    · rename_i n e y lo' hi' hu hx hlo hhi hmx
      split at hc
      · obtain rfl := Option.some.inj hc
        simp [pv] at hp
      · cases hc
    · cases hc
  case h_20 x ix ho =>
    simp only [Option.map_eq_some_iff] at hc
    obtain ⟨y, h1, rfl⟩ := hc
    have hv := eval_V (a := a) hg hf h1
    simp only [pv] at hp
    split at hp
    · rename_i l he
      rw [he] at hv
      obtain ⟨vs, had, h1, h2⟩ := hv.tupInv
      have hlt : ix < vs.size := by rw [h1]; exact (List.getElem?_eq_some_iff.1 hp).1
      have hgx : vs[ix]? = some vs[ix] := Array.getElem?_eq_getElem hlt
      refine PS.val hr (s := Instr.extract (a.eval x) ix) (by simp only [execOp, ho]) ⟨vs[ix], ?_, h2 _ _ _ hgx hp⟩
      rw [had]
      simp only [Instr.extract, hgx, Sem.run_pure]
    · cases hp
  case h_21 T ho =>
    split at hc
    · simp only [Option.map_eq_some_iff] at hc
      obtain ⟨kt, _, rfl⟩ := hc
      simp [pv] at hp
    · cases hc
  case h_22 T l c0 ho =>
    split at hc
    · split at hc
      · split at hc
        · obtain rfl := Option.some.inj hc
          simp [pv] at hp
        · cases hc
      · cases hc
    · cases hc
  case h_23 cl ho =>
    split at hc
    · split at hc
      · split at hc
        · obtain rfl := Option.some.inj hc; simp [pv] at hp
        · split at hc
          · obtain rfl := Option.some.inj hc; simp [pv] at hp
          · cases hc
      · cases hc
    · split at hc
      · obtain rfl := Option.some.inj hc; simp [pv] at hp
      · cases hc
    · rename_i hcal
      split at hc
      · rename_i x T hargs htys
        have e1 : cl.args = #[x] := by apply Array.toList_inj.1; rw [hargs]
        have e2 : cl.argTypes = #[T] := by apply Array.toList_inj.1; rw [htys]
        have lenc : ∀ q td y, E.P.underlying T = some td → cOpd x = some y → ((q = 0 ∧ td = .string) ∨ (q = 1 ∧ ∃ e, td = .slice e) ∨ (q = 2 ∧ ∃ k e, td = .map k e)) → pv E fr S (.len q y) = some d → PS E B w0 c S tk w a o d := by
          intro q td y hu hx hq hp
          simp only [pv, Option.map_eq_some_iff] at hp
          obtain ⟨n, h1, rfl⟩ := hp
          have hlr := len_run (P := E.P) (ty := o.type) hu hq hr.s (eval_V (a := a) hg hf hx) h1
          refine PS.same hr (v := .int .i64 n) ?_ (.int _ _)
          simp only [execOp, ho, resolve, hcal, Sem.run_bind, Sem.run_pure, Result.andThen_ok, invoke, builtin, e1, e2, List.map_toArray, List.map_cons, List.map_nil, hlr]
        split at hc
        · rename_i y hu hx
          obtain rfl := Option.some.inj hc
          exact lenc 0 _ y hu hx (.inl ⟨rfl, rfl⟩) hp
        · rename_i e y hu hx
          obtain rfl := Option.some.inj hc
          exact lenc 1 _ y hu hx (.inr (.inl ⟨rfl, e, rfl⟩)) hp
        · rename_i k e y hu hx
          obtain rfl := Option.some.inj hc
          exact lenc 2 _ y hu hx (.inr (.inr ⟨rfl, k, e, rfl⟩)) hp
        · rename_i n e y hu hx
          obtain rfl := Option.some.inj hc
          simp only [pv, Option.some.injEq] at hp
          subst hp
          refine PS.same hr (v := .int .i64 n) ?_ (.int _ _)
          simp only [execOp, ho, resolve, hcal, Sem.run_bind, Sem.run_pure, Result.andThen_ok, invoke, builtin, e1, e2, List.map_toArray, List.map_cons, List.map_nil]
          simp [Builtin.len_, run_underlying hu, goInt]
        · cases hc
      · cases hc
    · split at hc
      · split at hc
        · split at hc
          · split at hc
            · split at hc
              · obtain rfl := Option.some.inj hc; simp [pv] at hp
              · cases hc
            · cases hc
          · cases hc
        · cases hc
      · cases hc
    · rename_i hcal
      simp only [Option.map_eq_some_iff] at hc
      obtain ⟨ys, h1, rfl⟩ := hc
      simp only [pv] at hp
      split at hp
      · rename_i d0 ds hds
        have hl := evals_VL (a := a) hg hf h1
        rw [hds] at hl
        obtain ⟨v0, vs, hvs⟩ : ∃ v0 vs, (cl.args.map a.eval).toList = v0 :: vs := by
          cases hh : (cl.args.map a.eval).toList with
          | nil => have := hl.1; rw [← Array.length_toList, hh] at this; simp at this
          | cons v0 vs => exact ⟨v0, vs, rfl⟩
        have hget : ∀ (j : Nat) v dd, (v0 :: vs)[j]? = some v → (d0 :: ds)[j]? = some dd → V c v dd := fun j v dd h2 h3 => hl.2 j v dd (by rw [← Array.getElem?_toList, hvs]; exact h2) h3
        have hlen : (v0 :: vs).length = (d0 :: ds).length := by rw [← hvs, Array.length_toList]; exact hl.1
        obtain ⟨u, k1, k2⟩ := mm_run (P := E.P) (w := w) vs ds v0 d0 d (hget 0 _ _ rfl rfl) (by simpa using hlen) (fun j v dd h2 h3 => hget (j + 1) v dd (by simpa using h2) (by simpa using h3)) hp
        refine PS.same hr (v := u) ?_ k2
        simp only [execOp, ho, resolve, hcal, Sem.run_bind, Sem.run_pure, Result.andThen_ok, invoke, builtin]
        simp only [Builtin.min_, hvs]
        simp only [Bool.false_eq_true, if_false] at k1
        rw [k1]; rfl
      · cases hp
    · rename_i hcal
      simp only [Option.map_eq_some_iff] at hc
      obtain ⟨ys, h1, rfl⟩ := hc
      simp only [pv] at hp
      split at hp
      · rename_i d0 ds hds
        have hl := evals_VL (a := a) hg hf h1
        rw [hds] at hl
        obtain ⟨v0, vs, hvs⟩ : ∃ v0 vs, (cl.args.map a.eval).toList = v0 :: vs := by
          cases hh : (cl.args.map a.eval).toList with
          | nil => have := hl.1; rw [← Array.length_toList, hh] at this; simp at this
          | cons v0 vs => exact ⟨v0, vs, rfl⟩
        have hget : ∀ (j : Nat) v dd, (v0 :: vs)[j]? = some v → (d0 :: ds)[j]? = some dd → V c v dd := fun j v dd h2 h3 => hl.2 j v dd (by rw [← Array.getElem?_toList, hvs]; exact h2) h3
        have hlen : (v0 :: vs).length = (d0 :: ds).length := by rw [← hvs, Array.length_toList]; exact hl.1
        obtain ⟨u, k1, k2⟩ := mm_run (P := E.P) (w := w) vs ds v0 d0 d (hget 0 _ _ rfl rfl) (by simpa using hlen) (fun j v dd h2 h3 => hget (j + 1) v dd (by simpa using h2) (by simpa using h3)) hp
        refine PS.same hr (v := u) ?_ k2
        simp only [execOp, ho, resolve, hcal, Sem.run_bind, Sem.run_pure, Result.andThen_ok, invoke, builtin]
        simp only [Builtin.max_, hvs]
        simp only [if_true] at k1
        rw [k1]; rfl
      · cases hp
    · split at hc
      · split at hc
        · simp only [Option.map_eq_some_iff] at hc
          obtain ⟨kt, _, rfl⟩ := hc
          simp [pv] at hp
        · cases hc
      · cases hc
    · cases hc
  case h_24 T x k ok ho =>
    split at hc
    · rename_i kT e x' k' hu hx hk
      split at hc
      · rename_i kt z hT hz
        obtain rfl := Option.some.inj hc
        exact PS.val hr (s := Instr.lookup T (a.eval x) (a.eval k) ok) (by simp only [execOp, ho]) (lookup_run hu hT hz hr.s (eval_V (a := a) hg hf hx) (eval_V (a := a) hg hf hk) hp)
      · cases hc
    · cases hc
  case h_25 =>
    split at hc
    · simp only [Option.map_eq_some_iff] at hc; obtain ⟨kt, _, rfl⟩ := hc; simp [pv] at hp
    · cases hc
  case h_26 =>
    split at hc
    · simp only [Option.map_eq_some_iff] at hc; obtain ⟨kt, _, rfl⟩ := hc; simp [pv] at hp
    · cases hc
  case h_27 =>
    split at hc
    · split at hc
      · obtain rfl := Option.some.inj hc; simp [pv] at hp
      · cases hc
    · cases hc
  case h_28 =>
    split at hc
    · obtain rfl := Option.some.inj hc; simp [pv] at hp
    · cases hc
  case h_29 =>
    split at hc
    · obtain rfl := Option.some.inj hc; simp [pv] at hp
    · cases hc
  case h_30 => simp only [Option.map_eq_some_iff] at hc; obtain ⟨y, _, rfl⟩ := hc; simp [pv] at hp
  case h_31 x ho =>
    simp only [Option.map_eq_some_iff] at hc
    obtain ⟨y, hy, rfl⟩ := hc
    exact PS.val hr (s := Instr.entry (a.eval x)) (by simp only [execOp, ho]) (entry_run hr.s (eval_V (a := a) hg hf hy) hp)
  case h_32 => cases hc

end
end Go.KL
