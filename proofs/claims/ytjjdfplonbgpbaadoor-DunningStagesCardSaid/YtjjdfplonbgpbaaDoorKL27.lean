/- Slices that grow, in a walk. -/
import Derived.Test.YtjjdfplonbgpbaaDoorKL26
set_option linter.unusedVariables false
set_option linter.unusedSimpArgs false
namespace Go.KL
open Go Go.RowKit

theorem VL.sub {c : Cfg} {vs : Array Value} {ds ds' : List D} (h : VL c vs ds) (hs : SubL ds ds') : VL c vs ds' := by
  obtain ⟨h1, h2⟩ := hs.spec
  refine ⟨by rw [h.1, h1], fun j v d' hv hd => ?_⟩
  have hj : j < ds.length := by rw [h1]; exact (List.getElem?_eq_some_iff.1 hd).1
  exact h2 j _ d' (List.getElem?_eq_getElem hj) hd c v (h.2 j v _ hv (List.getElem?_eq_getElem hj))
theorem ACalls.sub {E : Env} {f : FuncId} {ds ds' : List D} {S : List O} {tk : Tks} {Post : D → List O → Tks → Prop} (h : ACalls E f ds' S tk Post) (hs : SubL ds ds') : ACalls E f ds S tk Post :=
  fun B w0 c w vs hr hv => h B w0 c w vs hr (hv.sub hs)

section
variable {E : Env} {n0 m0 : Nat} {fr : Fr} {S J : List O} {T TK : Tks}

theorem ckS {f : FuncId} {ds ds' : List D} {K : FD → List O → List O → Tks → Tks → Prop} {d : D} (hn : S.length = n0) (hm : T.length = m0) (h : ∀ S tk, ACalls E f ds' S tk (fun r S' tk' => r = d ∧ S' = S ∧ tk' = tk)) (hs : SubL ds ds') (hk : fzD d fun d => K (.d d) S J T TK) : CK E n0 m0 f ds S J T TK K :=
  ⟨((h _ _).sub hs).mono fun r S' tk' ⟨h1, h2, h3⟩ => ⟨S, J, T, TK, h2, h3, hn, hm, h1 ▸ hk⟩⟩
theorem cqS {f : FuncId} {ds ds' : List D} {K : D → Prop} {d : D} (h : ∀ S tk, ACalls E f ds' S tk (fun r S' tk' => r = d ∧ S' = S ∧ tk' = tk)) (hs : SubL ds ds') (hk : fzD d K) : CQ E f ds S J T TK K :=
  ⟨d, (h _ _).sub hs, hk⟩

theorem srcD_rd {sz : Nat} {d : D} {src : List (List D)} (h : d.rd = some src) : srcD S sz d = some src := by
  cases d <;> simp only [D.rd, reduceCtorEq] at h <;> exact h

/-- append to a slice of the walk's own -/
theorem gk_app {T' e : TypeId} {sz bytes : Nat} {zs : List D} {x y : Opd} {es src : List (List D)} {t : Nat} {K : FD → List O → List O → Tks → Tks → Prop} (hn : S.length = n0) (hm : T.length = m0) (hx : fev E fr x = .d (.gsl es (m0 + t))) (hy : ((fev E fr y).to n0).rd = some src) (ht : TK[t]? = some (es.length, e, sz)) (hs : ∀ s ∈ src, s.length = sz)
    (hl : es.length + src.length ≤ maxLen ∧ (es.length + src.length) * bytes ≤ 140737488355328) (hk : K (.d (.gsl (es ++ src) (m0 + t))) S J T (TK.set t ((es ++ src).length, e, sz))) : GK E n0 m0 (.app T' e sz bytes zs x y) fr S J T TK K := by
  refine ⟨?_⟩
  simp only [aop]
  rw [← fev_to y, srcD_rd hy]
  simp only
  rw [← fev_to x, hx]
  exact ⟨⟨by rw [← hm, tkk]; exact ht, hs, hl.1, hl.2⟩, S, J, T, TK.set t _, rfl, by rw [← hm, tks], hn, hm, (fzD_eq _ _).2 hk⟩
/-- append to an empty slice: a growing slice -/
theorem gk_app0 {T' e : TypeId} {sz bytes : Nat} {zs : List D} {x y : Opd} {src : List (List D)} {K : FD → List O → List O → Tks → Tks → Prop} (hn : S.length = n0) (hm : T.length = m0) (hx : fev E fr x = .d .nilsl ∨ fev E fr x = .d (.full [])) (hy : srcD (S ++ J) sz ((fev E fr y).to n0) = some src) (hs : ∀ s ∈ src, s.length = sz)
    (hl : src.length ≤ maxLen ∧ src.length * bytes ≤ 140737488355328) (hk : K (.d (.gsl src (m0 + TK.length))) S J T (TK ++ [(src.length, e, sz)])) : GK E n0 m0 (.app T' e sz bytes zs x y) fr S J T TK K := by
  refine ⟨?_⟩
  simp only [aop]
  rw [← fev_to y, hy]
  simp only
  have key : (K (.d (.gsl src (m0 + TK.length))) S J T (TK ++ [(src.length, e, sz)])) → kAll n0 m0 K (.gsl src (T ++ TK).length) (S ++ J) (T ++ TK ++ [(src.length, e, sz)]) := fun hk =>
    ⟨S, J, T, TK ++ [(src.length, e, sz)], rfl, by rw [List.append_assoc], hn, hm, (fzD_eq _ _).2 (by rw [List.length_append, hm]; exact hk)⟩
  rcases hx with hx | hx <;> rw [← fev_to x, hx] <;> exact ⟨⟨hs, hl.1, hl.2⟩, .inl (key hk)⟩
/-- append to an empty slice: a growing row -/
theorem gk_app0v {T' e : TypeId} {sz bytes : Nat} {zs : List D} {x y : Opd} {src : List (List D)} {K : FD → List O → List O → Tks → Tks → Prop} (hn : S.length = n0) (hm : T.length = m0) (hx : fev E fr x = .d .nilsl ∨ fev E fr x = .d (.full [])) (hy : srcD (S ++ J) sz ((fev E fr y).to n0) = some src) (hs : ∀ s ∈ src, s.length = sz)
    (hl : src.length ≤ maxLen ∧ src.length * bytes ≤ 140737488355328) (hk : K (.d (.vec (n0 + J.length) src.length sz)) S (J ++ [.vec src e sz]) T TK) : GK E n0 m0 (.app T' e sz bytes zs x y) fr S J T TK K := by
  refine ⟨?_⟩
  simp only [aop]
  rw [← fev_to y, hy]
  simp only
  have key : kAll n0 m0 K (.vec (S ++ J).length src.length sz) (S ++ J ++ [.vec src e sz]) (T ++ TK) :=
    ⟨S, J ++ [.vec src e sz], T, TK, by rw [List.append_assoc], rfl, hn, hm, (fzD_eq _ _).2 (by rw [List.length_append, hn]; exact hk)⟩
  rcases hx with hx | hx <;> rw [← fev_to x, hx] <;> exact ⟨⟨hs, hl.1, hl.2⟩, .inr key⟩
/-- append to a growing row -/
theorem gk_appv {T' e : TypeId} {sz bytes : Nat} {zs : List D} {x y : Opd} {es src : List (List D)} {k sz' n : Nat} {K : FD → List O → List O → Tks → Tks → Prop} (hn : S.length = n0) (hm : T.length = m0) (hx : fev E fr x = .d (.vec (n0 + k) n sz')) (hJ : J[k]? = some (.vec es e sz)) (hel : es.length = n) (hy : srcD (S ++ J) sz ((fev E fr y).to n0) = some src) (hs : ∀ s ∈ src, s.length = sz)
    (hl : es.length + src.length ≤ maxLen ∧ (es.length + src.length) * bytes ≤ 140737488355328) (hk : K (.d (.vec (n0 + k) (es ++ src).length sz)) S (J.set k (.vec (es ++ src) e sz)) T TK) : GK E n0 m0 (.app T' e sz bytes zs x y) fr S J T TK K := by
  refine ⟨?_⟩
  simp only [aop]
  rw [← fev_to y, hy]
  simp only
  rw [← fev_to x, hx]
  have hlk : (S ++ J)[n0 + k]? = some (.vec es e sz) := by rw [← hn, lk]; exact hJ
  simp only [FD.to, appP, hlk]
  exact ⟨⟨hel, trivial, trivial, hs, hl.1, hl.2⟩, S, J.set k _, T, TK, by rw [← hn, ls], rfl, hn, hm, (fzD_eq _ _).2 hk⟩

/-- a slice that is nil is to grow -/
theorem fstep_tok {fr' : Fr} (e : TypeId) (sz : Nat) {t : Nat} (ht : fget fr t = .d .nilsl ∨ fget fr t = .d (.full [])) (h : FrSub n0 ((t, .d (.gsl [] (m0 + TK.length))) :: fr) fr') : FStep E n0 m0 fr J TK fr' J (TK ++ [(0, e, sz)]) := by
  refine ⟨fun S T hn hm hS => ?_⟩
  have hle := h.le
  have e1 : (T ++ TK).length = m0 + TK.length := by rw [List.length_append, hm]
  have h1 := Shift.newtok (E := E) (n0 := n0) (m0 := m0) (fr := frD n0 fr) (fr' := frD n0 fr') (S := S ++ J) (tk := T ++ TK) e sz (t := t) (by rw [get_frD]; rcases ht with ht | ht <;> rw [ht] <;> simp [FD.to])
    (by rw [e1]; exact hle)
  simpa only [sT, List.append_assoc] using h1
theorem FStep.trans {fr1 fr2 : Fr} {J1 J2 : List O} {TK1 TK2 : Tks} (h : FStep E n0 m0 fr J TK fr1 J1 TK1) (k : FStep E n0 m0 fr1 J1 TK1 fr2 J2 TK2) : FStep E n0 m0 fr J TK fr2 J2 TK2 :=
  ⟨fun S T hn hm hS => (h.h S T hn hm hS).trans (k.h S T hn hm hS)⟩
end

end Go.KL
