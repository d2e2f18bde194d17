/- Pure steps are sound: the operations one by one. -/
import Derived.Test.YtjjdfplonbgpbaaDoorKL9
set_option linter.unusedVariables false
set_option linter.unusedSimpArgs false
namespace Go.KL
open Go Go.RowKit

/-- a new row that is never written again -/
theorem RelS.frow {B w0 c S tk w} (h : RelS B w0 c S tk w) (C : Array Value) (e : TypeId) (hone : ∀ (j : Nat) v, C[j]? = some v → v.oneCell' = true) :
    ∃ c', c.Le c' ∧ RelS B w0 c' S tk (w.alloc (.cells C e)) ∧ c'.n = c.n ∧ c'.m = c.m ∧ (∀ (j : Nat) v, C[j]? = some v → c'.F ⟨w.heap.size, j, none⟩ = some v) := by
  have hj := h.junk (.cells C e)
  let c' : Cfg := { c with F := fun a => if a.block = w.heap.size then (if a.spot = none then C[a.off]? else none) else c.F a }
  have hFlt : ∀ a v, c.F a = some v → a.block < w.heap.size := fun a v ha => World.block_lt (h.holds a v ha).1
  have hle : c.Le c' := ⟨fun a v ha => by
    simp only [c']; rw [if_neg (by have := hFlt a v ha; omega)]; exact ha, Nat.le_refl _, fun _ _ => rfl, Nat.le_refl _, fun _ _ => .inl rfl, fun _ _ => .inl rfl, fun _ h => h⟩
  have hnew : (w.alloc (.cells C e)).heap[w.heap.size]? = some (.cells C e (0, 0)) := heap_alloc_new w _
  refine ⟨c', hle, ⟨h.hB, hj.below, h.nS, h.mT, ?_, h.inj, hj.base, ?_, h.nu, ?_, ?_, h.tinj, hj.dd⟩, rfl, rfl, fun j v hv => by simp only [c', if_true]; exact hv⟩
  · intro a v ha
    simp only [c'] at ha
    by_cases hb : a.block = w.heap.size
    · rw [if_pos hb] at ha
      split at ha
      · rename_i hs
        obtain ⟨b, off, spot⟩ := a
        simp only at hb hs ha
        subst hb; subst hs
        exact ⟨by rw [cell_of_row _ _ off C e (0, 0) hnew]; exact ha, hone off v ha⟩
      · cases ha
    · rw [if_neg hb] at ha; exact hj.holds a v ha
  · intro i o ho hnd bo hbo a v ha
    simp only [c'] at ha
    by_cases hb : a.block = w.heap.size
    · have := (h.base i bo (h.lt ho) hbo).2
      omega
    · rw [if_neg hb] at ha; exact h.sep i o ho hnd bo hbo a v ha
  · intro i o ho; exact (hj.obj i o ho).mono hle (h.lt ho) rfl
  · intro t x hx
    obtain ⟨a1, a2, a3, a4⟩ := hj.tok t x hx
    refine ⟨a1, a2, a3, ?_⟩
    have htm : t < c.m := by rw [h.mT]; exact (List.getElem?_eq_some_iff.1 hx).1
    show match (c.τ t).blk with | none => _ | some (b, cap) => _
    cases hb' : (c.τ t).blk with
    | none => simpa [hb'] using a4
    | some p =>
      obtain ⟨b, cap⟩ := p
      simp only [hb'] at a4 ⊢
      obtain ⟨k1, k2, k3, k4, k5, k6, k7⟩ := a4
      refine ⟨k1, k2, k3, k4, k5, fun off spot ho => ?_, k7⟩
      simp only [c']
      rw [if_neg (by have := (h.tokblk htm hb').2.1; omega)]
      exact k6 off spot ho

theorem GRel.mono {E : Env} {c c' : Cfg} (h : GRel E c) (hc : c.Le c') : GRel E c' := fun g e he => (h g e he).mono hc
theorem FRel.mono {c c' : Cfg} {tmps : Array Value} {fr : List (Nat × D)} (h : FRel c tmps fr) (hc : c.Le c') : FRel c' tmps fr := fun t => (h t).mono hc

section
variable {E : Env} {B : Nat} {w0 : World} {c : Cfg} {S : List O} {tk : List (Nat × TypeId × Nat)} {w : World} {a : Act} {fr : List (Nat × D)}

theorem zeroT_run {P : Program} {T : TypeId} {zs : List D} (h : zeroT P T = some zs) : ∃ z, (zeroValue T).run P w = .ok z w ∧ CRel c z.cells zs ∧ allLeaf zs = true ∧ ∃ i, P.info? T = some i ∧ i.zero = some z := by
  unfold zeroT at h
  cases hi : P.info? T with
  | none => simp [hi] at h
  | some i =>
    simp only [hi] at h
    cases hz : i.zero with
    | none => simp [hz] at h
    | some z =>
      simp only [hz] at h
      obtain ⟨g1, g2, g3⟩ := ofLeaves_V (c := c) h
      exact ⟨z, by simp [zeroValue, info_run hi, hz], ⟨by simpa using g1, fun j v d h1 h2 => g2 j v d (by simpa using h1) h2⟩, g3, i, rfl, hz⟩

theorem fieldPl_run {P : Program} : ∀ (fs : List Field) (pl : List (Nat × Nat)), fieldPl P fs = some pl → (fs.mapM (m := Sem) fun f => do pure (f.offset, ← sizeOf f.type)).run P w = .ok pl w
  | [], pl, h => by simp only [fieldPl, Option.some.injEq] at h; subst h; simp
  | f :: fs, pl, h => by
    simp only [fieldPl] at h
    split at h
    · rename_i i l h1 h2
      obtain rfl := Option.some.inj h
      have ih := fieldPl_run fs l h2
      simp only [List.mapM_cons, Sem.run_bind, sizeOf_run h1, Result.andThen_ok, Sem.run_pure, ih]
    · cases h

theorem cPartsF_rel {pl : List (Nat × Nat)} (hg : GRel E c) (hf : FRel c a.tmps fr) : ∀ (ps : List (Nat × Operand)) (qs : List (Nat × Nat × Opd)), cPartsF pl ps = some qs →
    (ps.map fun p => (p.1, a.eval p.2)).length = (evP E fr qs).length ∧ ∀ (k : Nat) p q, (ps.map fun p => (p.1, a.eval p.2))[k]? = some p → (evP E fr qs)[k]? = some q → pl.toArray[p.1]? = some (q.1, q.2.1) ∧ V c p.2 q.2.2
  | [], qs, h => by simp only [cPartsF, Option.some.injEq] at h; subst h; simp [evP]
  | (i, x) :: ps, qs, h => by
    simp only [cPartsF] at h
    split at h
    · rename_i p y l h1 h2 h3
      obtain rfl := Option.some.inj h
      obtain ⟨g1, g2⟩ := cPartsF_rel hg hf ps l h3
      refine ⟨by simpa [evP] using g1, fun k p' q h4 h5 => ?_⟩
      cases k with
      | zero =>
        simp [evP] at h4 h5
        subst h4; subst h5
        exact ⟨by simpa using h1, eval_V hg hf h2⟩
      | succ k => exact g2 k p' q (by simpa using h4) (by simpa [evP] using h5)
    · cases h

theorem cPartsA_rel {sz : Nat} (hg : GRel E c) (hf : FRel c a.tmps fr) : ∀ (ps : List (Nat × Operand)) (qs : List (Nat × Nat × Opd)), cPartsA sz ps = some qs →
    (ps.map fun p => (p.1, a.eval p.2)).length = (evP E fr qs).length ∧ ∀ (k : Nat) p q, (ps.map fun p => (p.1, a.eval p.2))[k]? = some p → (evP E fr qs)[k]? = some q → (some (p.1 * sz, sz) : Option (Nat × Nat)) = some (q.1, q.2.1) ∧ V c p.2 q.2.2
  | [], qs, h => by simp only [cPartsA, Option.some.injEq] at h; subst h; simp [evP]
  | (i, x) :: ps, qs, h => by
    simp only [cPartsA] at h
    split at h
    · rename_i y l h2 h3
      obtain rfl := Option.some.inj h
      obtain ⟨g1, g2⟩ := cPartsA_rel hg hf ps l h3
      refine ⟨by simpa [evP] using g1, fun k p' q h4 h5 => ?_⟩
      cases k with
      | zero =>
        simp [evP] at h4 h5
        subst h4; subst h5
        exact ⟨rfl, eval_V hg hf h2⟩
      | succ k => exact g2 k p' q (by simpa using h4) (by simpa [evP] using h5)
    · cases h

theorem cParts_rel (hg : GRel E c) (hf : FRel c a.tmps fr) : ∀ (ps : List (Nat × Operand)) (qs : List (Nat × Opd)), cParts ps = some qs →
    (ps.map fun p => (p.1, a.eval p.2)).length = (evQ E fr qs).length ∧ ∀ (k : Nat) p q, (ps.map fun p => (p.1, a.eval p.2))[k]? = some p → (evQ E fr qs)[k]? = some q → p.1 = q.1 ∧ V c p.2 q.2
  | [], qs, h => by simp only [cParts, Option.some.injEq] at h; subst h; simp [evQ]
  | (i, x) :: ps, qs, h => by
    simp only [cParts] at h
    split at h
    · rename_i y l h2 h3
      obtain rfl := Option.some.inj h
      obtain ⟨g1, g2⟩ := cParts_rel hg hf ps l h3
      refine ⟨by simpa [evQ] using g1, fun k p' q h4 h5 => ?_⟩
      cases k with
      | zero =>
        simp [evQ] at h4 h5
        subst h4; subst h5
        exact ⟨rfl, eval_V hg hf h2⟩
      | succ k => exact g2 k p' q (by simpa using h4) (by simpa [evQ] using h5)
    · cases h

theorem build_run {P : Program} {T : TypeId} {zs : List D} (hz : zeroT P T = some zs) {parts : Array (Nat × Operand)} {qs : List (Nat × Nat × Opd)} (hg : GRel E c) (hf : FRel c a.tmps fr)
    (hp : (∃ fs pl, P.underlying T = some (.struct fs) ∧ fieldPl P fs.toList = some pl ∧ cPartsF pl parts.toList = some qs) ∨ (∃ n e i, P.underlying T = some (.array n e) ∧ P.info? e = some i ∧ cPartsA i.size parts.toList = some qs))
    {l : List D} (hd : fillD zs (evP E fr qs) = some l) : ∃ v, (Instr.build T (parts.map fun (i, x) => (i, a.eval x))).run P w = .ok v w ∧ V c v (.agg l) := by
  obtain ⟨z, hzr, hzc, _, i0, hi0, hz0⟩ := zeroT_run (c := c) (w := w) hz
  have hpl : (parts.map fun (i, x) => (i, a.eval x)).toList = parts.toList.map fun p => (p.1, a.eval p.2) := by simp
  rcases hp with ⟨fs, pl, hu, hpl', hc⟩ | ⟨n, e, i, hu, hi, hc⟩
  · obtain ⟨g1, g2⟩ := cPartsF_rel (a := a) hg hf _ _ hc
    obtain ⟨us, k1, k2⟩ := fill_D (c := c) (pl.toArray[·]?) _ _ z.cells zs l hzc hd g1 g2
    refine ⟨.agg us, ?_, .agg us l k2.1 k2.2⟩
    have hm := fieldPl_run (w := w) fs.toList pl hpl'
    simp only [Instr.build, Sem.run_bind, hzr, Result.andThen_ok, run_underlying hu]
    rw [Array.mapM_eq_mapM_toList]
    simp only [Sem.run_map, hm, Result.andThen_ok, hpl]
    rw [show (fun (x : Nat) => pl.toArray[x]?) = (pl.toArray[·]?) from rfl, k1]
    rfl
  · obtain ⟨g1, g2⟩ := cPartsA_rel (a := a) hg hf _ _ hc
    obtain ⟨us, k1, k2⟩ := fill_D (c := c) (fun j => some (j * i.size, i.size)) _ _ z.cells zs l hzc hd g1 g2
    refine ⟨.agg us, ?_, .agg us l k2.1 k2.2⟩
    simp only [Instr.build, Sem.run_bind, hzr, Result.andThen_ok, run_underlying hu, sizeOf_run hi, hpl]
    rw [k1]
    rfl

end
end Go.KL
