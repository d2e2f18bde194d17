/- Pure steps are sound. -/
import Derived.Test.YtjjdfplonbgpbaaDoorKL5
import Derived.Laws.StructEq
import Derived.Laws.Slices
import Derived.Lib.Strings
set_option linter.unusedVariables false
set_option linter.unusedSimpArgs false
namespace Go.KL
open Go Go.RowKit

theorem ofLeaf_V {c : Cfg} {v : Value} {d : D} (h : ofLeaf v = some d) : V c v d ∧ d.leaf = true := by
  unfold ofLeaf at h
  split at h <;> simp only [Option.some.injEq, reduceCtorEq] at h <;> subst h <;> exact ⟨by constructor, rfl⟩

theorem ofLeaves_V {c : Cfg} : ∀ {vs : List Value} {ds : List D}, ofLeaves vs = some ds → vs.length = ds.length ∧ (∀ (j : Nat) v d, vs[j]? = some v → ds[j]? = some d → V c v d) ∧ allLeaf ds = true
  | [], ds, h => by simp [ofLeaves] at h; subst h; simp [allLeaf]
  | v :: vs, ds, h => by
    simp only [ofLeaves] at h
    split at h
    · rename_i d l h1 h2
      obtain rfl := Option.some.inj h
      obtain ⟨g1, g2, g3⟩ := ofLeaves_V (c := c) h2
      obtain ⟨k1, k2⟩ := ofLeaf_V (c := c) h1
      refine ⟨by simp [g1], fun j v' d' h3 h4 => ?_, by simp [allLeaf, k2, g3]⟩
      cases j with
      | zero => simp at h3 h4; subst h3; subst h4; exact k1
      | succ j => exact g2 j v' d' (by simpa using h3) (by simpa using h4)
    · cases h

theorem ofV_V {c : Cfg} {v : Value} {d : D} (h : ofV v = some d) : V c v d := by
  unfold ofV at h
  split at h
  · rename_i cs
    simp only [Option.map_eq_some_iff] at h
    obtain ⟨l, h1, rfl⟩ := h
    obtain ⟨g1, g2, _⟩ := ofLeaves_V (c := c) h1
    exact .agg cs l (by simpa using g1) fun j v d h3 h4 => g2 j v d (by simpa using h3) h4
  · rename_i cs
    simp only [Option.map_eq_some_iff] at h
    obtain ⟨l, h1, rfl⟩ := h
    obtain ⟨g1, g2, _⟩ := ofLeaves_V (c := c) h1
    exact .tup cs l (by simpa using g1) fun j v d h3 h4 => g2 j v d (by simpa using h3) h4
  · exact (ofLeaf_V h).1

section
variable {E : Env} {B : Nat} {w0 : World} {c : Cfg} {S : List O} {tk : List (Nat × TypeId × Nat)} {w : World} {a : Act} {fr : List (Nat × D)}

theorem eval_V (hg : GRel E c) (hf : FRel c a.tmps fr) {x : Operand} {y : Opd} (h : cOpd x = some y) : V c (a.eval x) (ev E fr y) := by
  cases x with
  | tmp t => simp only [cOpd, Option.some.injEq] at h; subst h; exact hf t
  | const v =>
    simp only [cOpd, Option.map_eq_some_iff] at h
    obtain ⟨d, h1, rfl⟩ := h
    exact ofV_V h1
  | global g =>
    simp only [cOpd, Option.some.injEq] at h; subst h
    simp only [ev, Act.eval]
    cases he : E.G g with
    | none => exact .top _
    | some e => exact hg g e he
  | func f =>
    simp only [cOpd, Option.some.injEq] at h; subst h
    exact .fn f #[] [] rfl (by simp)

theorem evals_V (hg : GRel E c) (hf : FRel c a.tmps fr) : ∀ {xs : List Operand} {ys : List Opd}, cOpds xs = some ys → xs.length = ys.length ∧ (evs E fr ys).length = ys.length ∧
    ∀ (j : Nat) v d, (xs.map a.eval)[j]? = some v → (evs E fr ys)[j]? = some d → V c v d
  | [], ys, h => by simp [cOpds] at h; subst h; simp [evs]
  | x :: xs, ys, h => by
    simp only [cOpds] at h
    split at h
    · rename_i y l h1 h2
      obtain rfl := Option.some.inj h
      obtain ⟨g0, g1, g2⟩ := evals_V hg hf h2
      refine ⟨by simp [g0], by simp [evs, g1], fun j v d h3 h4 => ?_⟩
      cases j with
      | zero => simp [evs] at h3 h4; subst h3; subst h4; exact eval_V hg hf h1
      | succ j => exact g2 j v d (by simpa using h3) (by simpa [evs] using h4)
    · cases h

theorem evals_VL (hg : GRel E c) (hf : FRel c a.tmps fr) {xs : Array Operand} {ys : List Opd} (h : cOpds xs.toList = some ys) : VL c (xs.map a.eval) (evs E fr ys) := by
  obtain ⟨g0, g1, g2⟩ := evals_V (a := a) hg hf h
  refine ⟨by rw [g1, ← g0]; simp, fun j v d h1 h2 => g2 j v d ?_ h2⟩
  rw [← h1]; simp

theorem allLeaf_get : ∀ {l : List D}, allLeaf l = true → ∀ {j : Nat} {d : D}, l[j]? = some d → d.leaf = true
  | [], _, j, d, h => by simp at h
  | x :: l, hs, j, d, h => by
    simp only [allLeaf, Bool.and_eq_true] at hs
    cases j with
    | zero => simp at h; subst h; exact hs.1
    | succ j => exact allLeaf_get hs.2 (by simpa using h)

/-- what lies from an address on -/
def LiesAt (c : Cfg) (w : World) (ad : Addr) (cs : List D) (off : Nat) : Prop := ∀ (j : Nat) d, cs[off + j]? = some d → ∃ v, w.cell? (ad.add j) = some v ∧ V c v d

theorem LiesAt.pe (hr : RelS B w0 c S tk w) {p : Value} {e : List D} {off : Nat} (h : V c p (.pe e off)) : ∃ ad, p = .pointer (some ad) ∧ LiesAt c w ad e off := by
  cases h with
  | pe a e off vs hF hV =>
    refine ⟨_, rfl, fun j d hd => ⟨vs (off + j), ?_, hV _ d hd⟩⟩
    rw [add_add]
    exact (hr.holds _ _ (hF _ d hd)).1

theorem LiesAt.po (hr : RelS B w0 c S tk w) {p : Value} {id off : Nat} {cs : List D} (h : V c p (.po id off)) (hd : S[id]? = some (.arr cs)) : ∃ ad, p = .pointer (some ad) ∧ LiesAt c w ad cs off := by
  cases h with
  | po _ _ hid hν =>
    obtain ⟨cur, T, hcur, hlen, hV⟩ := hr.objF hd rfl
    refine ⟨_, rfl, fun j d hj => ?_⟩
    have hl := (List.getElem?_eq_some_iff.1 hj).1
    refine ⟨cur[off + j]'(by omega), ?_, (hV _ _ d (Array.getElem?_eq_getElem (by omega)) hj).1⟩
    rw [add_own', cell_of_row w _ _ cur T (0, 0) hcur]
    exact Array.getElem?_eq_getElem _

theorem V.pvInv {c : Cfg} {v : Value} {id n i j : Nat} (h : V c v (.pv id n i j)) : id < c.n ∧ ∃ k A, c.ν id = some k ∧ v = .pointer (some A) ∧ (n < k.len ∨ (n = k.len ∧ k.at (i * k.sz + j) v)) := by
  cases h with
  | pv => exact ⟨‹_›, _, _, ‹_›, rfl, ‹_›⟩

/-- where an element of a growing row lies -/
theorem RelS.vecAt (hr : RelS B w0 c S tk w) {p : Value} {id n i j : Nat} {es : List (List D)} {e : TypeId} {sz : Nat} (h : V c p (.pv id n i j)) (hd : S[id]? = some (.vec es e sz)) (hn : es.length = n) :
    ∃ k b cap cur, c.ν id = some k ∧ k.len = es.length ∧ k.e = e ∧ k.sz = sz ∧ (∀ x ∈ es, x.length = sz) ∧ k.blk = some (b, cap) ∧ p = .pointer (some ⟨b, i * sz + j, none⟩) ∧ w.heap[b]? = some (.cells cur e (0, 0)) ∧ cur.size = cap * sz ∧
      (∀ (j : Nat) v d, cur[j]? = some v → es.flatten[j]? = some d → V c v d ∧ v.oneCell' = true) ∧ es.length ≤ cap ∧ cap ≤ maxLen := by
  obtain ⟨k, h1, h2, h3, h4, h5, h6⟩ := hr.obj id _ hd
  obtain ⟨_, k', A, g1, g2, g3⟩ := h.pvInv
  rw [h1] at g1; obtain rfl := Option.some.inj g1
  have hi : k.at (i * k.sz + j) p := by rcases g3 with g | ⟨_, g⟩; (· omega); exact g
  unfold Tok.at at hi
  cases hb : k.blk with
  | none => rw [hb] at hi; exact hi.elim
  | some q =>
    obtain ⟨b, cap⟩ := q
    rw [hb] at h6 hi
    simp only at h6 hi
    obtain ⟨⟨cur, a1, a2, a3⟩, a4, a5, _⟩ := h6
    subst h4
    exact ⟨k, b, cap, cur, h1, h2, h3, rfl, h5, hb, hi, a1, a2, a3, a4, a5⟩

theorem LiesAt.pv (hr : RelS B w0 c S tk w) {p : Value} {id n i j : Nat} {es : List (List D)} {e : TypeId} {sz : Nat} {row : List D} (h : V c p (.pv id n i j)) (hd : S[id]? = some (.vec es e sz)) (hn : es.length = n) (hrow : es[i]? = some row) :
    ∃ ad, p = .pointer (some ad) ∧ LiesAt c w ad row j := by
  obtain ⟨k, b, cap, cur, h1, h2, h3, h4, h5, hb, hp, a1, a2, a3, a4, a5⟩ := hr.vecAt h hd hn
  refine ⟨_, hp, fun j' d hj => ?_⟩
  have hf := flat_of es h5 i (j + j') row d hrow hj
  have hl := (List.getElem?_eq_some_iff.1 hf).1
  rw [flat_len es h5] at hl
  have hmul : es.length * sz ≤ cap * sz := Nat.mul_le_mul_right _ a4
  have hlt : i * sz + (j + j') < cur.size := by omega
  refine ⟨cur[i * sz + (j + j')]'hlt, ?_, (a3 _ _ d (Array.getElem?_eq_getElem hlt) hf).1⟩
  rw [add_own', Nat.add_assoc, cell_of_row w _ _ cur e (0, 0) a1]
  exact Array.getElem?_eq_getElem _

theorem aggT_run {P : Program} {T : TypeId} {b : Bool} (h : aggT P T = some b) : (isAgg T).run P w = .ok b w := by
  unfold aggT at h
  cases hu : P.underlying T with
  | none => simp [hu] at h
  | some d =>
    rw [hu] at h
    simp only [isAgg, Sem.run_bind, run_underlying hu, Result.andThen_ok]
    cases d <;> simp at h ⊢ <;> exact h

theorem info_run {P : Program} {T : TypeId} {i : TypeInfo} (h : P.info? T = some i) : (typeInfo T).run P w = .ok i w := by
  simp [typeInfo, h]

theorem sizeOf_run {P : Program} {T : TypeId} {i : TypeInfo} (h : P.info? T = some i) : (sizeOf T).run P w = .ok i.size w := by
  simp [sizeOf, info_run h]

theorem szT_spec {P : Program} {T : TypeId} {n : Nat} {ag : Bool} (h : szT P T = some (n, ag)) : ∃ i, P.info? T = some i ∧ aggT P T = some ag ∧ i.size = n ∧ (ag = false → n = 1) := by
  unfold szT at h
  split at h
  · rename_i i h1 h2
    simp only [Option.some.injEq, Prod.mk.injEq] at h
    obtain ⟨rfl, rfl⟩ := h
    exact ⟨i, h1, h2, rfl, by simp⟩
  · rename_i i h1 h2
    split at h
    · simp only [Option.some.injEq, Prod.mk.injEq] at h
      obtain ⟨rfl, rfl⟩ := h
      rename_i h3
      exact ⟨i, h1, h2, h3, fun _ => rfl⟩
    · cases h
  · cases h

theorem loadVar_run {P : Program} {T : TypeId} {n : Nat} {ag : Bool} (h : szT P T = some (n, ag)) {ad : Addr} {cs : List D} {off : Nat} (hl : LiesAt c w ad cs off) {d : D} (hd : rdC cs off n ag = some d) :
    ∃ v, (loadVar T ad).run P w = .ok v w ∧ V c v d := by
  obtain ⟨i, hi, hag, hn, h1⟩ := szT_spec h
  subst hn
  cases ag with
  | true =>
    simp only [rdC, if_true] at hd
    split at hd
    · rename_i hle
      obtain rfl := Option.some.inj hd
      have hex : ∀ j, j < i.size → ∃ v, w.cell? (ad.add j) = some v ∧ V c v (cs[off + j]?.getD .top) := fun j hj => by
        have hg : cs[off + j]? = some (cs[off + j]'(by omega)) := List.getElem?_eq_getElem (by omega)
        obtain ⟨v, h2, h3⟩ := hl j _ hg
        exact ⟨v, h2, by rw [hg]; exact h3⟩
      have hf : ∃ f : Nat → Value, ∀ j, j < i.size → w.cell? (ad.add j) = some (f j) ∧ V c (f j) (cs[off + j]?.getD .top) :=
        ⟨fun j => (w.cell? (ad.add j)).getD undef, fun j hj => by
          obtain ⟨v, h2, h3⟩ := hex j hj
          exact ⟨by simp [h2], by simpa [h2] using h3⟩⟩
      obtain ⟨f, hf⟩ := hf
      refine ⟨.agg ((List.range i.size).map f).toArray, ?_, ?_⟩
      · simp only [loadVar, Sem.run_bind, aggT_run hag, Result.andThen_ok, if_true, sizeOf_run hi]
        have hrun := run_loadCells_list (P := P) (w := w) ad ((List.range i.size).map f) (fun j v hj => by
          have hjl : j < i.size := by have := (List.getElem?_eq_some_iff.1 hj).1; simpa using this
          rw [List.getElem?_map, List.getElem?_range hjl] at hj
          simp only [Option.map_some, Option.some.injEq] at hj
          subst hj
          exact (hf j hjl).1)
        simp only [List.length_map, List.length_range] at hrun
        rw [hrun]
        rfl
      · refine .agg _ _ (by simp; omega) fun j v d hj hdj => ?_
        have hjl : j < i.size := by have := (Array.getElem?_eq_some_iff.1 hj).1; simpa using this
        have hv : v = f j := by simpa [hjl, List.getElem?_range] using hj.symm
        subst hv
        rw [List.getElem?_take, if_pos hjl, List.getElem?_drop] at hdj
        have := (hf j hjl).2
        rw [hdj] at this
        exact this
    · cases hd
  | false =>
    simp only [rdC, Bool.false_eq_true, if_false] at hd
    obtain ⟨v, h2, h3⟩ := hl 0 d (by simpa using hd)
    have h2' : w.cell? ad = some v := by simpa [Addr.add] using h2
    refine ⟨v, ?_, h3⟩
    simp only [loadVar, Sem.run_bind, aggT_run hag, Result.andThen_ok, Bool.false_eq_true, if_false]
    simp [h2']

theorem part_run {P : Program} {T : TypeId} {n : Nat} {ag : Bool} (h : szT P T = some (n, ag)) {vs : Array Value} {cs : List D} {off : Nat} (hs : vs.size = cs.length)
    (hv : ∀ (j : Nat) v d, vs[j]? = some v → cs[j]? = some d → V c v d) {d : D} (hd : rdC cs off n ag = some d) : ∃ v, (part T vs off).run P w = .ok v w ∧ V c v d := by
  obtain ⟨i, hi, hag, hn, h1⟩ := szT_spec h
  subst hn
  cases ag with
  | true =>
    simp only [rdC, if_true] at hd
    split at hd
    · rename_i hle
      obtain rfl := Option.some.inj hd
      refine ⟨.agg (vs.extract off (off + i.size)), ?_, ?_⟩
      · simp only [part, Sem.run_bind, aggT_run hag, Result.andThen_ok, if_true, sizeOf_run hi, Sem.run_pure]
      · refine .agg _ _ (by simp; omega) fun j v d hj hdj => ?_
        have hjl : j < i.size := by have := (Array.getElem?_eq_some_iff.1 hj).1; simp at this; omega
        rw [List.getElem?_take, if_pos hjl, List.getElem?_drop] at hdj
        rw [Array.getElem?_extract_of_lt (by omega)] at hj
        exact hv _ v d (by rw [Array.getElem?_eq_getElem (by omega)]; exact hj) hdj
    · cases hd
  | false =>
    simp only [rdC, Bool.false_eq_true, if_false] at hd
    have hlt : off < vs.size := by rw [hs]; exact (List.getElem?_eq_some_iff.1 hd).1
    have hg : vs[off]? = some vs[off] := Array.getElem?_eq_getElem hlt
    refine ⟨vs[off], ?_, hv _ _ _ hg hd⟩
    simp only [part, Sem.run_bind, aggT_run hag, Result.andThen_ok, Bool.false_eq_true, if_false, hg, Sem.run_pure]

end
end Go.KL
