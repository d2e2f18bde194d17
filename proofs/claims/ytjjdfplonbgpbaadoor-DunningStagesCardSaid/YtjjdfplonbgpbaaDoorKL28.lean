/- From what a row reads to what a walk knows. -/
import Derived.Test.YtjjdfplonbgpbaaDoorKL27
import Derived.DataReads
import Derived.ChangeArms
import Derived.OpenShut
import Derived.DataElems
import Derived.Carry
set_option linter.unusedVariables false
set_option linter.unusedSimpArgs false
namespace Go.KL
open Go Go.RowKit

/-- the shapes of types that are read -/
inductive Sh where
  | int (k : IntKind)
  | bool
  | str
  | sl (e : Sh)
  | agg (l : List Sh)

mutual
def Sh.n : Sh → Nat
  | .agg l => nL l
  | _ => 1
def nL : List Sh → Nat
  | [] => 0
  | s :: r => s.n + nL r
end

mutual
def shape (P : Program) : Nat → TypeId → Option Sh
  | 0, _ => none
  | f + 1, t => match P.underlying t with
    | some .bool => some .bool
    | some (.int k) => some (.int k)
    | some .string => some .str
    | some (.slice e) => match shape P f e with
      | some s => if P.cellsOf e = s.n then some (.sl s) else none
      | none => none
    | some (.struct fs) => match shapeFs P f fs.toList 0 with
      | some l => if P.cellsOf t = nL l then some (.agg l) else none
      | none => none
    | some (.array n e) => match shape P f e with
      | some s => if P.cellsOf e = s.n ∧ P.cellsOf t = n * s.n then some (.agg (List.replicate n s)) else none
      | none => none
    | _ => none
def shapeFs (P : Program) : Nat → List Field → Nat → Option (List Sh)
  | 0, _, _ => none
  | f + 1, [], _ => some []
  | f + 1, x :: r, off => match shape P f x.type, shapeFs P f r (off + P.cellsOf x.type) with
    | some s, some l => if x.offset = off ∧ P.cellsOf x.type = s.n then some (s :: l) else none
    | _, _ => none
end

section
variable {H : Type}
mutual
/-- the cells that a reading says -/
def Sh.cells : Sh → DataW H → List D
  | .int _, .lit (.int k n) => [.int k n]
  | .bool, .lit (.bool b) => [.bool b]
  | .str, .lit (.string s) => [.str ⟨s.toArray⟩]
  | .sl e, .slice elems _ => [.sl (elems.map e.cells)]
  | .sl e, .nil => [.sl []]
  | .agg l, .agg parts => cellsL l parts
  | _, _ => []
def cellsL : List Sh → List (DataW H) → List D
  | s :: r, d :: ds => s.cells d ++ cellsL r ds
  | _, _ => []
end
mutual
/-- what is known of a reading -/
def Sh.ok : Sh → DataW H → Prop
  | .int k, d => ∃ n, d = .lit (.int k n) ∧ (Lit.int k n).wf = true
  | .bool, d => ∃ b, d = .lit (.bool b)
  | .str, d => ∃ s : List UInt8, d = .lit (.string s) ∧ s.length ≤ maxLen
  | .sl e, d => d = .nil ∨ ∃ es sp, d = .slice es sp ∧ es.length ≤ maxLen ∧ ∀ x ∈ es, e.ok x
  | .agg l, d => ∃ parts, d = .agg parts ∧ okL l parts
def okL : List Sh → List (DataW H) → Prop
  | [], ds => ds = []
  | s :: r, ds => ∃ d ds', ds = d :: ds' ∧ s.ok d ∧ okL r ds'
end
end

/-- cells, one by one -/
def VC (c : Cfg) (cs : List Value) (es : List D) : Prop := cs.length = es.length ∧ ∀ (j : Nat) (v : Value) (d : D), cs[j]? = some v → es[j]? = some d → V c v d ∧ d.leaf = true

theorem VC.nil (c : Cfg) : VC c [] [] := ⟨rfl, fun j v d h => by simp at h⟩
theorem VC.one {c : Cfg} {v : Value} {d : D} (h : V c v d) (hl : d.leaf = true) : VC c [v] [d] := by
  refine ⟨rfl, fun j u e h1 h2 => ?_⟩
  cases j with
  | zero => simp at h1 h2; subst h1; subst h2; exact ⟨h, hl⟩
  | succ j => simp at h1
theorem VC.app {c : Cfg} {a b : List Value} {x y : List D} (h : VC c a x) (k : VC c b y) : VC c (a ++ b) (x ++ y) := by
  refine ⟨by simp [h.1, k.1], fun j v d h1 h2 => ?_⟩
  by_cases hj : j < a.length
  · rw [List.getElem?_append_left hj] at h1
    rw [List.getElem?_append_left (by rw [← h.1]; exact hj)] at h2
    exact h.2 j v d h1 h2
  · rw [List.getElem?_append_right (by omega)] at h1
    rw [List.getElem?_append_right (by rw [← h.1]; omega), ← h.1] at h2
    exact k.2 _ v d h1 h2

/-- all cells of a world are held fast -/
def cfgW (W : World) : Cfg where
  F := fun a => match W.cell? a with
    | some v => if v.oneCell' = true then some v else none
    | none => none
  n := 0
  μ := fun _ => 0
  m := 0
  τ := fun _ => ⟨0, 0, 0, none⟩
  ν := fun _ => none
  dd := []

theorem cfgW_F {W : World} {a : Addr} {v : Value} (h : W.cell? a = some v) (ho : v.oneCell' = true) : (cfgW W).F a = some v := by
  simp only [cfgW, h, ho, if_true]

theorem relW (W : World) : RelS W.heap.size W (cfgW W) [] [] W where
  hB := Nat.le_refl _
  below := Below.refl _ _
  nS := rfl
  mT := rfl
  holds := fun a v h => by
    simp only [cfgW] at h
    cases hc : W.cell? a with
    | none => rw [hc] at h; cases h
    | some u =>
      rw [hc] at h
      simp only at h
      split at h
      · rename_i ho; cases h; exact ⟨rfl, ho⟩
      · cases h
  inj := fun i j _ hi => absurd hi (Nat.not_lt_zero _)
  base := fun i _ hi => absurd hi (Nat.not_lt_zero _)
  sep := fun i o ho => by simp at ho
  nu := fun i o ho => by simp at ho
  obj := fun i o ho => by simp at ho
  tok := fun t x ht => by simp at ht
  tinj := fun t t' ht => absurd ht (Nat.not_lt_zero _)
  dd := fun b hb => by simp [cfgW] at hb

section
variable {H : Type} {enc : TypeId × Value → H} {P : Program} {W : World} {sp : Nat → Bool} {held : Bool}

/-- the claim for one type -/
def ShOk (enc : TypeId × Value → H) (P : Program) (W : World) (sp : Nat → Bool) (held : Bool) (t : TypeId) (s : Sh) : Prop :=
  ∀ fuel cs d ps, DataW.trod enc P W 0 sp held fuel t cs = some (d, ps) → VC (cfgW W) cs (s.cells d) ∧ s.ok d ∧ cs.length = s.n

theorem shOk_sl {t e : TypeId} {s : Sh} (ht : P.underlying t = some (.slice e)) (hn : P.cellsOf e = s.n) (h : ShOk enc P W sp held e s) : ShOk enc P W sp held t (.sl s) := by
  intro fuel cs d ps hd
  rcases DataW.trod_slice ht hd with ⟨rfl, hx⟩ | ⟨a, len, cap, elems, rest, m, rfl, rfl, hx, hb, hlc, hcm, hel, hes, _, _⟩
  · simp only [Prod.mk.injEq] at hx
    obtain ⟨rfl, rfl⟩ := hx
    exact ⟨VC.one .slnil rfl, .inl rfl, rfl⟩
  · simp only [Prod.mk.injEq] at hx
    obtain ⟨rfl, rfl⟩ := hx
    -- each element
    have key : ∀ (i : Nat) (x : DataW H), (elems.map (·.1))[i]? = some x → ∃ cs', W.cells? 0 (a.add (i * s.n)) s.n = some cs' ∧ VC (cfgW W) cs' (s.cells x) ∧ s.ok x := by
      intro i x hi
      rw [List.getElem?_map] at hi
      cases hy : elems[i]? with
      | none => rw [hy] at hi; cases hi
      | some y =>
        rw [hy] at hi
        obtain rfl := Option.some.inj hi
        have hil : i < len := by rw [← hel]; exact (List.getElem?_eq_some_iff.1 hy).1
        have := hes i hil
        rw [hy, hn] at this
        cases hc : W.cells? 0 (a.add (i * s.n)) s.n with
        | none => rw [hc] at this; cases this
        | some cs' =>
          rw [hc] at this
          obtain ⟨h1, h2, _⟩ := h m cs' y.1 y.2 this
          exact ⟨cs', rfl, h1, h2⟩
    refine ⟨?_, .inr ⟨_, _, rfl, by simp only [List.length_map]; omega, fun x hx => ?_⟩, rfl⟩
    · have hcell : ∀ (i : Nat) (e' : List D) (j : Nat) (d' : D), ((elems.map (·.1)).map s.cells)[i]? = some e' → e'[j]? = some d' → ∃ v, W.cell? (a.add (i * s.n + j)) = some v ∧ V (cfgW W) v d' ∧ d'.leaf = true := by
        intro i e' j d' h1 h2
        rw [List.getElem?_map] at h1
        cases hx : (elems.map (·.1))[i]? with
        | none => rw [hx] at h1; cases h1
        | some x =>
          rw [hx] at h1
          obtain rfl := Option.some.inj h1
          obtain ⟨cs', k1, k2, k3⟩ := key i x hx
          obtain ⟨_, k4, k5⟩ := World.cells?_some k1
          have hj : j < cs'.length := by rw [k2.1]; exact (List.getElem?_eq_some_iff.1 h2).1
          have hv := List.getElem?_eq_getElem hj
          have := k5 j (by omega)
          rw [hv, Addr.add_add] at this
          exact ⟨_, this, k2.2 j _ d' hv h2⟩
      have hlen : ((elems.map (·.1)).map s.cells).length = len := by simp [hel]
      have hV := V.sl (c := cfgW W) a cap ((elems.map (·.1)).map s.cells) s.n (fun i j => (W.cell? (a.add (i * s.n + j))).getD undef) (by rw [hlen]; exact hlc)
        (fun e' he => by
          obtain ⟨i, hi, rfl⟩ := List.mem_iff_getElem.1 he
          have hi' : i < (elems.map (·.1)).length := by simpa using hi
          obtain ⟨cs', k1, k2, _⟩ := key i _ (List.getElem?_eq_getElem hi')
          rw [List.getElem_map, ← k2.1]
          exact (World.cells?_some k1).2.1)
        (fun i e' j d' h1 h2 => by
          obtain ⟨v, k1, k2, k3⟩ := hcell i e' j d' h1 h2
          simp only [k1, Option.getD_some]
          exact cfgW_F k1 (k2.oneCell k3))
        (fun i e' j d' h1 h2 => by
          obtain ⟨v, k1, k2, k3⟩ := hcell i e' j d' h1 h2
          simp only [k1, Option.getD_some]
          exact k2)
      rw [hlen] at hV
      exact VC.one hV rfl
    · obtain ⟨i, hi, rfl⟩ := List.mem_iff_getElem.1 hx
      obtain ⟨_, _, _, k⟩ := key i _ (List.getElem?_eq_getElem hi)
      exact k

theorem shOk_list {cs : List Value} {fuel : Nat} : ∀ (xs : List (DataW H × List MemPlace)) (l : List (TypeId × Sh)) (off : Nat), xs.length = l.length →
    (∀ (i : Nat) ts, l[i]? = some ts → ShOk enc P W sp held ts.1 ts.2) →
    (∀ (i : Nat) ts x, l[i]? = some ts → xs[i]? = some x → DataW.trod enc P W 0 sp held fuel ts.1 ((cs.drop (off + nL ((l.take i).map (·.2)))).take ts.2.n) = some x) →
    VC (cfgW W) ((cs.drop off).take (nL (l.map (·.2)))) (cellsL (l.map (·.2)) (xs.map (·.1))) ∧ okL (l.map (·.2)) (xs.map (·.1))
  | [], [], off, _, _, _ => ⟨by simp only [List.map_nil, nL, List.take_zero, cellsL]; exact VC.nil _, rfl⟩
  | x :: xs, [], _, hl, _, _ => by simp at hl
  | [], y :: l, _, hl, _, _ => by simp at hl
  | x :: xs, (t, s) :: l, off, hl, hs, h => by
    have h0 := h 0 (t, s) x rfl rfl
    simp only [List.take_zero, List.map_nil, nL, Nat.add_zero] at h0
    obtain ⟨k1, k2, k3⟩ := hs 0 (t, s) rfl fuel _ x.1 x.2 h0
    have ih := shOk_list (cs := cs) (fuel := fuel) xs l (off + s.n) (by simpa using hl) (fun i ts hi => hs (i + 1) ts (by simpa using hi)) (fun i ts y hi hy => by
      have := h (i + 1) ts y (by simpa using hi) (by simpa using hy)
      simp only [List.take_succ_cons, List.map_cons, nL] at this
      rwa [← Nat.add_assoc] at this)
    simp only [List.map_cons, nL, cellsL, okL]
    refine ⟨?_, _, _, rfl, k2, ih.2⟩
    rw [List.take_add, List.drop_drop]
    exact k1.app ih.1

mutual
theorem shOk (P : Program) (enc : TypeId × Value → H) (W : World) (sp : Nat → Bool) (held : Bool) : ∀ (f : Nat) (t : TypeId) (s : Sh), shape P f t = some s → ShOk enc P W sp held t s
  | 0, t, s, h => by simp [shape] at h
  | f + 1, t, s, h => by
    simp only [shape] at h
    split at h
    · rename_i ht
      obtain rfl := Option.some.inj h
      intro fuel cs d ps hd
      obtain ⟨b, rfl, hx⟩ := DataW.trod_bool ht hd
      simp only [Prod.mk.injEq] at hx
      obtain ⟨rfl, rfl⟩ := hx
      exact ⟨VC.one (.bool b) rfl, ⟨b, rfl⟩, rfl⟩
    · rename_i k ht
      obtain rfl := Option.some.inj h
      intro fuel cs d ps hd
      obtain ⟨n, rfl, hx, hw⟩ := DataW.trod_int ht hd
      simp only [Prod.mk.injEq] at hx
      obtain ⟨rfl, rfl⟩ := hx
      exact ⟨VC.one (.int k n) rfl, ⟨n, rfl, hw⟩, rfl⟩
    · rename_i ht
      obtain rfl := Option.some.inj h
      intro fuel cs d ps hd
      obtain ⟨str, rfl, hx, hw⟩ := DataW.trod_string ht hd
      simp only [Prod.mk.injEq] at hx
      obtain ⟨rfl, rfl⟩ := hx
      exact ⟨VC.one (.str str) rfl, ⟨_, rfl, by simpa using hw⟩, rfl⟩
    · rename_i e ht
      split at h
      · rename_i s' hs'
        split at h
        · rename_i hn
          obtain rfl := Option.some.inj h
          exact shOk_sl ht hn (shOk P enc W sp held f e s' hs')
        · cases h
      · cases h
    · rename_i fs ht
      split at h
      · rename_i l hl
        split at h
        · rename_i hn
          obtain rfl := Option.some.inj h
          intro fuel cs d ps hd
          obtain ⟨xs, m, rfl, hx, hlen, hxl, hget⟩ := DataW.trod_struct ht hd
          simp only [Prod.mk.injEq] at hx
          obtain ⟨rfl, rfl⟩ := hx
          obtain ⟨tl, e1, e2, e3, e4⟩ := shFs P enc W sp held f fs.toList 0 l hl
          have := shOk_list (enc := enc) (P := P) (W := W) (sp := sp) (held := held) (cs := cs) (fuel := m) xs tl 0 (by rw [hxl, e2]; simp) e3 (fun i ts x hi hx => by
            obtain ⟨fd, k1, k2, k3, k4⟩ := e4 i ts hi
            rw [← hx, ← hget i fd (by simpa using k1), ← k2, ← k4, ← k3])
          rw [e1, List.drop_zero, ← hn, ← hlen, List.take_length] at this
          exact ⟨this.1, ⟨_, rfl, this.2⟩, by rw [hlen, hn]; rfl⟩
        · cases h
      · cases h
    · rename_i n e ht
      split at h
      · rename_i s' hs'
        split at h
        · rename_i hn
          obtain rfl := Option.some.inj h
          have ihe := shOk P enc W sp held f e s' hs'
          intro fuel cs d ps hd
          obtain ⟨xs, m, rfl, hx, hlen, hxl, hget⟩ := DataW.trod_array ht hd
          simp only [Prod.mk.injEq] at hx
          obtain ⟨rfl, rfl⟩ := hx
          have hnl : ∀ k, nL (List.replicate k s') = k * s'.n := by
            intro k
            induction k with
            | zero => simp [nL]
            | succ k ih => simp only [List.replicate_succ, nL, ih]; rw [Nat.succ_mul]; omega
          have := shOk_list (enc := enc) (P := P) (W := W) (sp := sp) (held := held) (cs := cs) (fuel := m) xs (List.replicate n (e, s')) 0 (by rw [hxl]; simp) (fun i ts hi => by
              obtain rfl := List.eq_of_mem_replicate (List.mem_of_getElem? hi)
              exact ihe) (fun i ts x hi hx => by
              have hin : i < n := by rw [← hxl]; exact (List.getElem?_eq_some_iff.1 hx).1
              obtain rfl := List.eq_of_mem_replicate (List.mem_of_getElem? hi)
              rw [← hx, ← hget i hin, List.take_replicate, List.map_replicate, hnl, Nat.min_eq_left (Nat.le_of_lt hin), Nat.zero_add, hn.1])
          rw [List.map_replicate, hnl, List.drop_zero, ← hn.2, ← hlen, List.take_length] at this
          exact ⟨this.1, ⟨_, rfl, this.2⟩, by rw [hlen, hn.2]; exact (hnl n).symm⟩
        · cases h
      · cases h
    · cases h
theorem shFs (P : Program) (enc : TypeId × Value → H) (W : World) (sp : Nat → Bool) (held : Bool) : ∀ (f : Nat) (fs : List Field) (off : Nat) (l : List Sh), shapeFs P f fs off = some l →
    ∃ tl : List (TypeId × Sh), tl.map (·.2) = l ∧ tl.length = fs.length ∧ (∀ (i : Nat) ts, tl[i]? = some ts → ShOk enc P W sp held ts.1 ts.2) ∧
      ∀ (i : Nat) ts, tl[i]? = some ts → ∃ fd : Field, fs[i]? = some fd ∧ fd.type = ts.1 ∧ fd.offset = off + nL ((tl.take i).map (·.2)) ∧ P.cellsOf fd.type = ts.2.n
  | 0, fs, off, l, h => by simp [shapeFs] at h
  | f + 1, [], off, l, h => by
    simp only [shapeFs, Option.some.injEq] at h
    subst h
    exact ⟨[], rfl, rfl, fun i ts hi => by simp at hi, fun i ts hi => by simp at hi⟩
  | f + 1, x :: r, off, l, h => by
    simp only [shapeFs] at h
    split at h
    · rename_i s l' hs hl'
      split at h
      · rename_i hc
        obtain rfl := Option.some.inj h
        obtain ⟨tl, e1, e2, e3, e4⟩ := shFs P enc W sp held f r _ l' hl'
        refine ⟨(x.type, s) :: tl, by simp [e1], by simp [e2], fun i ts hi => ?_, fun i ts hi => ?_⟩
        · cases i with
          | zero => simp at hi; subst hi; exact shOk P enc W sp held f x.type s hs
          | succ i => exact e3 i ts (by simpa using hi)
        · cases i with
          | zero => simp at hi; subst hi; exact ⟨x, rfl, rfl, by simp [hc.1, nL], hc.2⟩
          | succ i =>
            obtain ⟨fd, k1, k2, k3, k4⟩ := e4 i ts (by simpa using hi)
            refine ⟨fd, by simpa using k1, k2, ?_, k4⟩
            rw [k3, hc.2]
            simp only [List.take_succ_cons, List.map_cons, nL]
            omega
      · cases h
    · cases h
end
end

end Go.KL
