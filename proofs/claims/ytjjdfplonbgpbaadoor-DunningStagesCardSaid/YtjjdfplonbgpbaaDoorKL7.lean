/- Pure steps are sound: filling, comparing, slicing. -/
import Derived.Test.YtjjdfplonbgpbaaDoorKL6
set_option linter.unusedVariables false
set_option linter.unusedSimpArgs false
namespace Go.KL
open Go Go.RowKit

/-- cells that are read as a list -/
def CRel (c : Cfg) (vs : Array Value) (ds : List D) : Prop := vs.size = ds.length ∧ ∀ (j : Nat) v d, vs[j]? = some v → ds[j]? = some d → V c v d

theorem splice_get (cs : Array Value) (off : Nat) (l : List Value) : ∀ (k : Nat) (i : Nat), ((l.zipIdx k).foldl (fun cs (c, j) => cs.setIfInBounds (off + j) c) cs).size = cs.size ∧
    (off + k + l.length ≤ cs.size → ((l.zipIdx k).foldl (fun cs (c, j) => cs.setIfInBounds (off + j) c) cs)[i]? = if off + k ≤ i ∧ i < off + k + l.length then l[i - (off + k)]? else cs[i]?) := by
  induction l generalizing cs with
  | nil => intro k i; simp; omega
  | cons x l ih =>
    intro k i
    simp only [List.zipIdx_cons, List.foldl_cons, List.length_cons]
    obtain ⟨h1, h2⟩ := ih (cs.setIfInBounds (off + k) x) (k + 1) i
    refine ⟨by rw [h1]; simp, fun hle => ?_⟩
    rw [h2 (by simp; omega)]
    by_cases hc : off + (k + 1) ≤ i ∧ i < off + (k + 1) + l.length
    · rw [if_pos hc, if_pos (by omega), show i - (off + k) = (i - (off + (k + 1))) + 1 from by omega]
      simp
    · rw [if_neg hc]
      by_cases hi : i = off + k
      · subst hi
        rw [if_pos (by omega), Array.getElem?_setIfInBounds_self_of_lt (by omega)]
        simp
      · rw [if_neg (by omega), Array.getElem?_setIfInBounds_ne (by omega)]

theorem zipIdx_array (cs : Array Value) (off : Nat) (u : Array Value) : u.zipIdx.foldl (fun cs (c, j) => cs.setIfInBounds (off + j) c) cs = (u.toList.zipIdx 0).foldl (fun cs (c, j) => cs.setIfInBounds (off + j) c) cs := by
  rw [← Array.foldl_toList, Array.toList_zipIdx]

/-- one part is laid in -/
theorem CRel.splice {c : Cfg} {vs : Array Value} {ds : List D} (h : CRel c vs ds) {u : Array Value} {l : List D} (hu : CRel c u l) (off : Nat) (hle : off + l.length ≤ ds.length) :
    CRel c (u.zipIdx.foldl (fun cs (c, j) => cs.setIfInBounds (off + j) c) vs) (ds.take off ++ l ++ ds.drop (off + l.length)) := by
  rw [zipIdx_array]
  have hul : u.toList.length = l.length := by rw [← hu.1]; simp
  have hs := fun i => splice_get vs off u.toList 0 i
  refine ⟨by rw [(hs 0).1, h.1]; simp; omega, fun j v d hv hd => ?_⟩
  rw [(hs j).2 (by rw [hul, h.1]; omega)] at hv
  simp only [Nat.add_zero, hul] at hv
  by_cases hc : off ≤ j ∧ j < off + l.length
  · rw [if_pos hc] at hv
    rw [List.append_assoc, List.getElem?_append_right (by simp; omega), List.length_take, Nat.min_eq_left (by omega), List.getElem?_append_left (by omega)] at hd
    exact hu.2 _ v d (by simpa using hv) hd
  · rw [if_neg hc] at hv
    by_cases hj : j < off
    · rw [List.append_assoc, List.getElem?_append_left (by simp; omega), List.getElem?_take, if_pos hj] at hd
      exact h.2 j v d hv hd
    · rw [List.getElem?_append_right (by simp; omega)] at hd
      simp only [List.length_append, List.length_take, Nat.min_eq_left (show off ≤ ds.length by omega), List.getElem?_drop] at hd
      rw [show off + l.length + (j - (off + l.length)) = j from by omega] at hd
      exact h.2 j v d hv hd

theorem CRel.of_V {c : Cfg} {v : Value} {d : D} (h : V c v d) (hv : d.var = true) : CRel c v.cells d.cs := h.cells hv

/-- Build: parts are laid in, one behind the other -/
theorem fill_D {c : Cfg} (place : Nat → Option (Nat × Nat)) : ∀ (ps : List (Nat × Value)) (qs : List (Nat × Nat × D)) (vs : Array Value) (zs l : List D), CRel c vs zs → fillD zs qs = some l →
    ps.length = qs.length → (∀ (k : Nat) p q, ps[k]? = some p → qs[k]? = some q → place p.1 = some (q.1, q.2.1) ∧ V c p.2 q.2.2) → ∃ us, Instr.fill place vs ps = some us ∧ CRel c us l
  | [], qs, vs, zs, l, h, hf, hn, hp => by
    have : qs = [] := List.eq_nil_of_length_eq_zero (by simpa using hn.symm)
    subst this
    simp only [fillD, Option.some.injEq] at hf
    subst hf
    exact ⟨vs, rfl, h⟩
  | (i, v) :: ps, [], vs, zs, l, h, hf, hn, hp => by simp at hn
  | (i, v) :: ps, (o, s, d) :: qs, vs, zs, l, h, hf, hn, hp => by
    simp only [fillD] at hf
    split at hf
    · rename_i hc
      obtain ⟨h1, h2, h3⟩ := hc
      obtain ⟨hpl, hv⟩ := hp 0 _ _ rfl rfl
      simp only at hpl hv
      have hcr := CRel.of_V hv h1
      have hnext := CRel.splice h hcr o (by omega)
      obtain ⟨us, g1, g2⟩ := fill_D place ps qs _ _ l hnext (by rw [← h2] at hf; exact hf) (by simpa using hn) (fun k p q a b => hp (k + 1) p q (by simpa using a) (by simpa using b))
      refine ⟨us, ?_, g2⟩
      simp only [Instr.fill, hpl]
      have hcond : ¬ ((decide (v.cells.size ≠ s) || decide (o + v.cells.size > vs.size)) = true) := by have e1 := hcr.1; have e2 := h.1; simp; omega
      rw [if_neg hcond]
      exact g1
    · cases hf

theorem flatten_set {α : Type} {sz : Nat} : ∀ (es : List (List α)) (i : Nat) (l : List α), (∀ e ∈ es, e.length = sz) → l.length = sz → i < es.length →
    (es.set i l).flatten = es.flatten.take (i * sz) ++ l ++ es.flatten.drop (i * sz + l.length)
  | [], i, l, _, _, hi => by simp at hi
  | e :: es, 0, l, hs, hl, hi => by
    have he : e.length = sz := hs e (by simp)
    simp only [List.set_cons_zero, List.flatten_cons, Nat.zero_mul, List.take_zero, List.nil_append, Nat.zero_add]
    rw [hl, ← he, List.drop_left]
  | e :: es, i + 1, l, hs, hl, hi => by
    have he : e.length = sz := hs e (by simp)
    have ih := flatten_set es i l (fun x hx => hs x (by simp [hx])) hl (by simpa using hi)
    simp only [List.set_cons_succ, List.flatten_cons, ih, Nat.succ_mul]
    rw [List.take_append_of_le_length' he, List.drop_append_of_le_length' he]
    simp [List.append_assoc]
where
  List.take_append_of_le_length' {α : Type} {sz n : Nat} {e r : List α} (he : e.length = sz) : (e ++ r).take (n + sz) = e ++ r.take n := by
    rw [List.take_append, he, List.take_of_length_le (by omega), Nat.add_sub_cancel]
  List.drop_append_of_le_length' {α : Type} {sz n k : Nat} {e r : List α} (he : e.length = sz) : (e ++ r).drop (n + sz + k) = r.drop (n + k) := by
    rw [List.drop_append, he, List.drop_of_length_le (by omega), List.nil_append]
    congr 1; omega

theorem fill_S {c : Cfg} {sz : Nat} : ∀ (ps : List (Nat × Value)) (qs : List (Nat × D)) (vs : Array Value) (es l : List (List D)), CRel c vs es.flatten → (∀ e ∈ es, e.length = sz) → (∀ e ∈ es, allLeaf e = true) → fillS sz es qs = some l →
    ps.length = qs.length → (∀ (k : Nat) p q, ps[k]? = some p → qs[k]? = some q → p.1 = q.1 ∧ V c p.2 q.2) →
    ∃ us, Instr.fill (fun i => some (i * sz, sz)) vs ps = some us ∧ CRel c us l.flatten ∧ (∀ e ∈ l, e.length = sz) ∧ (∀ e ∈ l, allLeaf e = true) ∧ l.length = es.length
  | [], qs, vs, es, l, h, hs, hlf, hf, hn, hp => by
    have : qs = [] := List.eq_nil_of_length_eq_zero (by simpa using hn.symm)
    subst this
    simp only [fillS, Option.some.injEq] at hf
    subst hf
    exact ⟨vs, rfl, h, hs, hlf, rfl⟩
  | (i, v) :: ps, [], vs, es, l, h, hs, hlf, hf, hn, hp => by simp at hn
  | (i, v) :: ps, (i', d) :: qs, vs, es, l, h, hs, hlf, hf, hn, hp => by
    simp only [fillS] at hf
    split at hf
    · rename_i hc
      obtain ⟨h1, h2, h3, h4⟩ := hc
      obtain ⟨hii, hv⟩ := hp 0 _ _ rfl rfl
      simp only at hii hv
      subst hii
      have hcr := CRel.of_V hv h1
      have hfl := flat_len es hs
      have hmul : (i + 1) * sz ≤ es.length * sz := Nat.mul_le_mul_right _ h4
      rw [Nat.succ_mul] at hmul
      have hnext := CRel.splice h hcr (i * sz) (by omega)
      rw [← flatten_set es i d.cs hs h2 h4] at hnext
      obtain ⟨us, g1, g2, g3, g4, g5⟩ := fill_S ps qs _ _ l hnext (fun e he => by
        rcases List.mem_or_eq_of_mem_set he with h | h
        · exact hs e h
        · rw [h]; exact h2) (fun e he => by
        rcases List.mem_or_eq_of_mem_set he with h | h
        · exact hlf e h
        · rw [h]; exact h3) hf (by simpa using hn) (fun k p q a b => hp (k + 1) p q (by simpa using a) (by simpa using b))
      refine ⟨us, ?_, g2, g3, g4, by simpa using g5⟩
      simp only [Instr.fill]
      have hcond : ¬ ((decide (v.cells.size ≠ sz) || decide (i * sz + v.cells.size > vs.size)) = true) := by have e1 := hcr.1; have e2 := h.1; simp; omega
      rw [if_neg hcond]
      exact g1
    · cases hf

section
variable {E : Env} {B : Nat} {w0 : World} {c : Cfg} {S : List O} {tk : List (Nat × TypeId × Nat)} {w : World} {P : Program}

/-! ### comparing -/


theorem decide_bytes (s t : ByteArray) : (s.toList == t.toList) = decide (s = t) := by
  rw [Lib.toList_data, Lib.toList_data]
  obtain ⟨⟨s⟩⟩ := s
  obtain ⟨⟨t⟩⟩ := t
  by_cases hst : s = t
  · subst hst; simp
  · have : ¬ ((⟨⟨s⟩⟩ : ByteArray) = ⟨⟨t⟩⟩) := fun e => hst (by simpa using e)
    simp [this, hst]

def LKofT (P : Program) (T : TypeId) : LK → Prop
  | .i => ∃ k, P.underlying T = some (.int k)
  | .b => P.underlying T = some .bool
  | .s => P.underlying T = some .string

theorem eqLeaf_run {d : Nat} {T : TypeId} {v u : Value} {x y : D} {b : Bool} {k : LK} (hT : LKofT P T k) (hv : V c v x) (hw : V c u y) (h : eqLeaf k x y = some b) :
    (Op.equalIn (d + 1) T v u).run P w = .ok b w := by
  unfold eqLeaf at h
  split at h
  · cases hv; cases hw
    split at h
    · rename_i hkk
      subst hkk
      obtain ⟨k', hk'⟩ := hT
      rw [run_equalIn_int (P := P) w d T _ k' _ _ hk', ← Option.some.inj h]
      congr 1
    · cases h
  · cases hv; cases hw
    rw [run_equalIn_bool' (P := P) w d T _ _ hT, Option.some.inj h]
  · cases hv; cases hw
    rw [run_equalIn_string (P := P) w d T _ _ hT, ← Option.some.inj h, decide_bytes]
  · cases h

theorem eqPl_append {xs ys : List D} : ∀ {p q : List (Nat × LK)} {b : Bool}, eqPl xs ys (p ++ q) = some b → ∃ b1 b2, eqPl xs ys p = some b1 ∧ eqPl xs ys q = some b2 ∧ b = (b1 && b2)
  | [], q, b, h => ⟨true, b, rfl, h, by simp⟩
  | (j, k) :: p, q, b, h => by
    simp only [List.cons_append, eqPl] at h ⊢
    cases hx : xs[j]? with
    | none => simp [hx] at h
    | some x =>
      cases hy : ys[j]? with
      | none => simp [hx, hy] at h
      | some y =>
        simp only [hx, hy] at h ⊢
        cases hl : eqLeaf k x y with
        | none => simp [hl] at h
        | some a =>
          cases hr : eqPl xs ys (p ++ q) with
          | none => simp [hl, hr] at h
          | some r =>
            simp only [hl, hr, Option.some.injEq] at h ⊢
            obtain ⟨b1, b2, h1, h2, h3⟩ := eqPl_append hr
            rw [h1]
            exact ⟨a && b1, b2, by simp, h2, by rw [← h, h3]; simp [Bool.and_assoc]⟩

/-- comparing two values whose cells lie from an offset on -/
def EqOK (P : Program) (w : World) (c : Cfg) (d : Nat) (T : TypeId) (base : Nat) (pl : List (Nat × LK)) : Prop :=
  ∀ (xs ys : Array Value) (ds es : List D) (b : Bool), CRel c xs ds → CRel c ys es → eqPl ds es pl = some b →
    ((part T xs base).run P w).andThen (fun x w' => ((part T ys base).run P w').andThen fun y w' => (Op.equalIn d T x y).run P w') = .ok b w

theorem andThen_cong {α β γ : Type} {r : Result α} {f : α → World → Result β} {b : β} {w' : World} {g : β → World → Result γ} (h : r.andThen f = .ok b w') :
    r.andThen (fun a w1 => (f a w1).andThen g) = g b w' := by
  cases r with
  | ok a w1 => simp only [Result.andThen_ok] at h ⊢; rw [h]; rfl
  | halt x w1 => cases h


theorem part_world {P : Program} {w w1 : World} {T : TypeId} {vs : Array Value} {off : Nat} {x : Value} (h : (part T vs off).run P w = .ok x w1) : w1 = w := by
  simp only [part, Sem.run_bind, isAgg] at h
  cases hu : P.underlying T with
  | none => simp [underlying, hu] at h
  | some d =>
    simp only [run_underlying hu, Result.andThen_ok] at h
    cases d <;> simp only [Sem.run_pure, Result.andThen_ok, Bool.false_eq_true, if_false, if_true] at h
    all_goals first
      | (cases hc : vs[off]? with
         | none => simp [hc] at h
         | some y => simp [hc] at h; exact h.2.symm)
      | (cases hi : P.info? T with
         | none => simp [sizeOf, typeInfo, hi] at h
         | some i => simp [sizeOf, typeInfo, hi] at h; exact h.2.symm)

theorem part_extract {T : TypeId} {i : TypeInfo} (hi : P.info? T = some i) (h0 : 0 < i.size) (xs : Array Value) (base n off : Nat) (hle : off + i.size ≤ n) :
    (part T (xs.extract base (base + n)) off).run P w = (part T xs (base + off)).run P w := by
  simp only [part, Sem.run_bind, isAgg]
  cases hu : P.underlying T with
  | none => simp [underlying, hu]
  | some d =>
    have e1 : (xs.extract base (base + n)).extract off (off + i.size) = xs.extract (base + off) (base + off + i.size) := by
      rw [Array.extract_extract]
      congr 1; omega
    have e2 : (xs.extract base (base + n))[off]? = xs[base + off]? := by
      rw [Array.getElem?_extract]
      by_cases hb : base + off < xs.size
      · rw [if_pos (by omega)]
      · rw [if_neg (by omega), Array.getElem?_eq_none (by omega)]
    simp only [run_underlying hu, Result.andThen_ok]
    cases d <;> simp only [Sem.run_pure, Sem.run_bind, Result.andThen_ok, Bool.false_eq_true, if_false, if_true, sizeOf_run hi, e1, e2]

theorem cmp_run {d : Nat} {T : TypeId} {xs ys : Array Value} {ox oy : Nat} {b : Bool}
    (hr : ((part T xs ox).run P w).andThen (fun x w' => ((part T ys oy).run P w').andThen fun y w' => (Op.equalIn d T x y).run P w') = .ok b w) :
    ∃ x y, (part T xs ox).run P w = .ok x w ∧ (part T ys oy).run P w = .ok y w ∧ (Op.equalIn d T x y).run P w = .ok b w := by
  cases hxx : (part T xs ox).run P w with
  | halt x w1 => rw [hxx] at hr; cases hr
  | ok x w1 =>
    have hw1 : w1 = w := part_world hxx
    subst hw1
    rw [hxx] at hr
    simp only [Result.andThen_ok] at hr
    cases hyy : (part T ys oy).run P w1 with
    | halt x w2 => rw [hyy] at hr; cases hr
    | ok y w2 =>
      have hw2 : w2 = w1 := part_world hyy
      subst hw2
      rw [hyy] at hr
      simp only [Result.andThen_ok] at hr
      exact ⟨x, y, rfl, rfl, hr⟩

def Parts (P : Program) (w : World) (X xs : Array Value) (base n : Nat) : Prop := ∀ T i off, P.info? T = some i → 0 < i.size → off + i.size ≤ n → (part T X off).run P w = (part T xs (base + off)).run P w

theorem eqFields_run {d n : Nat} {rec : TypeId → Nat → Option (List (Nat × LK))} (hrec : ∀ T base pl, rec T base = some pl → EqOK P w c d T base pl) (base : Nat) (xs ys : Array Value) (ds es : List D)
    (hx : CRel c xs ds) (hy : CRel c ys es) {X Y : Array Value} (hX : Parts P w X xs base n) (hY : Parts P w Y ys base n) : ∀ (fs : List Field) (pl : List (Nat × LK)) (b : Bool), eqPlanL P n rec fs base = some pl → eqPl ds es pl = some b →
    (Op.eqFields d X Y fs).run P w = .ok b w
  | [], pl, b, hp, hb => by
    simp only [eqPlanL, Option.some.injEq] at hp
    subst hp
    simp only [eqPl, Option.some.injEq] at hb
    subst hb
    simp [Op.eqFields]
  | f :: fs, pl, b, hp, hb => by
    simp only [eqPlanL] at hp
    split at hp
    · cases hp
    · rename_i hnm
      split at hp
      · rename_i i hi
        split at hp
        · rename_i hsz
          split at hp
          · rename_i p q hp1 hp2
            obtain rfl := Option.some.inj hp
            obtain ⟨b1, b2, e1, e2, rfl⟩ := eqPl_append hb
            have hr := hrec _ _ _ hp1 xs ys ds es b1 hx hy e1
            obtain ⟨x, y, r1, r2, r3⟩ := cmp_run hr
            have ih := eqFields_run hrec base xs ys ds es hx hy hX hY fs q b2 hp2 e2
            simp only [Op.eqFields, Sem.run_bind, Sem.run_ite]
            rw [if_pos hnm, hX _ _ _ hi hsz.1 hsz.2, r1, Result.andThen_ok, hY _ _ _ hi hsz.1 hsz.2, r2, Result.andThen_ok, r3, Result.andThen_ok]
            cases b1
            · simp
            · simp only [Bool.not_true, Bool.false_eq_true, if_false, Bool.true_and]; exact ih
          · cases hp
        · cases hp
      · cases hp

theorem eqElems_run {d : Nat} {e : TypeId} {sz : Nat} {rec : TypeId → Nat → Option (List (Nat × LK))} (hrec : ∀ T base pl, rec T base = some pl → EqOK P w c d T base pl) {i : TypeInfo} (hi : P.info? e = some i) (hs : i.size = sz) (h0 : 0 < sz)
    (base0 tot : Nat) (xs ys : Array Value) (ds es : List D) (hx : CRel c xs ds) (hy : CRel c ys es) {X Y : Array Value} (hX : Parts P w X xs base0 tot) (hY : Parts P w Y ys base0 tot) : ∀ (n k : Nat) (pl : List (Nat × LK)) (b : Bool), (k + n) * sz ≤ tot → eqPlanA rec e sz n (base0 + k * sz) = some pl → eqPl ds es pl = some b →
    (forIn (m := Sem) (List.range' k n 1) ((none, ()) : Option Bool × Unit) (fun j _ => do
        let a ← part e X (j * sz)
        let b ← part e Y (j * sz)
        let r ← Op.equalIn d e a b
        if (!r) = true then pure (ForInStep.done (some false, ())) else pure (ForInStep.yield (none, ())))).run P w = .ok (if b = true then none else some false, ()) w
  | 0, k, pl, b, hle, hp, hb => by
    simp only [eqPlanA, Option.some.injEq] at hp
    subst hp
    simp only [eqPl, Option.some.injEq] at hb
    subst hb
    simp
  | n + 1, k, pl, b, hle, hp, hb => by
    simp only [eqPlanA] at hp
    split at hp
    · rename_i p q hp1 hp2
      obtain rfl := Option.some.inj hp
      obtain ⟨b1, b2, e1, e2, rfl⟩ := eqPl_append hb
      have hr := hrec _ _ _ hp1 xs ys ds es b1 hx hy e1
      obtain ⟨x, y, r1, r2, r3⟩ := cmp_run hr
      have hmul : k * sz + sz ≤ tot := by
        have : (k + 1) * sz ≤ (k + (n + 1)) * sz := Nat.mul_le_mul_right _ (by omega)
        rw [Nat.succ_mul] at this
        omega
      have ih := eqElems_run hrec hi hs h0 base0 tot xs ys ds es hx hy hX hY n (k + 1) q b2 (by rw [show k + 1 + n = k + (n + 1) from by omega]; exact hle) (by rw [Nat.succ_mul, ← Nat.add_assoc]; exact hp2) e2
      subst hs
      simp only [List.range'_succ, List.forIn_cons, Sem.run_bind]
      rw [hX _ _ _ hi h0 hmul, r1, Result.andThen_ok, hY _ _ _ hi h0 hmul, r2, Result.andThen_ok, r3, Result.andThen_ok]
      cases b1
      · simp
      · simp only [Bool.not_true, Bool.false_eq_true, if_false, Sem.run_pure, Result.andThen_ok, Bool.true_and]
        exact ih
    · cases hp

theorem eqPlan_run : ∀ (d : Nat) (T : TypeId) (base : Nat) (pl : List (Nat × LK)), eqPlan P d T base = some pl → EqOK P w c d T base pl
  | 0, T, base, pl, h => by simp [eqPlan] at h
  | d + 1, T, base, pl, h => by
    have hrec := fun T base pl h => eqPlan_run d T base pl h
    intro xs ys ds es b hx hy hb
    have leaf : ∀ (k : LK) (td : TypeDesc), P.underlying T = some td → LKofT P T k → (match td with | .struct _ | .array _ _ => False | _ => True) → pl = [(base, k)] →
        ((part T xs base).run P w).andThen (fun x w' => ((part T ys base).run P w').andThen fun y w' => (Op.equalIn (d + 1) T x y).run P w') = .ok b w := by
      intro k td hu hk htd hpl
      subst hpl
      simp only [eqPl] at hb
      split at hb
      · rename_i x y h1 h2
        split at hb
        · rename_i a b' h3 h4
          have hbb : a = b := by
            have : b' = true := by
              first
                | (have := h4; simp at this; exact this.symm)
                | exact (Option.some.inj h4).symm
            subst this
            simpa using hb
          subst hbb
          have hxl : base < xs.size := by rw [hx.1]; exact (List.getElem?_eq_some_iff.1 h1).1
          have hyl : base < ys.size := by rw [hy.1]; exact (List.getElem?_eq_some_iff.1 h2).1
          have gx : xs[base]? = some xs[base] := Array.getElem?_eq_getElem hxl
          have gy : ys[base]? = some ys[base] := Array.getElem?_eq_getElem hyl
          have hag : (isAgg T).run P w = .ok false w := by
            simp only [isAgg, Sem.run_bind, run_underlying hu, Result.andThen_ok]
            cases td <;> simp at htd ⊢
          have px : (part T xs base).run P w = .ok xs[base] w := by simp only [part, Sem.run_bind, hag, Result.andThen_ok, Bool.false_eq_true, if_false, gx, Sem.run_pure]
          have py : (part T ys base).run P w = .ok ys[base] w := by simp only [part, Sem.run_bind, hag, Result.andThen_ok, Bool.false_eq_true, if_false, gy, Sem.run_pure]
          rw [px, Result.andThen_ok, py, Result.andThen_ok]
          exact eqLeaf_run hk (hx.2 _ _ _ gx h1) (hy.2 _ _ _ gy h2) h3
        · cases hb
      · cases hb
    simp only [eqPlan] at h
    cases hu : P.underlying T with
    | none => simp [hu] at h
    | some td =>
      rw [hu] at h
      cases td <;> simp only [reduceCtorEq, Option.some.injEq] at h
      case bool => exact leaf .b _ hu hu trivial h.symm
      case int k => exact leaf .i _ hu ⟨k, hu⟩ trivial h.symm
      case string => exact leaf .s _ hu hu trivial h.symm
      case struct fs =>
        split at h
        · cases h
        · rename_i hst
          split at h
          · rename_i i hi
            have hag : (isAgg T).run P w = .ok true w := by simp only [isAgg, Sem.run_bind, run_underlying hu, Result.andThen_ok, Sem.run_pure]
            have px : ∀ zs : Array Value, (part T zs base).run P w = .ok (.agg (zs.extract base (base + i.size))) w := fun zs => by
              simp only [part, Sem.run_bind, hag, Result.andThen_ok, if_true, sizeOf_run hi, Sem.run_pure]
            rw [px, Result.andThen_ok, px, Result.andThen_ok]
            have hfo : P.fieldsOf T = fs := by simp [Program.fieldsOf, hu]
            rw [run_equalIn_struct w d T _ _ (by rw [hfo]; exact hu) (by simpa using hst), hfo]
            exact eqFields_run hrec base xs ys ds es hx hy (fun T j off h1 h2 h3 => part_extract h1 h2 xs base i.size off h3) (fun T j off h1 h2 h3 => part_extract h1 h2 ys base i.size off h3) fs.toList pl b h hb
          · cases h
      case array n e =>
        split at h
        · rename_i i j hi hj
          split at h
          · rename_i hsz
            have hag : (isAgg T).run P w = .ok true w := by simp only [isAgg, Sem.run_bind, run_underlying hu, Result.andThen_ok, Sem.run_pure]
            have px : ∀ zs : Array Value, (part T zs base).run P w = .ok (.agg (zs.extract base (base + j.size))) w := fun zs => by
              simp only [part, Sem.run_bind, hag, Result.andThen_ok, if_true, sizeOf_run hj, Sem.run_pure]
            rw [px, Result.andThen_ok, px, Result.andThen_ok]
            have hel := eqElems_run hrec hi rfl hsz.1 base j.size xs ys ds es hx hy (fun T i' off h1 h2 h3 => part_extract h1 h2 xs base j.size off h3) (fun T i' off h1 h2 h3 => part_extract h1 h2 ys base j.size off h3) n 0 pl b (by rw [Nat.zero_add, hsz.2]; exact Nat.le_refl _) (by simpa using h) hb
            simp only [Op.equalIn, Sem.run_bind, run_underlying hu, Result.andThen_ok, sizeOf_run hi, Std.Legacy.Range.forIn_eq_forIn_range', Std.Legacy.Range.size, Nat.sub_zero, Nat.add_sub_cancel, Nat.div_one]
            rw [hel, Result.andThen_ok]
            cases b <;> rfl
          · cases h
        · cases h

/-- two whole structs or arrays -/
theorem eqWhole_run {d : Nat} {T : TypeId} {td : TypeDesc} (hu : P.underlying T = some td) (htd : match td with | .struct _ | .array _ _ => True | _ => False) {pl : List (Nat × LK)} (h : eqPlan P (d + 1) T 0 = some pl)
    {xs ys : Array Value} {ds es : List D} {b : Bool} (hx : CRel c xs ds) (hy : CRel c ys es) (hb : eqPl ds es pl = some b) : (Op.equalIn (d + 1) T (.agg xs) (.agg ys)).run P w = .ok b w := by
  have hrec := fun T base pl h => eqPlan_run (P := P) (c := c) (w := w) d T base pl h
  have hP : ∀ (zs : Array Value) (n : Nat), Parts P w zs zs 0 n := fun zs n T i off _ _ _ => by rw [Nat.zero_add]
  simp only [eqPlan] at h
  rw [hu] at h
  cases td <;> simp only at htd h
  case struct fs =>
    split at h
    · cases h
    · rename_i hst
      split at h
      · rename_i i hi
        have hfo : P.fieldsOf T = fs := by simp [Program.fieldsOf, hu]
        rw [run_equalIn_struct w d T _ _ (by rw [hfo]; exact hu) (by simpa using hst), hfo]
        exact eqFields_run hrec 0 xs ys ds es hx hy (hP xs _) (hP ys _) fs.toList pl b h hb
      · cases h
  case array n e =>
    split at h
    · rename_i i j hi hj
      split at h
      · rename_i hsz
        have hel := eqElems_run hrec hi rfl hsz.1 0 j.size xs ys ds es hx hy (hP xs _) (hP ys _) n 0 pl b (by rw [Nat.zero_add, hsz.2]; exact Nat.le_refl _) (by simpa using h) hb
        simp only [Op.equalIn, Sem.run_bind, run_underlying hu, Result.andThen_ok, sizeOf_run hi, Std.Legacy.Range.forIn_eq_forIn_range', Std.Legacy.Range.size, Nat.sub_zero, Nat.add_sub_cancel, Nat.div_one]
        rw [hel, Result.andThen_ok]
        cases b <;> rfl
      · cases h
    · cases h

end
end Go.KL
