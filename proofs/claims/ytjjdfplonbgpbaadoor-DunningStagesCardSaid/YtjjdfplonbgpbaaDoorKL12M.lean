/- Maps: looking for a key, looking up. -/
import Derived.Test.YtjjdfplonbgpbaaDoorKL12
set_option linter.unusedVariables false
set_option linter.unusedSimpArgs false
namespace Go.KL
open Go Go.RowKit

theorem lf_V_eq {c : Cfg} {k : KLf} {d : D} (hk : lfOK k d = true) {v u : Value} (h1 : V c v d) (h2 : V c u d) : v = u := by
  cases k <;> cases d <;> simp [lfOK] at hk
  · rw [h1.intInv, h2.intInv]
  · rw [h1.strInv, h2.strInv]
  · rw [h1.boolInv, h2.boolInv]

theorem lfsOK_len : ∀ {l : List KLf} {ds : List D}, lfsOK l ds = true → l.length = ds.length
  | [], [], _ => rfl
  | [], _ :: _, h => by simp [lfsOK] at h
  | _ :: _, [], h => by simp [lfsOK] at h
  | k :: l, d :: ds, h => by simp only [lfsOK, Bool.and_eq_true] at h; simp [lfsOK_len h.2]
theorem lfsOK_get : ∀ {l : List KLf} {ds : List D}, lfsOK l ds = true → ∀ {j : Nat} {d : D}, ds[j]? = some d → ∃ k, l[j]? = some k ∧ lfOK k d = true
  | [], [], _, j, d, h => by simp at h
  | [], _ :: _, h, _, _, _ => by simp [lfsOK] at h
  | _ :: _, [], h, _, _, _ => by simp [lfsOK] at h
  | k :: l, x :: ds, h, j, d, hd => by
    simp only [lfsOK, Bool.and_eq_true] at h
    cases j with
    | zero => simp at hd; subst hd; exact ⟨k, rfl, h.1⟩
    | succ j => exact lfsOK_get h.2 (by simpa using hd)

/-- a key is read in one way -/
theorem key_V_eq {c : Cfg} {kt : KT} {d : D} (hk : kOK kt d = true) {v u : Value} (h1 : V c v d) (h2 : V c u d) : v = u := by
  cases kt with
  | lf k => exact lf_V_eq (by cases d <;> exact hk) h1 h2
  | agg l =>
    cases d <;> simp [kOK] at hk
    obtain ⟨cs, rfl, a1, a2⟩ := h1.aggInv
    obtain ⟨es, rfl, b1, b2⟩ := h2.aggInv
    congr 1
    apply Array.ext (by omega)
    intro i hi hj
    rename_i ds
    have hd : ds[i]? = some (ds[i]'(by omega)) := List.getElem?_eq_getElem _
    obtain ⟨k, _, hk2⟩ := lfsOK_get hk hd
    exact lf_V_eq hk2 (a2 i _ _ (Array.getElem?_eq_getElem hi) hd) (b2 i _ _ (Array.getElem?_eq_getElem hj) hd)

theorem bytes_beq (a b : ByteArray) : (a == b) = true ↔ a = b := by
  have e : (a == b) = (a.data == b.data) := rfl
  rw [e, beq_iff_eq]
  constructor
  · intro h; cases a; cases b; simp only at h; rw [h]
  · rintro rfl; rfl

def KLf.td : KLf → TypeDesc
  | .i k => .int k
  | .s => .string
  | .b => .bool

theorem lf_beq {c : Cfg} {k : KLf} {x y : D} (hx : lfOK k x = true) (hy : lfOK k y = true) {v u : Value} (h1 : V c v x) (h2 : V c u y) :
    Instr.sameNow k.td v u = some (lfB x y) := by
  cases k <;> cases x <;> simp [lfOK] at hx <;> cases y <;> simp [lfOK] at hy <;> simp only [KLf.td]
  · rw [h1.intInv, h2.intInv]
    subst hx; subst hy
    simp [Instr.sameNow, lfB]
    rw [Bool.eq_iff_iff]; simp
  · rw [h1.strInv, h2.strInv]
    simp only [Instr.sameNow, lfB]
    congr 1
    rw [Bool.eq_iff_iff]
    simp only [decide_eq_true_eq]
    exact bytes_beq _ _
  · rw [h1.boolInv, h2.boolInv]
    simp [Instr.sameNow, lfB]

/-- the first entry that passes a test -/
def fnd (test : MapEntry → Bool) : List MapEntry → Nat → Option (Nat × Value)
  | [], _ => none
  | e :: r, i => if test e = true then some (i, e.val) else fnd test r (i + 1)

structure Al (c : Cfg) (l : List MapEntry) (kv : Kv) : Prop where
  n : l.length = kv.length
  h : ∀ (j : Nat) e p, l[j]? = some e → kv[j]? = some p → V c e.key p.1 ∧ V c e.val p.2.1 ∧ e.born = p.2.2
theorem Al.tail {c : Cfg} {e : MapEntry} {l : List MapEntry} {p : D × D × Nat} {kv : Kv} (h : Al c (e :: l) (p :: kv)) : Al c l kv :=
  ⟨by simpa using h.n, fun j e' p' h1 h2 => h.h (j + 1) e' p' (by simpa using h1) (by simpa using h2)⟩
theorem Al.head {c : Cfg} {e : MapEntry} {l : List MapEntry} {p : D × D × Nat} {kv : Kv} (h : Al c (e :: l) (p :: kv)) : V c e.key p.1 ∧ V c e.val p.2.1 ∧ e.born = p.2.2 := h.h 0 e p rfl rfl

/-- what is found, by the reading -/
def Found (c : Cfg) (es : List MapEntry) (kv : Kv) (k : D) (r : Option (Nat × Value)) : Prop :=
  match mfind kv k with
  | none => r = none
  | some p => ∃ i e, r = some (i, e.val) ∧ es[i]? = some e ∧ kv[i]? = some p ∧ ∀ (j : Nat) q, j < i → kv[j]? = some q → keyB k q.1 = false

theorem fnd_spec {c : Cfg} {k : D} {test : MapEntry → Bool} : ∀ (l : List MapEntry) (kv : Kv) (i0 : Nat), Al c l kv → (∀ (j : Nat) e p, l[j]? = some e → kv[j]? = some p → test e = keyB k p.1) →
    (match mfind kv k with
      | none => fnd test l i0 = none
      | some p => ∃ i e, fnd test l i0 = some (i0 + i, e.val) ∧ l[i]? = some e ∧ kv[i]? = some p ∧ ∀ (j : Nat) q, j < i → kv[j]? = some q → keyB k q.1 = false)
  | [], [], _, _, _ => rfl
  | [], _ :: _, _, h, _ => by have := h.n; simp at this
  | _ :: _, [], _, h, _ => by have := h.n; simp at this
  | e :: l, p :: kv, i0, h, ht => by
    have h0 := ht 0 e p rfl rfl
    simp only [mfind, List.find?_cons]
    cases hb : keyB k p.1 with
    | true => exact ⟨0, e, by simp [fnd, h0, hb], rfl, rfl, by simp⟩
    | false =>
      have ih := fnd_spec l kv (i0 + 1) h.tail (fun j e' p' h1 h2 => ht (j + 1) e' p' (by simpa using h1) (by simpa using h2))
      simp only [fnd, h0, hb, Bool.false_eq_true, if_false]
      simp only [mfind] at ih
      cases hf : kv.find? fun p => keyB k p.1 with
      | none => rw [hf] at ih; exact ih
      | some q =>
        rw [hf] at ih
        obtain ⟨i, e', g1, g2, g3, g4⟩ := ih
        refine ⟨i + 1, e', by rw [g1]; congr 2; omega, by simpa using g2, by simpa using g3, fun j q' hj hq => ?_⟩
        cases j with
        | zero => simp at hq; subst hq; exact hb
        | succ j => exact g4 j q' (by omega) (by simpa using hq)

theorem findNow_fnd {td : TypeDesc} {v : Value} {test : MapEntry → Bool} : ∀ (l : List MapEntry) (i : Nat), (∀ e, e ∈ l → Instr.sameNow td v e.key = some (test e)) → Instr.findNow td v l i = some (fnd test l i)
  | [], _, _ => rfl
  | e :: l, i, h => by
    simp only [Instr.findNow, fnd, h e (by simp)]
    cases test e with
    | true => rfl
    | false => simp only [Bool.false_eq_true, if_false]; exact findNow_fnd l (i + 1) fun e' he => h e' (by simp [he])

section
variable {c : Cfg} {w : World}

theorem findAsking_fnd {P : Program} {T : TypeId} {v : Value} {test : MapEntry → Bool} : ∀ (l : List MapEntry) (i : Nat), (∀ e, e ∈ l → (Op.equal T v e.key).run P w = .ok (test e) w) → (Instr.findAsking T v l i).run P w = .ok (fnd test l i) w
  | [], _, _ => rfl
  | e :: l, i, h => by
    simp only [Instr.findAsking, fnd, Sem.run_bind, h e (by simp), Result.andThen_ok]
    cases test e with
    | true => rfl
    | false => simp only [Bool.false_eq_true, if_false]; exact findAsking_fnd l (i + 1) fun e' he => h e' (by simp [he])

theorem eqPl_lfsB : ∀ (l : List KLf) (xs ys ps qs : List D), lfsOK l xs = true → lfsOK l ys = true → ps.length = qs.length → eqPl (ps ++ xs) (qs ++ ys) (klfPlan l ps.length) = some (lfsB xs ys)
  | [], [], [], ps, qs, _, _, _ => rfl
  | [], _ :: _, _, _, _, h, _, _ => by simp [lfsOK] at h
  | [], [], _ :: _, _, _, _, h, _ => by simp [lfsOK] at h
  | _ :: _, [], _, _, _, h, _, _ => by simp [lfsOK] at h
  | _ :: _, _ :: _, [], _, _, _, h, _ => by simp [lfsOK] at h
  | k :: l, x :: xs, y :: ys, ps, qs, hx, hy, hl => by
    simp only [lfsOK, Bool.and_eq_true] at hx hy
    have ih := eqPl_lfsB l xs ys (ps ++ [x]) (qs ++ [y]) hx.2 hy.2 (by simp [hl])
    simp only [List.append_assoc, List.cons_append, List.nil_append, List.length_append, List.length_cons, List.length_nil, Nat.zero_add] at ih
    have e1 : (ps ++ x :: xs)[ps.length]? = some x := by simp
    have e2 : (qs ++ y :: ys)[ps.length]? = some y := by rw [hl]; simp
    have e3 : eqLeaf k.lk x y = some (lfB x y) := by
      have hx1 := hx.1; have hy1 := hy.1
      cases k <;> cases x <;> simp [lfOK] at hx1 <;> cases y <;> simp [lfOK] at hy1 <;> simp [KLf.lk, eqLeaf, lfB]
      rw [← hx1, ← hy1]
    simp only [klfPlan, eqPl, e1, e2, e3, ih, lfsB]

theorem klf_td {P : Program} {T : TypeId} {k : KLf} (h : klf P T = some k) : P.underlying T = some k.td := by
  unfold klf at h
  split at h <;> first | (cases h; assumption) | cases h

/-- looking for a key -/
theorem find_run {P : Program} {T : TypeId} {kt : KT} (hT : ktT P T = some kt) {es : List MapEntry} {kv : Kv} (ha : Al c es kv) (hok : ∀ (j : Nat) p, kv[j]? = some p → kOK kt p.1 = true) {v : Value} {k : D} (hv : V c v k) (hk : kOK kt k = true) :
    ∃ r, (Instr.findKey T v es).run P w = .ok r w ∧ Found c es kv k r := by
  have fin : ∀ (test : MapEntry → Bool), (∀ (j : Nat) e p, es[j]? = some e → kv[j]? = some p → test e = keyB k p.1) → Found c es kv k (fnd test es 0) := fun test ht => by
    have := fnd_spec es kv 0 ha ht
    unfold Found
    cases hm : mfind kv k with
    | none => rw [hm] at this; exact this
    | some p => rw [hm] at this; simpa using this
  have hex : ∀ (j : Nat) (e : MapEntry), es[j]? = some e → ∃ p, kv[j]? = some p := fun j e he => ⟨kv[j]'(by rw [← ha.n]; exact (List.getElem?_eq_some_iff.1 he).1), List.getElem?_eq_getElem _⟩
  unfold ktT at hT
  split at hT
  · rename_i fs hu
    split at hT
    · rename_i l pl hl hq
      split at hT
      · rename_i hpl
        obtain rfl := Option.some.inj hT
        subst hpl
        cases k <;> simp [kOK] at hk
        rename_i ds
        -- the test, by the reading of the key
        have hex2 : ∃ test : MapEntry → Bool, ∀ e, e ∈ es → (Op.equal T v e.key).run P w = .ok (test e) w ∧ ∀ p, V c e.key p → kOK (.agg l) p = true → test e = keyB (.agg ds) p := by
          refine ⟨fun e => match (Op.equal T v e.key).run P w with | .ok b _ => b | _ => false, fun e he => ?_⟩
          obtain ⟨j, hj⟩ := List.getElem?_of_mem he
          obtain ⟨p, hp⟩ := hex j e hj
          have h1 := (ha.h j e p hj hp).1
          have h2 := hok j p hp
          have key : ∀ p', V c e.key p' → kOK (.agg l) p' = true → (Op.equal T v e.key).run P w = .ok (keyB (.agg ds) p') w := fun p' hp' hk' => by
            cases p' <;> simp [kOK] at hk'
            rename_i ds'
            have := eqPl_lfsB l ds ds' [] [] hk hk' rfl
            exact (eqD_run (w := w) hq hv hp' (by simp only [eqD, eqAgg]; exact this)).1
          simp only
          refine ⟨by rw [key _ h1 h2], fun p' hp' hk' => by rw [key _ hp' hk']⟩
        obtain ⟨test, htest⟩ := hex2
        have hAsk := findAsking_fnd (P := P) (w := w) (T := T) (v := v) (test := test) es 0 (fun e he => (htest e he).1)
        refine ⟨fnd test es 0, ?_, fin test (fun j e p h1 h2 => (htest e (List.mem_of_getElem? h1)).2 p.1 (ha.h j e p h1 h2).1 (hok j p h2))⟩
        simp only [Instr.findKey, Sem.run_bind, run_underlying hu, Result.andThen_ok]
        cases es with
        | nil => rfl
        | cons e es =>
          have hn : Instr.findNow (.struct fs) v (e :: es) 0 = none := by simp [Instr.findNow, Instr.sameNow]
          rw [hn]
          exact hAsk
      · cases hT
    · cases hT
  · rename_i hns
    simp only [Option.map_eq_some_iff] at hT
    obtain ⟨kl, hkl, rfl⟩ := hT
    have hu := klf_td hkl
    have hex2 : ∃ test : MapEntry → Bool, ∀ e, e ∈ es → Instr.sameNow kl.td v e.key = some (test e) ∧ ∀ p, V c e.key p → kOK (.lf kl) p = true → test e = keyB k p := by
      refine ⟨fun e => (Instr.sameNow kl.td v e.key).getD false, fun e he => ?_⟩
      obtain ⟨j, hj⟩ := List.getElem?_of_mem he
      obtain ⟨p, hp⟩ := hex j e hj
      have h1 := (ha.h j e p hj hp).1
      have h2 := hok j p hp
      have hkk : lfOK kl k = true := by cases k <;> exact hk
      have key : ∀ p', V c e.key p' → kOK (.lf kl) p' = true → Instr.sameNow kl.td v e.key = some (keyB k p') := fun p' hp' hk' => by
        have hk2 : lfOK kl p' = true := by cases p' <;> exact hk'
        have := lf_beq hkk hk2 hv hp'
        rw [this]
        cases kl <;> cases k <;> simp [lfOK] at hkk <;> cases p' <;> simp [lfOK] at hk2 <;> rfl
      simp only
      refine ⟨by rw [key _ h1 h2]; rfl, fun p' hp' hk' => by rw [key _ hp' hk']; rfl⟩
    obtain ⟨test, htest⟩ := hex2
    refine ⟨fnd test es 0, ?_, fin test (fun j e p h1 h2 => (htest e (List.mem_of_getElem? h1)).2 p.1 (ha.h j e p h1 h2).1 (hok j p h2))⟩
    simp only [Instr.findKey, Sem.run_bind, run_underlying hu, Result.andThen_ok, findNow_fnd es 0 (fun e he => (htest e he).1), Sem.run_pure]

theorem forIn_ok {P : Program} {α : Type} (f : α → Sem Unit) : ∀ (l : List α), (∀ x, x ∈ l → (f x).run P w = .ok () w) → (forIn l PUnit.unit (fun x (_ : PUnit) => do f x; pure (ForInStep.yield PUnit.unit)) : Sem PUnit).run P w = .ok PUnit.unit w
  | [], _ => rfl
  | x :: l, h => by
    simp only [List.forIn_cons, Sem.run_bind, h x (by simp), Result.andThen_ok, Sem.run_pure]
    exact forIn_ok f l fun y hy => h y (by simp [hy])

theorem checkLeaf {P : Program} {T : TypeId} {k : KLf} (h : klf P T = some k) (b : Bool) (n : Nat) (v : Value) : (Instr.checkKey b (n + 1) T v).run P w = .ok () w := by
  have hu := klf_td h
  cases k <;> simp only [KLf.td] at hu <;> simp [Instr.checkKey, run_underlying hu]

theorem klfs_field {P : Program} : ∀ {fs : List Field} {n : Nat} {l : List KLf}, klfs P fs n = some l → ∀ f, f ∈ fs → ∃ k, f.name ≠ "_" ∧ klf P f.type = some k ∧ szT P f.type = some (1, false) ∧ n ≤ f.offset ∧ f.offset < n + l.length
  | [], n, l, h, f, hf => by simp at hf
  | g :: fs, n, l, h, f, hf => by
    simp only [klfs] at h
    split at h
    · cases h
    · rename_i hc
      simp only [not_or, Decidable.not_not] at hc
      split at h
      · rename_i k l' hs hk hl
        obtain rfl := Option.some.inj h
        rcases List.mem_cons.1 hf with rfl | hf
        · exact ⟨k, hc.1, hk, hs, by omega, by simp; omega⟩
        · obtain ⟨k', a1, a2, a3, a4, a5⟩ := klfs_field hl f hf
          exact ⟨k', a1, a2, a3, by omega, by simp; omega⟩
      · cases h

theorem check_runN {P : Program} {T : TypeId} {kt : KT} (hT : ktT P T = some kt) {v : Value} {k : D} (hv : V c v k) (hk : kOK kt k = true) (b : Bool) (n : Nat) : (Instr.checkKey b (n + 2) T v).run P w = .ok () w := by
  unfold ktT at hT
  split at hT
  · rename_i fs hu
    split at hT
    · rename_i l pl hl hq
      split at hT
      · obtain rfl := Option.some.inj hT
        cases k <;> simp [kOK] at hk
        rename_i ds
        obtain ⟨cs, rfl, a1, a2⟩ := hv.aggInv
        unfold Instr.checkKey
        simp only [Sem.run_bind, run_underlying hu, Result.andThen_ok]
        rw [← Array.forIn_toList]
        have hlen := lfsOK_len hk
        have := forIn_ok (P := P) (w := w) (fun f : Field => if f.name ≠ "_" then (do Instr.checkKey b (n + 1) f.type (← part f.type cs f.offset)) else pure ()) fs.toList (fun f hf => by
          obtain ⟨k', h1, h2, h3, h4, h5⟩ := klfs_field hl f hf
          simp only [if_pos h1]
          have hd : rdC ds f.offset 1 false = some (ds[f.offset]'(by omega)) := by simp only [rdC, Bool.false_eq_true, if_false]; exact List.getElem?_eq_getElem _
          obtain ⟨u, g1, g2⟩ := part_run (P := P) (w := w) h3 a1 a2 hd
          simp only [Sem.run_bind, g1, Result.andThen_ok]
          exact checkLeaf h2 b n u)
        have fin : ∀ A : Sem PUnit, A = (forIn fs.toList PUnit.unit (fun x (_ : PUnit) => do (if x.name ≠ "_" then (do Instr.checkKey b (n + 1) x.type (← part x.type cs x.offset)) else pure () : Sem Unit); pure (ForInStep.yield PUnit.unit)) : Sem PUnit) →
            ((Sem.run P A w).andThen fun a w' => Sem.run P (pure ()) w') = .ok () w := by
          rintro A rfl
          rw [this]; rfl
        refine fin _ ?_
        congr 1
        funext f r
        by_cases hn : f.name ≠ "_"
        · simp [hn]
        · simp [hn]
      · cases hT
    · cases hT
  · simp only [Option.map_eq_some_iff] at hT
    obtain ⟨kl, hkl, rfl⟩ := hT
    exact checkLeaf hkl b (n + 1) v
theorem check_run {P : Program} {T : TypeId} {kt : KT} (hT : ktT P T = some kt) {v : Value} {k : D} (hv : V c v k) (hk : kOK kt k = true) (b : Bool) : (Instr.checkKey b 10000 T v).run P w = .ok () w := check_runN hT hv hk b 9998

theorem same_refl {kt : KT} {k : D} {v : Value} (hv : V c v k) (hk : kOK kt k = true) : Instr.sameBits 10000 v v = true := by
  have leaf : ∀ (kl : KLf) (d : D) (u : Value) (n : Nat), V c u d → lfOK kl d = true → Instr.sameBits n u u = true := fun kl d u n hu hd => by
    cases kl <;> cases d <;> simp [lfOK] at hd
    · rw [hu.intInv]; simp [Instr.sameBits]
    · rw [hu.strInv]; simp only [Instr.sameBits]; exact (bytes_beq _ _).2 rfl
    · rw [hu.boolInv]; simp [Instr.sameBits]
  cases kt with
  | lf kl => exact leaf kl k v _ hv (by cases k <;> exact hk)
  | agg l =>
    cases k <;> simp [kOK] at hk
    rename_i ds
    obtain ⟨cs, rfl, a1, a2⟩ := hv.aggInv
    have hlen := lfsOK_len hk
    simp only [Instr.sameBits, beq_self_eq_true, Bool.true_and, List.all_eq_true]
    intro p hp
    obtain ⟨i, hi⟩ := List.getElem?_of_mem hp
    rw [List.getElem?_zip_eq_some] at hi
    obtain ⟨h1, h2⟩ := hi
    rw [h1] at h2
    obtain ⟨p1, p2⟩ := p
    obtain rfl : p1 = p2 := Option.some.inj h2
    have h1' : cs[i]? = some p1 := by simpa using h1
    have hd : ds[i]? = some (ds[i]'(by rw [← a1]; exact (Array.getElem?_eq_some_iff.1 h1').1)) := List.getElem?_eq_getElem _
    obtain ⟨k', _, hk'⟩ := lfsOK_get hk hd
    exact leaf k' _ p1 _ (a2 i p1 _ h1' hd) hk'

theorem getObj_run {P : Program} {r : Nat} {es : Array MapEntry} {clk : Nat} (h : w.heap[r]? = some (.map es clk)) : (getObj r).run P w = .ok (.map es clk) w := by
  simp [getObj, Sem.run, h]

theorem lookup_run {P : Program} {T kT e : TypeId} {kt : KT} {z : D} (hu : P.underlying T = some (.map kT e)) (hT : ktT P kT = some kt) (hz : zeroV P e = some z) {B : Nat} {w0 : World} {S : List O} {tk : Tks} (hr : RelS B w0 c S tk w)
    {x kv : Value} {dx dk d : D} (hx : V c x dx) (hk : V c kv dk) {ok : Bool} (h : mgD kt z ok S dx dk = some d) : ∃ u, (Instr.lookup T x kv ok).run P w = .ok u w ∧ V c u d := by
  obtain ⟨zv, hzv, hzV⟩ : ∃ zv, (zeroValue e).run P w = .ok zv w ∧ V c zv z := by
    unfold zeroV at hz
    cases hi : P.info? e with
    | none => simp [hi] at hz
    | some i =>
      simp only [hi] at hz
      cases hzz : i.zero with
      | none => simp [hzz] at hz
      | some zv =>
        simp only [hzz] at hz
        exact ⟨zv, by simp [zeroValue, info_run hi, hzz], ofV_V hz⟩
  unfold mgD at h
  split at h
  · split at h
    · rename_i hkk
      obtain rfl := hx.nilmapInv
      have hck := check_run (w := w) hT hk hkk true
      obtain ⟨r, hf, hF⟩ := find_run (w := w) hT (es := []) (kv := []) ⟨rfl, by simp⟩ (by simp) hk hkk
      have hr0 : r = none := hF
      subst hr0
      simp only [Instr.lookup, Sem.run_bind, run_underlying hu, Result.andThen_ok, Sem.run_pure, Array.isEmpty_empty, hck, hf, hzv]
      obtain rfl := Option.some.inj h
      cases ok with
      | true => exact ⟨_, rfl, .tup _ _ rfl fun j v d h1 h2 => by
          match j, h1, h2 with
          | 0, h1, h2 => simp at h1 h2; subst h1; subst h2; exact hzV
          | 1, h1, h2 => simp at h1 h2; subst h1; subst h2; exact .bool _
          | j + 2, h1, h2 => simp at h1⟩
      | false => exact ⟨_, rfl, hzV⟩
    · cases h
  · rename_i id
    split at h
    · rename_i kt' kvl clk hS
      split at h
      · rename_i hc
        obtain ⟨rfl, hkk⟩ := hc
        obtain ⟨rfl, hid⟩ := hx.mapInv
        obtain ⟨es, h1, h2, h3, h4⟩ := hr.objF hS rfl
        have hal : Al c es.toList kvl := ⟨by simpa using h2, fun j e p a b => h3 j e p (by simpa using a) b⟩
        have hck := check_run (w := w) hT hk hkk es.isEmpty
        obtain ⟨r, hf, hF⟩ := find_run (w := w) hT hal h4 hk hkk
        simp only [Instr.lookup, Sem.run_bind, run_underlying hu, Result.andThen_ok, Sem.run_pure, getObj_run h1, hck, hf]
        obtain rfl := Option.some.inj h
        unfold Found at hF
        unfold mget
        cases hm : mfind kvl dk with
        | none =>
          rw [hm] at hF
          subst hF
          simp only [Sem.run_bind, hzv, Result.andThen_ok, Sem.run_pure]
          cases ok with
          | true => exact ⟨_, rfl, .tup _ _ rfl fun j v d h1 h2 => by
              match j, h1, h2 with
              | 0, h1, h2 => simp at h1 h2; subst h1; subst h2; exact hzV
              | 1, h1, h2 => simp at h1 h2; subst h1; subst h2; exact .bool _
              | j + 2, h1, h2 => simp at h1⟩
          | false => exact ⟨_, rfl, hzV⟩
        | some p =>
          rw [hm] at hF
          obtain ⟨i, e', rfl, g1, g2, _⟩ := hF
          have hvv := (hal.h i e' p g1 g2).2.1
          simp only [Sem.run_pure, Result.andThen_ok]
          cases ok with
          | true => exact ⟨_, rfl, .tup _ _ rfl fun j v d h1 h2 => by
              match j, h1, h2 with
              | 0, h1, h2 => simp at h1 h2; subst h1; subst h2; exact hvv
              | 1, h1, h2 => simp at h1 h2; subst h1; subst h2; exact .bool _
              | j + 2, h1, h2 => simp at h1⟩
          | false => exact ⟨_, rfl, hvv⟩
      · cases h
    · cases h
  · cases h

theorem entry_run {P : Program} {B : Nat} {w0 : World} {S : List O} {tk : Tks} (hr : RelS B w0 c S tk w) {x : Value} {dx d : D} (hx : V c x dx) (h : entD S dx = some d) : ∃ u, (Instr.entry x).run P w = .ok u w ∧ V c u d := by
  unfold entD at h
  split at h
  · rename_i id
    split at h
    · rename_i mid since seen last hS
      split at h
      · rename_i n kt kvl clk hl hM
        split at h
        · rename_i hcl
          subst hcl
          simp only [Option.map_eq_some_iff] at h
          obtain ⟨p, hp, rfl⟩ := h
          obtain ⟨rfl, hid, hν⟩ := hx.poInv
          obtain ⟨a1, a2, a3⟩ := hr.objF hS rfl
          obtain ⟨es, h1, h2, h3, h4⟩ := hr.objF hM rfl
          have hb : seen.toArray.back? = some n := by simpa using hl
          obtain ⟨j, hj, hjp, hjb⟩ : ∃ j, ∃ e : MapEntry, es.toList.find? (fun e => e.born == n) = some e ∧ es[j]? = some e ∧ kvl[j]? = some p := by
            have hal : Al c es.toList kvl := ⟨by simpa using h2, fun j e p a b => h3 j e p (by simpa using a) b⟩
            have gen : ∀ (l : List MapEntry) (kv : Kv), Al c l kv → kv.find? (fun p => p.2.2 == n) = some p → ∃ (j : Nat) (e : MapEntry), l.find? (fun e => e.born == n) = some e ∧ l[j]? = some e ∧ kv[j]? = some p := by
              intro l
              induction l with
              | nil => intro kv ha hf; cases kv with
                | nil => simp at hf
                | cons q kv => have := ha.n; simp at this
              | cons e l ih =>
                intro kv ha hf
                cases kv with
                | nil => simp at hf
                | cons q kv =>
                  have hb := ha.head.2.2
                  rw [List.find?_cons] at hf ⊢
                  rw [hb]
                  cases hq : q.2.2 == n with
                  | true =>
                    rw [hq] at hf
                    obtain rfl := Option.some.inj hf
                    exact ⟨0, e, rfl, rfl, rfl⟩
                  | false =>
                    rw [hq] at hf
                    obtain ⟨j, e', g1, g2, g3⟩ := ih kv ha.tail hf
                    exact ⟨j + 1, e', g1, by simpa using g2, by simpa using g3⟩
            obtain ⟨j, e, g1, g2, g3⟩ := gen es.toList kvl hal hp
            exact ⟨j, e, g1, by simpa using g2, g3⟩
          have hfe : es.find? (fun e => e.born == n) = some hj := by rw [← Array.find?_toList]; exact hjp
          refine ⟨.tuple #[hj.key, hj.val], ?_, ?_⟩
          · simp only [Instr.entry, Sem.run_bind]
            have e1 : (getObj (c.μ id)).run P w = .ok (.mapIter (some (c.μ mid)) since seen.toArray clk) w := by simp [getObj, Sem.run, a3]
            rw [e1]
            simp only [Result.andThen_ok, hb, Sem.run_bind, getObj_run h1]
            simp [hfe]
          · obtain ⟨b1, b2, _⟩ := h3 j hj p hjb.1 hjb.2
            exact .tup _ _ rfl fun j v d h1 h2 => by
              match j, h1, h2 with
              | 0, h1, h2 => simp at h1 h2; subst h1; subst h2; exact b1
              | 1, h1, h2 => simp at h1 h2; subst h1; subst h2; exact b2
              | j + 2, h1, h2 => simp at h1
        · cases h
      · cases h
    · cases h
  · cases h

end
end Go.KL
