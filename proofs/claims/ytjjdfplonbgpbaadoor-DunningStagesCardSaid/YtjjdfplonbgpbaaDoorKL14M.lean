/- Maps: storing, deleting, ranging over. -/
import Derived.Test.YtjjdfplonbgpbaaDoorKL14
set_option linter.unusedVariables false
set_option linter.unusedSimpArgs false
namespace Go.KL
open Go Go.RowKit

theorem mrepl_set {k v : D} : ∀ {kv : Kv} {i : Nat} {p : D × D × Nat}, kv[i]? = some p → keyB k p.1 = true → (∀ (j : Nat) q, j < i → kv[j]? = some q → keyB k q.1 = false) → mrepl kv k v = kv.set i (p.1, v, p.2.2)
  | [], i, p, h, _, _ => by simp at h
  | q :: kv, 0, p, h, hk, _ => by
    simp at h; subst h
    simp [mrepl, hk]
  | q :: kv, i + 1, p, h, hk, hf => by
    have h0 := hf 0 q (by omega) rfl
    simp only [mrepl, h0, Bool.false_eq_true, if_false, List.set_cons_succ]
    rw [mrepl_set (kv := kv) (by simpa using h) hk (fun j q' hj hq => hf (j + 1) q' (by omega) (by simpa using hq))]

theorem mdel_erase {k : D} : ∀ {kv : Kv} {i : Nat} {p : D × D × Nat}, kv[i]? = some p → keyB k p.1 = true → (∀ (j : Nat) q, j < i → kv[j]? = some q → keyB k q.1 = false) → mdel kv k = kv.eraseIdx i
  | [], i, p, h, _, _ => by simp at h
  | q :: kv, 0, p, h, hk, _ => by
    simp at h; subst h
    simp [mdel, List.eraseP_cons, hk]
  | q :: kv, i + 1, p, h, hk, hf => by
    have h0 := hf 0 q (by omega) rfl
    have ih := mdel_erase (kv := kv) (by simpa using h) hk (fun j q' hj hq => hf (j + 1) q' (by omega) (by simpa using hq))
    simp only [mdel] at ih
    simp only [mdel, List.eraseP_cons, h0, Bool.false_eq_true, cond_false, List.eraseIdx_cons_succ, ih]
theorem mdel_none {k : D} {kv : Kv} (h : mfind kv k = none) : mdel kv k = kv := by
  unfold mdel
  exact List.eraseP_of_forall_not (fun p hp => by
    have := List.find?_eq_none.1 h p hp
    simpa using this)
theorem mfind_key {kv : Kv} {k : D} {p : D × D × Nat} (h : mfind kv k = some p) : keyB k p.1 = true := by
  have := List.find?_some (p := fun p : D × D × Nat => keyB k p.1) h
  exact this
theorem mfind_mem {kv : Kv} {k : D} {p : D × D × Nat} (h : mfind kv k = some p) : p ∈ kv := List.mem_of_find?_eq_some h

theorem mstamp_set {n : Nat} {v : D} : ∀ {kv : Kv} {i : Nat} {p : D × D × Nat}, kv[i]? = some p → p.2.2 = n → (∀ (j : Nat) q, j < i → kv[j]? = some q → q.2.2 ≠ n) → mstamp kv n v = kv.set i (p.1, v, p.2.2)
  | [], i, p, h, _, _ => by simp at h
  | q :: kv, 0, p, h, hk, _ => by
    simp at h; subst h
    simp [mstamp, hk]
  | q :: kv, i + 1, p, h, hk, hf => by
    have h0 := hf 0 q (by omega) rfl
    simp only [mstamp, h0, if_false, List.set_cons_succ]
    rw [mstamp_set (kv := kv) (by simpa using h) hk (fun j q' hj hq => hf (j + 1) q' (by omega) (by simpa using hq))]

section
variable {E : Env} {B : Nat} {w0 : World} {c : Cfg} {w : World} {S : List O} {tk : Tks}

/-- an object that is no row of cells is changed -/
theorem RelS.putObj (h : RelS B w0 c S tk w) {id : Nat} {o : O} (hd : S[id]? = some o) (hf : o.fixed = true) (o' : O) (hf' : o'.fixed = true) (ob' : Obj)
    (hnd : w.heap[c.μ id]? ≠ some (.deferred (some []))) (ho : ORelF c (some ob') o') : RelS B w0 c (S.set id o') tk { w with heap := w.heap.setIfInBounds (c.μ id) ob' } := by
  have hlt : c.μ id < w.heap.size := (h.base id _ (h.lt hd) (h.atF hd hf)).2
  refine h.put hd hf o' hf' _ rfl rfl rfl (by simp) hnd (fun k hk => by simp only; rw [Array.getElem?_setIfInBounds_ne (by omega)]) ?_
  simp only
  rw [Array.getElem?_setIfInBounds_self_of_lt hlt]
  exact ho

theorem setObj_map {P : Program} {r : Nat} {es : Array MapEntry} {clk : Nat} (h : w.heap[r]? = some (.map es clk)) (o : Obj) : (setObj r o).run P w = .ok () { w with heap := w.heap.setIfInBounds r o } := by
  simp [setObj, Sem.run, h]
theorem setObj_iter {P : Program} {r : Nat} {m : Option Nat} {a b : Nat} {s : Array Nat} (h : w.heap[r]? = some (.mapIter m a s b)) (o : Obj) : (setObj r o).run P w = .ok () { w with heap := w.heap.setIfInBounds r o } := by
  simp [setObj, Sem.run, h]

theorem keyStays_run {P : Program} {old new : Value} (h : old = new) (hs : Instr.sameBits 10000 new new = true) : (Instr.keyThatStays old new).run P w = .ok new w := by
  subst h
  simp [Instr.keyThatStays, hs]

theorem modify_get (es : Array MapEntry) (i : Nat) (f : MapEntry → MapEntry) (j : Nat) : (es.modify i f)[j]? = if j = i then (es[j]?).map f else es[j]? := by
  rw [Array.getElem?_modify]
  by_cases h : i = j
  · subst h; simp
  · rw [if_neg h, if_neg (fun e => h e.symm)]

/-- what a map is, as an object -/
theorem map_obj (hr : RelS B w0 c S tk w) {id : Nat} {kt : KT} {kv : Kv} {clk : Nat} (hS : S[id]? = some (.map kt kv clk)) :
    ∃ es : Array MapEntry, w.heap[c.μ id]? = some (.map es clk) ∧ Al c es.toList kv ∧ (∀ (j : Nat) p, kv[j]? = some p → kOK kt p.1 = true) ∧ es.size = kv.length := by
  obtain ⟨es, h1, h2, h3, h4⟩ := hr.objF hS rfl
  exact ⟨es, h1, ⟨by simpa using h2, fun j e p a b => h3 j e p (by simpa using a) b⟩, h4, h2⟩

/-- an entry's value is changed -/
theorem entry_set {kt : KT} {kv : Kv} {clk : Nat} {es : Array MapEntry} (hal : Al c es.toList kv) (hok : ∀ (j : Nat) p, kv[j]? = some p → kOK kt p.1 = true) (hn : es.size = kv.length) {i : Nat} {e : MapEntry} {p : D × D × Nat} (hi : es[i]? = some e) (hp : kv[i]? = some p)
    (f : MapEntry → MapEntry) {dv : D} (hk : V c (f e).key p.1) (hv : V c (f e).val dv) (hb : (f e).born = e.born) : ORelF c (some (.map (es.modify i f) clk)) (.map kt (kv.set i (p.1, dv, p.2.2)) clk) := by
  have hil : i < kv.length := (List.getElem?_eq_some_iff.1 hp).1
  have h0 := hal.h i e p (by simpa using hi) hp
  refine ⟨es.modify i f, rfl, by simp [hn], fun j e' p' h1 h2 => ?_, fun j p' h2 => ?_⟩
  · rw [modify_get] at h1
    by_cases hj : j = i
    · subst hj
      rw [if_pos rfl, hi] at h1
      simp only [Option.map_some, Option.some.injEq] at h1
      subst h1
      rw [List.getElem?_set_self hil] at h2
      obtain rfl := Option.some.inj h2
      exact ⟨hk, hv, by rw [hb]; exact h0.2.2⟩
    · rw [if_neg hj] at h1
      rw [List.getElem?_set_ne (by omega)] at h2
      exact hal.h j e' p' (by simpa using h1) h2
  · by_cases hj : j = i
    · subst hj
      rw [List.getElem?_set_self hil] at h2
      obtain rfl := Option.some.inj h2
      exact hok j p hp
    · rw [List.getElem?_set_ne (by omega)] at h2
      exact hok j p' h2

theorem entry_push {kt : KT} {kv : Kv} {clk clk' : Nat} {es : Array MapEntry} (hal : Al c es.toList kv) (hok : ∀ (j : Nat) p, kv[j]? = some p → kOK kt p.1 = true) (hn : es.size = kv.length) {k v : Value} {dk dv : D} (hk : V c k dk) (hkk : kOK kt dk = true) (hv : V c v dv) :
    ORelF c (some (.map (es.push { key := k, val := v, born := clk }) clk')) (.map kt (kv ++ [(dk, dv, clk)]) clk') := by
  refine ⟨_, rfl, by simp [hn], fun j e' p' h1 h2 => ?_, fun j p' h2 => ?_⟩
  · by_cases hj : j < kv.length
    · rw [Array.getElem?_push_lt (by omega)] at h1
      rw [List.getElem?_append_left hj] at h2
      exact hal.h j e' p' (by rw [← h1]; simp) h2
    · have hjl : j = kv.length := by
        have := (List.getElem?_eq_some_iff.1 h2).1
        simp at this; omega
      subst hjl
      rw [← hn] at h1
      simp at h1
      simp at h2
      subst h1; subst h2
      exact ⟨hk, hv, rfl⟩
  · by_cases hj : j < kv.length
    · rw [List.getElem?_append_left hj] at h2; exact hok j p' h2
    · have hjl : j = kv.length := by
        have := (List.getElem?_eq_some_iff.1 h2).1
        simp at this; omega
      subst hjl
      simp at h2
      subst h2
      exact hkk

theorem mset_sound {P : Program} {T kT e : TypeId} {kt : KT} (hu : P.underlying T = some (.map kT e)) (hT : ktT P kT = some kt) (hr : RelE E B w0 c S tk w) {x k v : Value} {id : Nat} {dk dv : D} {kv : Kv} {clk : Nat}
    (hx : V c x (.map id)) (hS : S[id]? = some (.map kt kv clk)) (hk : V c k dk) (hkk : kOK kt dk = true) (hv : V c v dv) :
    ∃ w', (Instr.mapUpdate T x k v).run P w = .ok () w' ∧ RelE E B w0 c (S.set id (.map kt (mset kv clk dk dv) (mclk kv clk dk))) tk w' := by
  obtain ⟨rfl, hid⟩ := hx.mapInv
  obtain ⟨es, h1, hal, hok, hn⟩ := map_obj hr.s hS
  have hck := check_run (w := w) hT hk hkk false
  obtain ⟨r, hf, hF⟩ := find_run (w := w) hT hal hok hk hkk
  have hnd : w.heap[c.μ id]? ≠ some (.deferred (some [])) := by rw [h1]; simp
  simp only [Instr.mapUpdate, Sem.run_bind, run_underlying hu, Result.andThen_ok, getObj_run h1, hck, hf]
  unfold Found at hF
  unfold mset mclk
  cases hm : mfind kv dk with
  | none =>
    rw [hm] at hF
    subst hF
    exact ⟨_, setObj_map h1 _, hr.s.putObj hS rfl _ rfl _ hnd (entry_push hal hok hn hk hkk hv), hr.g⟩
  | some p =>
    rw [hm] at hF
    obtain ⟨i, e', rfl, g1, g2, g3⟩ := hF
    have g1' : es[i]? = some e' := by simpa using g1
    have h0 := hal.h i e' p g1 g2
    have hpk := (keyB_eq hkk (hok i p g2)).1 (mfind_key hm)
    have hkv : e'.key = k := key_V_eq (hok i p g2) h0.1 (hpk ▸ hk)
    have hks := keyStays_run (P := P) (w := w) (old := ((es[i]?).map (·.key)).getD k) (new := k) (by rw [g1']; exact hkv) (same_refl hk hkk)
    simp only [Sem.run_bind, hks, Result.andThen_ok]
    refine ⟨_, setObj_map h1 _, hr.s.putObj hS rfl _ rfl _ hnd ?_, hr.g⟩
    rw [mrepl_set g2 (mfind_key hm) g3]
    exact entry_set hal hok hn g1' g2 (fun e => { e with key := k, val := v }) (hpk ▸ hk) hv rfl

theorem ment_sound {P : Program} {T kT e : TypeId} {kt : KT} {z : D} (hu : P.underlying T = some (.map kT e)) (hT : ktT P kT = some kt) (hz : zeroV P e = some z) (hr : RelE E B w0 c S tk w) {x k : Value} {id : Nat} {dk : D} {kv : Kv} {clk : Nat}
    (hx : V c x (.map id)) (hS : S[id]? = some (.map kt kv clk)) (hk : V c k dk) (hkk : kOK kt dk = true) :
    ∃ u w', (Instr.mapEntry T x k).run P w = .ok u w' ∧ RelE E B w0 c (S.set id (.map kt (ment kv clk dk z) (mclk kv clk dk))) tk w' ∧ V c u (.tup [mget z kv dk, .int .i64 (mborn kv clk dk)]) := by
  obtain ⟨zv, hzv, hzV⟩ : ∃ zv, (∀ w, (zeroValue e).run P w = .ok zv w) ∧ V c zv z := by
    unfold zeroV at hz
    cases hi : P.info? e with
    | none => simp [hi] at hz
    | some i =>
      simp only [hi] at hz
      cases hzz : i.zero with
      | none => simp [hzz] at hz
      | some zv =>
        simp only [hzz] at hz
        exact ⟨zv, fun w => by simp [zeroValue, info_run hi, hzz], ofV_V hz⟩
  have two : ∀ {a : Value} {b : Int} {da : D}, V c a da → V c (.tuple #[a, goInt b]) (.tup [da, .int .i64 b]) := fun ha => .tup _ _ rfl fun j v d h1 h2 => by
    match j, h1, h2 with
    | 0, h1, h2 => simp at h1 h2; subst h1; subst h2; exact ha
    | 1, h1, h2 => simp at h1 h2; subst h1; subst h2; exact .int _ _
    | j + 2, h1, h2 => simp at h1
  obtain ⟨rfl, hid⟩ := hx.mapInv
  obtain ⟨es, h1, hal, hok, hn⟩ := map_obj hr.s hS
  have hck := check_run (w := w) hT hk hkk false
  obtain ⟨r, hf, hF⟩ := find_run (w := w) hT hal hok hk hkk
  have hnd : w.heap[c.μ id]? ≠ some (.deferred (some [])) := by rw [h1]; simp
  simp only [Instr.mapEntry, Sem.run_bind, run_underlying hu, Result.andThen_ok, getObj_run h1, hck, hf]
  unfold Found at hF
  unfold ment mclk mget mborn
  cases hm : mfind kv dk with
  | none =>
    rw [hm] at hF
    subst hF
    simp only [Sem.run_bind, hzv, Result.andThen_ok, setObj_map h1, Sem.run_pure]
    exact ⟨_, _, rfl, ⟨hr.s.putObj hS rfl _ rfl _ hnd (entry_push hal hok hn hk hkk hzV), hr.g⟩, two hzV⟩
  | some p =>
    rw [hm] at hF
    obtain ⟨i, e', rfl, g1, g2, g3⟩ := hF
    have g1' : es[i]? = some e' := by simpa using g1
    have h0 := hal.h i e' p g1 g2
    have hpk := (keyB_eq hkk (hok i p g2)).1 (mfind_key hm)
    have hkv : e'.key = k := key_V_eq (hok i p g2) h0.1 (hpk ▸ hk)
    have hks := keyStays_run (P := P) (w := w) (old := ((es[i]?).map (·.key)).getD k) (new := k) (by rw [g1']; exact hkv) (same_refl hk hkk)
    simp only [Sem.run_bind, hks, Result.andThen_ok, setObj_map h1, Sem.run_pure]
    refine ⟨_, _, rfl, ⟨hr.s.putObj hS rfl _ rfl _ hnd ?_, hr.g⟩, ?_⟩
    · have := entry_set (clk := clk) hal hok hn g1' g2 (fun e => { e with key := k }) (dv := p.2.1) (hpk ▸ hk) h0.2.1 rfl
      rw [show kv.set i (p.1, p.2.1, p.2.2) = kv from by
        obtain ⟨hlt, he⟩ := List.getElem?_eq_some_iff.1 g2
        rw [show (p.1, p.2.1, p.2.2) = p from rfl, ← he]; exact List.set_getElem_self hlt] at this
      exact this
    · rw [g1']
      simp only [Option.map_some, Option.getD_some]
      rw [h0.2.2]
      exact two h0.2.1

theorem mest_sound {P : Program} {T : TypeId} (hr : RelE E B w0 c S tk w) {x v : Value} {id : Nat} {dv : D} {kt : KT} {kv : Kv} {clk : Nat} {n : Int}
    (hx : V c x (.map id)) (hS : S[id]? = some (.map kt kv clk)) (hv : V c v dv) (h0 : 0 ≤ n) (hex : ∃ p ∈ kv, p.2.2 = n.toNat) :
    ∃ w', (Instr.entryStore T x (.int .i64 n) v).run P w = .ok () w' ∧ RelE E B w0 c (S.set id (.map kt (mstamp kv n.toNat dv) clk)) tk w' := by
  obtain ⟨rfl, hid⟩ := hx.mapInv
  obtain ⟨es, h1, hal, hok, hn⟩ := map_obj hr.s hS
  have hnd : w.heap[c.μ id]? ≠ some (.deferred (some [])) := by rw [h1]; simp
  obtain ⟨i, p, hi, hp, hpb, hfst⟩ : ∃ i p, es.findIdx? (fun e => (e.born : Int) == n) = some i ∧ kv[i]? = some p ∧ p.2.2 = n.toNat ∧ ∀ (j : Nat) q, j < i → kv[j]? = some q → q.2.2 ≠ n.toNat := by
    have hb : ∀ (j : Nat) e q, es[j]? = some e → kv[j]? = some q → ((e.born : Int) == n) = decide (q.2.2 = n.toNat) := fun j e q a b => by
      have := (hal.h j e q (by simpa using a) b).2.2
      rw [this, Bool.eq_iff_iff]
      simp only [beq_iff_eq, decide_eq_true_eq]
      omega
    cases hfi : es.findIdx? (fun e => (e.born : Int) == n) with
    | none =>
      exfalso
      rw [Array.findIdx?_eq_none_iff] at hfi
      obtain ⟨p, hp, hpn⟩ := hex
      obtain ⟨j, hj⟩ := List.getElem?_of_mem hp
      have hjl : j < es.size := by rw [hn]; exact (List.getElem?_eq_some_iff.1 hj).1
      have := hfi es[j] (Array.getElem_mem hjl)
      rw [hb j _ p (Array.getElem?_eq_getElem hjl) hj] at this
      simp [hpn] at this
    | some i =>
      rw [Array.findIdx?_eq_some_iff_getElem] at hfi
      obtain ⟨hil, hit, hlt⟩ := hfi
      have hkl : i < kv.length := by omega
      refine ⟨i, kv[i], rfl, List.getElem?_eq_getElem hkl, ?_, fun j q hj hq => ?_⟩
      · rw [hb i _ _ (Array.getElem?_eq_getElem hil) (List.getElem?_eq_getElem hkl)] at hit
        exact of_decide_eq_true hit
      · have := hlt j hj
        rw [hb j _ q (Array.getElem?_eq_getElem (by omega)) hq] at this
        simpa using this
  have hel : i < es.size := by rw [hn]; exact (List.getElem?_eq_some_iff.1 hp).1
  have hei : es[i]? = some es[i] := Array.getElem?_eq_getElem hel
  have h00 := hal.h i es[i] p (by simp) hp
  have hint : (asInt (.int .i64 n)).run P w = .ok n w := rfl
  simp only [Instr.entryStore, Sem.run_bind, Sem.run_pure, Result.andThen_ok, getObj_run h1, hint, hi]
  refine ⟨_, setObj_map h1 _, hr.s.putObj hS rfl _ rfl _ hnd ?_, hr.g⟩
  rw [mstamp_set hp hpb hfst]
  exact entry_set hal hok hn hei hp (fun e => { e with val := v }) h00.1 hv rfl

theorem mdel_sound {P : Program} {T T' kT e ty : TypeId} {kt : KT} (hu : P.underlying T = some (.map kT e)) (hT : ktT P kT = some kt) (hr : RelE E B w0 c S tk w) {x k : Value} {id : Nat} {dk : D} {kv : Kv} {clk : Nat} (ts : Array TypeId) (hts : ts[0]? = some T)
    (hx : V c x (.map id)) (hS : S[id]? = some (.map kt kv clk)) (hk : V c k dk) (hkk : kOK kt dk = true) :
    ∃ w', (Builtin.delete_ ts ty #[x, k]).run P w = .ok (.tuple #[]) w' ∧ RelE E B w0 c (S.set id (.map kt (mdel kv dk) clk)) tk w' := by
  obtain ⟨rfl, hid⟩ := hx.mapInv
  obtain ⟨es, h1, hal, hok, hn⟩ := map_obj hr.s hS
  have hck := check_run (w := w) hT hk hkk es.isEmpty
  obtain ⟨r, hf, hF⟩ := find_run (w := w) hT hal hok hk hkk
  have hnd : w.heap[c.μ id]? ≠ some (.deferred (some [])) := by rw [h1]; simp
  have hargs : (#[Value.map (some (c.μ id)), k] : Array Value)[0]? = some (.map (some (c.μ id))) ∧ (#[Value.map (some (c.μ id)), k] : Array Value)[1]? = some k := ⟨rfl, rfl⟩
  simp only [Builtin.delete_, hts, hargs.1, hargs.2, Sem.run_bind, run_underlying hu, Result.andThen_ok, getObj_run h1, hck, hf]
  unfold Found at hF
  cases hm : mfind kv dk with
  | none =>
    rw [hm] at hF
    subst hF
    simp only [Sem.run_bind, setObj_map h1, Result.andThen_ok, Sem.run_pure]
    refine ⟨_, rfl, hr.s.putObj hS rfl _ rfl _ hnd ?_, hr.g⟩
    rw [mdel_none hm]
    exact ⟨es, rfl, hn, fun j e p a b => hal.h j e p (by simpa using a) b, hok⟩
  | some p =>
    rw [hm] at hF
    obtain ⟨i, e', rfl, g1, g2, g3⟩ := hF
    simp only [Sem.run_bind, setObj_map h1, Result.andThen_ok, Sem.run_pure]
    refine ⟨_, rfl, hr.s.putObj hS rfl _ rfl _ hnd ?_, hr.g⟩
    rw [mdel_erase g2 (mfind_key hm) g3]
    have hil : i < es.size := by rw [hn]; exact (List.getElem?_eq_some_iff.1 g2).1
    have hE : (es.eraseIdxIfInBounds i).toList = es.toList.eraseIdx i := by
      simp [Array.eraseIdxIfInBounds, hil]
    refine ⟨_, rfl, ?_, fun j e p a b => ?_, fun j p b => ?_⟩
    · rw [← Array.length_toList, hE, List.length_eraseIdx, List.length_eraseIdx]; simp [hn]
    · rw [← Array.getElem?_toList, hE, List.getElem?_eraseIdx] at a
      rw [List.getElem?_eraseIdx] at b
      split at a
      · rename_i hj; rw [if_pos hj] at b; exact hal.h j e p a b
      · rename_i hj; rw [if_neg hj] at b; exact hal.h (j + 1) e p a b
    · rw [List.getElem?_eraseIdx] at b
      split at b
      · exact hok j p b
      · exact hok (j + 1) p b

theorem mdelnil_sound {P : Program} {T kT e ty : TypeId} {kt : KT} (hu : P.underlying T = some (.map kT e)) (hT : ktT P kT = some kt) {x k : Value} {dk : D} (ts : Array TypeId) (hts : ts[0]? = some T)
    (hx : V c x .nilmap) (hk : V c k dk) (hkk : kOK kt dk = true) : (Builtin.delete_ ts ty #[x, k]).run P w = .ok (.tuple #[]) w := by
  obtain rfl := hx.nilmapInv
  have hck := check_run (w := w) hT hk hkk true
  have hargs : (#[Value.map none, k] : Array Value)[0]? = some (.map none) ∧ (#[Value.map none, k] : Array Value)[1]? = some k := ⟨rfl, rfl⟩
  simp only [Builtin.delete_, hts, hargs.1, hargs.2, Sem.run_bind, run_underlying hu, Result.andThen_ok, hck, Sem.run_pure]

theorem rng_sound {P : Program} {T kT e : TypeId} (hu : P.underlying T = some (.map kT e)) (hr : RelE E B w0 c S tk w) {x : Value} {id : Nat} {kt : KT} {kv : Kv} {clk : Nat} (hx : V c x (.map id)) (hS : S[id]? = some (.map kt kv clk)) :
    ∃ u w' c', (Instr.range T x).run P w = .ok u w' ∧ c.Le c' ∧ RelE E B w0 c' (S ++ [.iter id clk [] clk]) tk w' ∧ V c' u (.po S.length 0) := by
  obtain ⟨rfl, hid⟩ := hx.mapInv
  obtain ⟨es, h1, hal, hok, hn⟩ := map_obj hr.s hS
  obtain ⟨c', g1, g2, g3, g5, g4⟩ := hr.s.push (.mapIter (some (c.μ id)) clk #[] clk) (.iter id clk [] clk) rfl (fun c' hc => ⟨Nat.lt_of_lt_of_le hid hc.n, hc.ν0 hid (hr.s.nu id _ hS rfl), by rw [hc.μ id hid]⟩)
  refine ⟨_, _, c', ?_, g1, ⟨g4, hr.g.mono g1⟩, push_po hr.s g2 g3 g5⟩
  simp only [Instr.range, Sem.run_bind, run_underlying hu, Result.andThen_ok, getObj_run h1, Sem.run_pure]
  rfl

theorem rngnil_sound {P : Program} {T kT e : TypeId} (hu : P.underlying T = some (.map kT e)) (hr : RelE E B w0 c S tk w) {x : Value} (hx : V c x .nilmap) :
    ∃ u w' c', (Instr.range T x).run P w = .ok u w' ∧ c.Le c' ∧ RelE E B w0 c' (S ++ [.iter0]) tk w' ∧ V c' u (.po S.length 0) := by
  obtain rfl := hx.nilmapInv
  obtain ⟨c', g1, g2, g3, g5, g4⟩ := hr.s.push (.mapIter none 0 #[] 0) .iter0 rfl (fun c' hc => rfl)
  refine ⟨_, _, c', ?_, g1, ⟨g4, hr.g.mono g1⟩, push_po hr.s g2 g3 g5⟩
  simp only [Instr.range, Sem.run_bind, run_underlying hu, Result.andThen_ok, Sem.run_pure]
  rfl

theorem choose_run {P : Program} (n : Nat) (hn : 0 < n) : ∃ r m, r < n ∧ (choose (.mapNext n)).run P w = .ok r { w with drawn := m } := by
  by_cases h : n ≤ 1
  · refine ⟨0, w.drawn, hn, ?_⟩
    simp [choose, Sem.run, Question.forced, h]
  · refine ⟨w.tape w.drawn (.mapNext n) % n, w.drawn + 1, Nat.mod_lt _ hn, ?_⟩
    simp [choose, Sem.run, Question.forced, h, Question.cut]

def nxtK (it m since clk : Nat) (seen : Array Nat) : Option (Option MapEntry) → Sem Value
  | some (some e) => do
    setObj it (.mapIter (some m) since (seen.push e.born) clk)
    pure (.tuple #[.bool true, e.key, e.val])
  | some none => pure (.tuple #[.bool false])
  | none => stuck "Next: no such candidate"

theorem nxt_sound {P : Program} {ty : TypeId} (hr : RelE E B w0 c S tk w) {x : Value} {dx : D} (hx : V c x dx) {K : D → List O → Tks → Prop} (h : nxtP S tk K dx) :
    ∃ u w' d S', (Instr.next x false ty).run P w = .ok u w' ∧ K d S' tk ∧ RelE E B w0 c S' tk w' ∧ V c u d := by
  unfold nxtP at h
  split at h
  · rename_i id
    obtain ⟨rfl, hid, hν⟩ := hx.poInv
    split at h
    · rename_i mid since seen last hS
      split at h
      · rename_i kt kv clk hM
        obtain ⟨hg, hnext, hover⟩ := h
        obtain ⟨a1, a2, a3⟩ := hr.s.objF hS rfl
        obtain ⟨es, h1, hal, hok, hn⟩ := map_obj hr.s hM
        have hgo : (getObj (c.μ id)).run P w = .ok (.mapIter (some (c.μ mid)) since seen.toArray last) w := by simp [getObj, Sem.run, a3]
        have hguard : (!seen.toArray.isEmpty && !es.isEmpty && es.all (fun e => decide (e.born ≥ last))) = false := by
          rcases hg with rfl | rfl | ⟨p, hp, hlt⟩
          · simp
          · have : es = #[] := Array.eq_empty_of_size_eq_zero (by simpa using hn)
            subst this; simp
          · have : es.all (fun e => decide (e.born ≥ last)) = false := by
              obtain ⟨j, hj⟩ := List.getElem?_of_mem hp
              have hjl : j < es.size := by rw [hn]; exact (List.getElem?_eq_some_iff.1 hj).1
              have hb := (hal.h j es[j] p (by simp [hjl]) hj).2.2
              cases hall : es.all (fun e => decide (e.born ≥ last)) with
              | false => rfl
              | true =>
                have := Array.all_eq_true_iff_forall_mem.1 hall es[j] (Array.getElem_mem hjl)
                simp only [decide_eq_true_eq] at this
                omega
            rw [this]; simp
        let left : Array MapEntry := es.filter fun e => !seen.toArray.contains e.born
        let old : Array MapEntry := left.filter (fun e => decide (e.born < since))
        let new : Array MapEntry := left.filter (fun e => decide (e.born ≥ since))
        let cand : Array (Option MapEntry) := (if old.isEmpty = true then #[none] else #[]) ++ (old ++ new).map some
        have hcand0 : 0 < cand.size := by
          simp only [cand, Array.size_append, Array.size_map]
          by_cases ho : old.isEmpty = true
          · rw [if_pos ho]; simp; omega
          · rw [if_neg ho]
            have : 0 < old.size := by
              rcases Nat.eq_zero_or_pos old.size with h0 | h0
              · exact absurd (by simpa [Array.isEmpty] using h0) ho
              · exact h0
            omega
        obtain ⟨r, m, hrlt, hrun⟩ := choose_run (P := P) (w := w) cand.size hcand0
        have hwhole : (Instr.next (.pointer (some ⟨c.μ id, 0, none⟩)) false ty).run P w = (nxtK (c.μ id) (c.μ mid) since clk seen.toArray cand[r]?).run P { w with drawn := m } := by
          simp only [Instr.next, Sem.run_bind, hgo, Result.andThen_ok, getObj_run h1, hguard, Bool.false_eq_true, if_false]
          refine (congrArg (fun R : Result Nat => R.andThen _) hrun).trans ?_
          simp only [Result.andThen_ok]
          rfl
        have hrw : RelE E B w0 c S tk { w with drawn := m } := ⟨hr.s.drawn m, hr.g⟩
        have hcr : cand[r]? = some cand[r] := Array.getElem?_eq_getElem hrlt
        rw [hcr] at hwhole
        have hmem : cand[r] ∈ cand := Array.getElem_mem hrlt
        cases hce : cand[r] with
        | none =>
          rw [hce] at hwhole hmem
          have hold : old.isEmpty = true := by
            by_cases ho : old.isEmpty = true
            · exact ho
            · simp only [cand, if_neg ho] at hmem
              simp at hmem
          refine ⟨_, _, _, S, hwhole, hover fun p hp hlt => ?_, hrw, .tup _ _ rfl fun j v d g1 g2 => ?_⟩
          · obtain ⟨j, hj⟩ := List.getElem?_of_mem hp
            have hjl : j < es.size := by rw [hn]; exact (List.getElem?_eq_some_iff.1 hj).1
            have hb := (hal.h j es[j] p (by simp [hjl]) hj).2.2
            by_cases hs : p.2.2 ∈ seen
            · exact hs
            · exfalso
              have : es[j] ∈ old := by
                simp only [old, left, Array.mem_filter]
                refine ⟨⟨Array.getElem_mem hjl, ?_⟩, ?_⟩
                · rw [hb]; simpa using hs
                · rw [hb]; simpa using hlt
              have h0 : old = #[] := by simpa [Array.isEmpty_iff] using hold
              rw [h0] at this
              simp at this
          · match j, g1, g2 with
            | 0, g1, g2 => simp at g1 g2; subst g1; subst g2; exact .bool _
            | j + 1, g1, g2 => simp at g1
        | some e =>
          rw [hce] at hwhole hmem
          have hleft : e ∈ left := by
            simp only [cand] at hmem
            have : e ∈ old ∨ e ∈ new := by
              by_cases ho : old.isEmpty = true
              · simp only [if_pos ho] at hmem; simpa using hmem
              · simp only [if_neg ho] at hmem; simpa using hmem
            rcases this with h | h
            · exact (Array.mem_filter.1 h).1
            · exact (Array.mem_filter.1 h).1
          obtain ⟨hes, hns⟩ := Array.mem_filter.1 hleft
          obtain ⟨j, hj⟩ := Array.getElem?_of_mem hes
          have hjl : j < kv.length := by rw [← hn]; exact (Array.getElem?_eq_some_iff.1 hj).1
          have hp : kv[j]? = some kv[j] := List.getElem?_eq_getElem hjl
          have h0 := hal.h j e kv[j] (by simpa using hj) hp
          have hns' : kv[j].2.2 ∉ seen := by rw [← h0.2.2]; simpa using hns
          have a3' : ({ w with drawn := m } : World).heap[c.μ id]? = some (.mapIter (some (c.μ mid)) since seen.toArray last) := a3
          have hK := hnext kv[j] (List.getElem_mem hjl) hns'
          simp only [nxtK, Sem.run_bind, setObj_iter a3', Result.andThen_ok, Sem.run_pure] at hwhole
          refine ⟨_, _, _, _, hwhole, hK, ⟨hrw.s.putObj hS rfl _ rfl _ (by rw [a3']; simp) ⟨a1, a2, by rw [h0.2.2]; simp⟩, hr.g⟩, .tup _ _ rfl fun j v d g1 g2 => ?_⟩
          match j, g1, g2 with
          | 0, g1, g2 => simp at g1 g2; subst g1; subst g2; exact .bool _
          | 1, g1, g2 => simp at g1 g2; subst g1; subst g2; exact h0.1
          | 2, g1, g2 => simp at g1 g2; subst g1; subst g2; exact h0.2.1
          | j + 3, g1, g2 => simp at g1
      · exact h.elim
    · rename_i hS
      have a3 := hr.s.objF hS rfl
      have hgo : (getObj (c.μ id)).run P w = .ok (.mapIter none 0 #[] 0) w := by
        have a3' : w.heap[c.μ id]? = some (.mapIter none 0 #[] 0) := a3
        simp [getObj, Sem.run, a3']
      refine ⟨.tuple #[.bool false], w, _, S, ?_, h, hr, .tup _ _ rfl fun j v d g1 g2 => ?_⟩
      · simp only [Instr.next, Sem.run_bind, hgo, Result.andThen_ok, Sem.run_pure]
      · match j, g1, g2 with
        | 0, g1, g2 => simp at g1 g2; subst g1; subst g2; exact .bool _
        | j + 1, g1, g2 => simp at g1
    · exact h.elim
  · exact h.elim

end
end Go.KL
