/- Steps that make or change objects, and calls, are sound. -/
import Derived.Test.YtjjdfplonbgpbaaDoorKL13
import Derived.Laws.MakeOwn
set_option linter.unusedVariables false
set_option linter.unusedSimpArgs false
namespace Go.KL
open Go Go.RowKit

section
variable {E : Env} {B : Nat} {w0 : World} {c : Cfg} {w : World} {a : Act} {st : St}

/-- what the rest of a region meets -/
def NX (E : Env) (B : Nat) (w0 : World) (c : Cfg) (a : Act) (dst : Option Tmp) (K : D → List O → Tks → Prop) : Act → World → Prop :=
  fun a' w' => ∃ v c' d S' tk', a' = a.put dst v ∧ K d S' tk' ∧ c.Le c' ∧ RelE E B w0 c' S' tk' w' ∧ V c' v d

/-- the wide fence, in a round or not -/
def FW (r : Option Nat) : Fence := { Fence.wide with round := r }

theorem callsIn_FW {r : Option Nat} {n : Nat} {P : Program} {f : FuncId} {args : Array Value} {w : World} {R : Ending → World → Prop} (h : Calls P f args w R) : CallsIn (FW r) n P f args w R :=
  (callsIn_wide (n := n)).2 h

theorem roundIn_FW {r : Option Nat} {n m : Nat} {P : Program} {l : Nat} {f : FuncId} {tmps : Array Value} {assign body : Code} {w : World} {R : Ending → World → Prop} (h : RoundIn Fence.wide m P l f tmps assign body w R) : RoundIn (FW r) n P l f tmps assign body w R :=
  ⟨trivial, fun c cs _ => h.2 c cs (fun d hd => by cases hd)⟩

theorem wp_val {r : Option Nat} {rm : Nat} {P : Program} {o : Oper} {next : Act → World → Prop} {Q : Exit → Act → World → Prop} {v : Value} {w' : World} (hnd : ∀ c, o.op ≠ .defer c) (h : (execOp a.eval o).run P w = .ok (.value v) w') (hn : next (a.put o.dst v) w') : o.wpIn (FW r) rm P a w next Q := by
  refine ⟨fun _ _ => trivial, ?_⟩
  rw [Oper.semAt_eq _ _ _ hnd, h]; exact hn

theorem wp_skip' {r : Option Nat} {rm : Nat} {P : Program} {o : Oper} {next : Act → World → Prop} {Q : Exit → Act → World → Prop} {w' : World} (hnd : ∀ c, o.op ≠ .defer c) (h : (execOp a.eval o).run P w = .ok .skip w') (hn : next (a.put o.dst undef) w') : o.wpIn (FW r) rm P a w next Q := by
  refine ⟨fun _ _ => trivial, ?_⟩
  rw [Oper.semAt_eq _ _ _ hnd, h]; exact hn

theorem CRel.mono {c c' : Cfg} {vs : Array Value} {ds : List D} (h : CRel c vs ds) (hc : c.Le c') : CRel c' vs ds := ⟨h.1, fun j v d h1 h2 => (h.2 j v d h1 h2).mono hc⟩

theorem ORelF.ofCells {c : Cfg} {vs : Array Value} {ds : List D} {T : TypeId} (h : CRel c vs ds) (hl : allLeaf ds = true) : ORelF c (some (.cells vs T (0, 0))) (.arr ds) :=
  ⟨vs, T, rfl, by rw [h.1]; exact Nat.le_refl _, fun j v d h1 h2 => ⟨h.2 j v d h1 h2, (h.2 j v d h1 h2).oneCell (allLeaf_get hl h2)⟩⟩

theorem push_po {S : List O} {tk} {c' : Cfg} (hr : RelS B w0 c S tk w) (hn : c'.n = c.n + 1) (hμ : c'.μ c.n = w.heap.size) (hν : c'.ν c.n = none) : V c' (.pointer (some ⟨w.heap.size, 0, none⟩)) (.po S.length 0) := by
  rw [← hr.nS, ← hμ]
  exact .po c.n 0 (by omega) hν

theorem alloc_sound {P : Program} {T : TypeId} {zs : List D} (hz : zeroT P T = some zs) {S : List O} {tk} (hr : RelE E B w0 c S tk w) :
    ∃ w' c', (Instr.alloc T true (.tuple #[])).run P w = .ok (.pointer (some ⟨w.heap.size, 0, none⟩)) w' ∧ c.Le c' ∧ RelE E B w0 c' (S ++ [.arr zs]) tk w' ∧ V c' (.pointer (some ⟨w.heap.size, 0, none⟩)) (.po S.length 0) := by
  obtain ⟨z, hzr, hzc, hzl, _⟩ := zeroT_run (c := c) (w := w) hz
  obtain ⟨c', h1, h2, h3, h5, h4⟩ := hr.s.push (.cells z.cells T) (.arr zs) rfl (fun c' hc => ORelF.ofCells (hzc.mono hc) hzl)
  refine ⟨_, c', ?_, h1, ⟨h4, hr.g.mono h1⟩, push_po hr.s h2 h3 h5⟩
  simp only [Instr.alloc, Sem.run_bind, hzr, Result.andThen_ok]
  rfl

theorem box_sound {P : Program} {T : TypeId} {v : Value} {d : D} (hv : V c v d) (hvar : d.var = true) (hl : allLeaf d.cs = true) {S : List O} {tk} (hr : RelE E B w0 c S tk w) :
    ∃ w' c', (Instr.box T v).run P w = .ok (.pointer (some ⟨w.heap.size, 0, none⟩)) w' ∧ c.Le c' ∧ RelE E B w0 c' (S ++ [.arr d.cs]) tk w' ∧ V c' (.pointer (some ⟨w.heap.size, 0, none⟩)) (.po S.length 0) := by
  have hc := CRel.of_V hv hvar
  obtain ⟨c', h1, h2, h3, h5, h4⟩ := hr.s.push (.cells v.cells T) (.arr d.cs) rfl (fun c' hcc => ORelF.ofCells (hc.mono hcc) hl)
  exact ⟨_, c', rfl, h1, ⟨h4, hr.g.mono h1⟩, push_po hr.s h2 h3 h5⟩

theorem st_sound {P : Program} {T : TypeId} {n : Nat} {ag : Bool} (hsz : szT P T = some (n, ag)) {S : List O} {tk} (hr : RelE E B w0 c S tk w) {p v : Value} {id off : Nat} {d : D} {cs : List D} (hp : V c p (.po id off)) (hv : V c v d)
    (hcs : S[id]? = some (.arr cs)) (hvar : d.var = true) (hl : allLeaf d.cs = true) (hn : d.cs.length = n) (hle : off + n ≤ cs.length) :
    ∃ w', (Instr.storeAt T p v).run P w = .ok () w' ∧ RelE E B w0 c (S.set id (.arr (setC cs off d.cs))) tk w' := by
  obtain ⟨i, hi, _, hin, _⟩ := szT_spec hsz
  have hc := CRel.of_V hv hvar
  obtain ⟨cur, T', hcur, hlen, hV⟩ := hr.s.objF hcs rfl
  cases hp with
  | po _ _ hid hν =>
    have h1 : ∀ u ∈ v.cells.toList, u.oneCell' = true := fun u hu => by
      obtain ⟨j, hj⟩ := List.getElem?_of_mem hu
      have hjl : j < d.cs.length := by rw [← hc.1]; have := (List.getElem?_eq_some_iff.1 hj).1; simpa using this
      exact (hc.2 j u _ (by simpa using hj) (List.getElem?_eq_getElem hjl)).oneCell (allLeaf_get hl (List.getElem?_eq_getElem hjl))
    have hcz : v.cells.size = n := by rw [← hn, ← hc.1]
    have hcl : v.cells.toList.length = n := by rw [← hn, ← hc.1]; simp
    have hst := run_storeCells_at P (c.μ id) off T' v.cells.toList 0 cur w hcur (by rw [hcl]; omega) h1
    refine ⟨w.setRow (c.μ id) (cur.toList.take off ++ v.cells.toList ++ cur.toList.drop (off + n)).toArray, ?_, ?_, hr.g⟩
    · simp only [Instr.storeAt, Sem.run_bind, sureAddr_run, Result.andThen_ok, storeVar, sizeOf_run hi]
      rw [if_neg (by rw [hc.1, hn, hin]; simp)]
      simp only [Nat.add_zero, hcl] at hst
      exact hst
    · have hrow := setRow_heap w (c.μ id) cur (cur.toList.take off ++ v.cells.toList ++ cur.toList.drop (off + n)).toArray T' _ hcur
      refine hr.s.put hcs rfl _ rfl _ rfl rfl rfl (by simp) (by rw [hcur]; simp) (fun k hk => setRow_other w (c.μ id) k _ (by omega)) ?_
      rw [hrow]
      have hlt : (cur.toList.take off).length = off := by rw [List.length_take, Array.length_toList]; omega
      refine ⟨_, T', rfl, ?_, fun j u e h2 h3 => ?_⟩
      · simp only [setC, List.length_append, List.length_take, List.length_drop, List.size_toArray, Array.length_toList, hcl, hn]; omega
      · simp only [setC, hn] at h3
        rw [List.getElem?_toArray] at h2
        by_cases hj1 : j < off
        · rw [List.append_assoc, List.getElem?_append_left (by omega), List.getElem?_take, if_pos hj1] at h2
          rw [List.append_assoc, List.getElem?_append_left (by simp; omega), List.getElem?_take, if_pos hj1] at h3
          exact hV j u e (by simpa using h2) h3
        · by_cases hj2 : j < off + n
          · rw [List.append_assoc, List.getElem?_append_right (by omega), hlt, List.getElem?_append_left (by omega)] at h2
            rw [List.append_assoc, List.getElem?_append_right (by simp; omega), List.length_take, Nat.min_eq_left (by omega), List.getElem?_append_left (by omega)] at h3
            exact ⟨hc.2 _ u e (by simpa using h2) h3, (hc.2 _ u e (by simpa using h2) h3).oneCell (allLeaf_get hl h3)⟩
          · rw [List.getElem?_append_right (by simp; omega), List.getElem?_drop] at h2
            rw [List.getElem?_append_right (by simp; omega), List.getElem?_drop] at h3
            simp only [List.length_append, List.length_take, Array.length_toList, hcl, hn, Nat.min_eq_left (show off ≤ cur.size by omega), Nat.min_eq_left (show off ≤ cs.length by omega)] at h2 h3
            rw [show off + n + (j - (off + n)) = j from by omega] at h2 h3
            exact hV j u e (by simpa using h2) h3

theorem callFunc_run {P : Program} {f : FuncId} (h : callOK P f = true) (args : Array Value) : (callFunc f args).run P w = .ok (.enter f args) w := by
  unfold callOK at h
  cases hf : P.funcs[f]? with
  | none => simp [hf] at h
  | some fn =>
    simp only [hf, Bool.and_eq_true, bne_iff_ne, ne_eq] at h
    obtain ⟨h1, h2⟩ := h
    have h2' : (fn.name == "runtime.NumGoroutine") = false := by simpa using h2
    obtain ⟨b, hb⟩ := Option.isSome_iff_exists.1 h1
    simp [callFunc, program, Sem.run, hf, h2, h2', hb]

theorem call_sound {r : Option Nat} {rm : Nat} {o : Oper} (hnd : ∀ c, o.op ≠ .defer c) {f : FuncId} {vs : Array Value} {ds : List D} {S : List O} {tk : Tks} {Q : Exit → Act → World → Prop} {K : D → List O → Tks → Prop} (hrun : (execOp a.eval o).run E.P w = (callFunc f vs).run E.P w) (hok : callOK E.P f = true)
    (hr : RelE E B w0 c S tk w) (hl : VL c vs ds) (h : ACalls E f ds S tk K) : o.wpIn (FW r) rm E.P a w (NX E B w0 c a o.dst K) Q := by
  refine ⟨fun _ _ => trivial, ?_⟩
  rw [Oper.semAt_eq _ _ _ hnd, hrun, callFunc_run hok]
  refine ⟨fun h => by simp [FW, Fence.wide] at h, callsIn_FW ((h B w0 c w vs hr hl).mono ?_)⟩
  rintro e w' ⟨v, c', r, S', tk', rfl, h1, h2, h3, h4⟩
  exact ⟨v, c', r, S', tk', rfl, h4, h1, h2, h3⟩

theorem yield_sound {r : Option Nat} {rm : Nat} {o : Oper} (hnd : ∀ c, o.op ≠ .defer c) {id : Nat} {vs : Array Value} {ds : List D} {S : List O} {tk : Tks} {Q : Exit → Act → World → Prop} {K : D → List O → Tks → Prop}
    (hrun : (execOp a.eval o).run E.P w = (Instr.yield (c.μ id) vs).run E.P w) (hr : RelE E B w0 c S tk w) (hl : VL c vs ds) (h : AYields E id ds S tk K) : o.wpIn (FW r) rm E.P a w (NX E B w0 c a o.dst K) Q := by
  obtain ⟨fn, tmps, asg, bod, h1, h2⟩ := h B w0 c w vs hr hl
  refine ⟨fun _ _ => trivial, ?_⟩
  rw [Oper.semAt_eq _ _ _ hnd, hrun, h1]
  refine ⟨fun h => by simp [FW, Fence.wide] at h, roundIn_FW (h2.mono ?_)⟩
  rintro e w' ⟨v, c', r, S', tk', rfl, h1, h2, h3, h4⟩
  exact ⟨v, c', r, S', tk', rfl, h4, h1, h2, h3⟩

/-- a store into an element of a growing row -/
theorem sv_sound {P : Program} {T : TypeId} {n : Nat} {ag : Bool} (hsz : szT P T = some (n, ag)) {S : List O} {tk} (hr : RelE E B w0 c S tk w) {p v : Value} {id m i j : Nat} {d : D} {es : List (List D)} {e : TypeId} {sz : Nat} {row : List D} (hp : V c p (.pv id m i j)) (hv : V c v d)
    (hes : S[id]? = some (.vec es e sz)) (hrow : es[i]? = some row) (hvar : d.var = true) (hl : allLeaf d.cs = true) (hn : d.cs.length = n) (hm : es.length = m) (hle : j + n ≤ row.length) :
    ∃ w' c', (Instr.storeAt T p v).run P w = .ok () w' ∧ c.Le c' ∧ RelE E B w0 c' (S.set id (.vec (es.set i (setC row j d.cs)) e sz)) tk w' := by
  obtain ⟨ti, hi, _, hin, _⟩ := szT_spec hsz
  have hc := CRel.of_V hv hvar
  obtain ⟨k, b, cap, cur, h1, h2, h3, h4, h5, hb, rfl, hcur, hcs, hcV, hcap, hcmax⟩ := hr.s.vecAt hp hes hm
  have hi' : i < es.length := (List.getElem?_eq_some_iff.1 hrow).1
  have hrl : row.length = sz := h5 row (List.mem_of_getElem? hrow)
  have hmul : es.length * sz ≤ cap * sz := Nat.mul_le_mul_right _ hcap
  have hmul2 : (i + 1) * sz ≤ es.length * sz := Nat.mul_le_mul_right _ hi'
  rw [Nat.succ_mul] at hmul2
  have hv1 : ∀ u ∈ v.cells.toList, u.oneCell' = true := fun u hu => by
    obtain ⟨j, hj⟩ := List.getElem?_of_mem hu
    have hjl : j < d.cs.length := by rw [← hc.1]; have := (List.getElem?_eq_some_iff.1 hj).1; simpa using this
    exact (hc.2 j u _ (by simpa using hj) (List.getElem?_eq_getElem hjl)).oneCell (allLeaf_get hl (List.getElem?_eq_getElem hjl))
  have hcl : v.cells.toList.length = n := by rw [← hn, ← hc.1]; simp
  have e1 : cur.toList.length = cur.size := Array.length_toList
  have hst := run_storeCells_at P b (i * sz + j) e v.cells.toList 0 cur w hcur (by rw [hcl]; omega) hv1
  let C : Array Value := (cur.toList.take (i * sz + j) ++ v.cells.toList ++ cur.toList.drop (i * sz + j + n)).toArray
  have hrowC : (w.setRow b C).heap[b]? = some (.cells C e (0, 0)) := setRow_heap w b cur C e _ hcur
  have hsetl : (setC row j d.cs).length = sz := by simp only [setC, List.length_append, List.length_take, List.length_drop, hn]; omega
  have h5' : ∀ x ∈ es.set i (setC row j d.cs), x.length = sz := fun x hx => by
    rcases List.mem_or_eq_of_mem_set hx with hx | rfl
    · exact h5 x hx
    · exact hsetl
  have hblk : c.ν id = some k := h1
  obtain ⟨c', g1, g2, g3, g4⟩ := hr.s.vset hes h1 k (.inl rfl) (es.set i (setC row j d.cs)) (w.setRow b C) rfl rfl rfl (by simp)
    (fun j' hj' hne => setRow_other w b j' _ (by have := hne b cap hb; omega)) (fun b' cap0 hb' => ⟨by rw [hb] at hb'; simp only [Option.some.injEq, Prod.mk.injEq] at hb'; obtain ⟨rfl, rfl⟩ := hb'; have := (Array.getElem?_eq_some_iff.1 hrowC).1; exact this, .inl ⟨cap0, hb'⟩⟩)
    (fun c' hle hν => by
      refine ⟨k, hν, by rw [List.length_set]; exact h2, h3, h4, h5', ?_⟩
      rw [hb]
      refine ⟨⟨C, hrowC, ?_, fun q u x hu hx => ?_⟩, by rw [List.length_set]; exact hcap, hcmax, by rw [List.length_set]; omega⟩
      · simp only [C, List.size_toArray, List.length_append, List.length_take, List.length_drop, hcl]; omega
      · rw [List.getElem?_toArray] at hu
        have hsz0 : 0 < sz := by
          rcases Nat.eq_zero_or_pos sz with h0 | h0
          · exfalso
            have hl0 := (List.getElem?_eq_some_iff.1 hx).1
            rw [flat_len _ h5', h0] at hl0
            simp at hl0
          · exact h0
        obtain ⟨el, f1, f2⟩ := flat_get _ h5' (q / sz) (q % sz) x (Nat.mod_lt _ hsz0) (by rw [Nat.mul_comm, Nat.div_add_mod]; exact hx)
        have hq : q / sz * sz + q % sz = q := by rw [Nat.mul_comm]; exact Nat.div_add_mod q sz
        have hlt1 : (cur.toList.take (i * sz + j)).length = i * sz + j := by rw [List.length_take]; omega
        have old : ∀ (y : List D), es[q / sz]? = some y → y[q % sz]? = some x → cur[q]? = some u → V c' u x ∧ u.oneCell' = true := fun y hy hyx hcu => by
          have hf := flat_of es h5 (q / sz) (q % sz) y x hy hyx
          rw [hq] at hf
          exact ⟨(hcV q u x hcu hf).1.mono hle, (hcV q u x hcu hf).2⟩
        have hmod := Nat.mod_lt q hsz0
        by_cases hqi : q / sz = i
        · rw [hqi] at hq
          rw [hqi, List.getElem?_set_self hi'] at f1
          obtain rfl := Option.some.inj f1
          simp only [setC, hn] at f2
          by_cases hj1 : q % sz < j
          · rw [List.append_assoc, List.getElem?_append_left (by omega), List.getElem?_take, if_pos (by omega)] at hu
            rw [List.append_assoc, List.getElem?_append_left (by rw [List.length_take]; omega), List.getElem?_take, if_pos hj1] at f2
            exact old row (by rw [hqi]; exact hrow) f2 (by simpa using hu)
          · by_cases hj2 : q % sz < j + n
            · rw [List.append_assoc, List.getElem?_append_right (by omega), hlt1, List.getElem?_append_left (by omega)] at hu
              rw [List.append_assoc, List.getElem?_append_right (by rw [List.length_take]; omega), List.length_take, Nat.min_eq_left (by omega), List.getElem?_append_left (by omega)] at f2
              rw [show q - (i * sz + j) = q % sz - j from by omega] at hu
              have hV := hc.2 _ u x (by simpa using hu) f2
              exact ⟨hV.mono hle, hV.oneCell (allLeaf_get hl f2)⟩
            · rw [List.getElem?_append_right (by rw [List.length_append, hlt1, hcl]; omega), List.getElem?_drop, List.length_append, hlt1, hcl] at hu
              rw [List.getElem?_append_right (by rw [List.length_append, List.length_take]; omega), List.getElem?_drop, List.length_append, List.length_take] at f2
              rw [show i * sz + j + n + (q - (i * sz + j + n)) = q from by omega] at hu
              rw [show j + n + (q % sz - (min j row.length + d.cs.length)) = q % sz from by omega] at f2
              exact old row (by rw [hqi]; exact hrow) f2 (by simpa using hu)
        · rw [List.getElem?_set_ne (by omega)] at f1
          have hcu : cur[q]? = some u := by
            rcases Nat.lt_or_ge (q / sz) i with hlt | hge
            · have : (q / sz + 1) * sz ≤ i * sz := Nat.mul_le_mul_right _ hlt
              rw [Nat.succ_mul] at this
              rw [List.append_assoc, List.getElem?_append_left (by omega), List.getElem?_take, if_pos (by omega)] at hu
              simpa using hu
            · have : (i + 1) * sz ≤ q / sz * sz := Nat.mul_le_mul_right _ (by omega)
              rw [Nat.succ_mul] at this
              rw [List.getElem?_append_right (by rw [List.length_append, hlt1, hcl]; omega), List.getElem?_drop, List.length_append, hlt1, hcl] at hu
              rw [show i * sz + j + n + (q - (i * sz + j + n)) = q from by omega] at hu
              simpa using hu
          exact old el f1 f2 hcu)
  refine ⟨w.setRow b C, c', ?_, g1, g4, hr.g.mono g1⟩
  simp only [Instr.storeAt, Sem.run_bind, sureAddr_run, Result.andThen_ok, storeVar, sizeOf_run hi]
  rw [if_neg (by rw [hc.1, hn, hin]; simp)]
  simp only [Nat.add_zero, hcl] at hst
  exact hst

theorem mksl_sound {P : Program} {T e : TypeId} {i : TypeInfo} {zs : List D} (hu : P.underlying T = some (.slice e)) (hi : P.info? e = some i) (hz : zeroT P e = some zs) (hsz : i.size = zs.length) (h0 : 0 < i.size) {S : List O} {tk} (hr : RelE E B w0 c S tk w)
    {k k' : IntKind} {n : Int} (h1 : 0 ≤ n) (h2 : n ≤ 4611686018427387904) (h3 : n.toNat * i.bytes ≤ 140737488355328) :
    ∃ v w' c', (Instr.makeSlice T (.int k n) (.int k' n)).run P w = .ok v w' ∧ c.Le c' ∧ RelE E B w0 c' (S ++ [.arr (List.replicate n.toNat zs).flatten]) tk w' ∧ V c' v (.osl S.length 0 n.toNat i.size) := by
  obtain ⟨z, hzr, hzc, hzl, _, hi', hzi⟩ := zeroT_run (c := c) (w := w) hz
  rw [hi] at hi'
  obtain rfl := Option.some.inj hi'
  have hzs : z.cells.size = i.size := by rw [hzc.1, hsz]
  have hrep : ∀ e ∈ List.replicate n.toNat zs, e.length = i.size := fun e he => by rw [(List.mem_replicate.1 he).2, hsz]
  have hbase : CRel c (madeCells z.cells (n.toNat * i.size)) (List.replicate n.toNat zs).flatten := by
    refine ⟨by simp [madeCells, hsz], fun j v d hv hdj => ?_⟩
    have hj : j < n.toNat * i.size := by have := (Array.getElem?_eq_some_iff.1 hv).1; simpa [madeCells] using this
    have hv' : v = z.cells[j % z.cells.size]! := by simpa [madeCells, hj] using hv.symm
    have hm : j % i.size < i.size := Nat.mod_lt _ h0
    obtain ⟨e', g1, g2⟩ := flat_get _ hrep (j / i.size) (j % i.size) d hm (by rw [Nat.mul_comm, Nat.div_add_mod]; exact hdj)
    have he : e' = zs := (List.mem_replicate.1 (List.mem_of_getElem? g1)).2
    subst he
    rw [hv', hzs]
    have hg : z.cells[j % i.size]? = some (z.cells[j % i.size]'(by omega)) := Array.getElem?_eq_getElem (by omega)
    have := hzc.2 _ _ d hg g2
    rwa [getElem!_pos z.cells _ (by omega)]
  have hlf : allLeaf (List.replicate n.toNat zs).flatten = true := by
    generalize n.toNat = m
    induction m with
    | zero => rfl
    | succ m ih =>
      rw [List.replicate_succ, List.flatten_cons]
      have app : ∀ (x y : List D), allLeaf x = true → allLeaf y = true → allLeaf (x ++ y) = true := fun x y hx hy => by
        induction x with
        | nil => exact hy
        | cons d x ihx => simp only [allLeaf, Bool.and_eq_true, List.cons_append] at hx ⊢; exact ⟨hx.1, ihx hx.2⟩
      exact app _ _ hzl ih
  obtain ⟨c', g1, g2, g3, g5, g4⟩ := hr.s.push (.cells (madeCells z.cells (n.toNat * i.size)) e) (.arr (List.replicate n.toNat zs).flatten) rfl (fun c' hcc => ORelF.ofCells (hbase.mono hcc) hlf)
  have hr' := run_make (P := P) w T e i z hu hi hzi k k' n n h1 (Int.le_refl _) (by
    have e1 : (i.bytes : Int) * n = ((n.toNat * i.bytes : Nat) : Int) := by rw [Int.natCast_mul, Int.toNat_of_nonneg h1, Int.mul_comm]
    rw [e1]; omega) (by omega)
  refine ⟨_, _, c', hr', g1, ⟨g4, hr.g.mono g1⟩, ?_⟩
  have := V.osl (c := c') c.n 0 n.toNat i.size n.toNat (by omega) g5 (Nat.le_refl _)
  rw [g3] at this
  rw [← hr.s.nS]
  exact this

end
end Go.KL
