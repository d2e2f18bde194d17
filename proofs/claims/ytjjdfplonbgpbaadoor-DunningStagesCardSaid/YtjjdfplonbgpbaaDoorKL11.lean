/- Pure steps are sound: slices, indexes, lengths. -/
import Derived.Test.YtjjdfplonbgpbaaDoorKL10
set_option linter.unusedVariables false
set_option linter.unusedSimpArgs false
namespace Go.KL
open Go Go.RowKit

theorem add_zero (a : Addr) : a.add 0 = a := rfl

section
variable {E : Env} {B : Nat} {w0 : World} {c : Cfg} {S : List O} {tk : List (Nat × TypeId × Nat)} {w : World} {a : Act} {fr : List (Nat × D)}

theorem V.slMk {c : Cfg} {ad : Addr} {cap sz : Nat} {es : List (List D)} (xs : Array Value) (hcap : es.length ≤ cap) (hsz : ∀ e ∈ es, e.length = sz)
    (hF : ∀ (j : Nat) u, xs[j]? = some u → c.F (ad.add j) = some u) (hxs : es.length * sz ≤ xs.size)
    (hV : ∀ (j : Nat) u d, xs[j]? = some u → es.flatten[j]? = some d → V c u d) : V c (.slice (some ad) es.length cap) (.sl es) := by
  have hk : ∀ (i : Nat) (e : List D) (j : Nat) (d : D), es[i]? = some e → e[j]? = some d → i * sz + j < es.length * sz := fun i e j d h1 h2 => by
    have := flat_of es hsz i j e d h1 h2
    have := (List.getElem?_eq_some_iff.1 this).1
    rwa [flat_len es hsz] at this
  refine .sl ad cap es sz (fun i j => xs.getD (i * sz + j) undef) hcap hsz (fun i e j d h1 h2 => ?_) (fun i e j d h1 h2 => ?_)
  · have hlt := hk i e j d h1 h2
    have hg : xs[i * sz + j]? = some (xs[i * sz + j]'(by omega)) := Array.getElem?_eq_getElem _
    rw [hF _ _ hg, Array.getD_eq_getD_getElem?, hg]
    rfl
  · have hlt := hk i e j d h1 h2
    have hg : xs[i * sz + j]? = some (xs[i * sz + j]'(by omega)) := Array.getElem?_eq_getElem _
    rw [Array.getD_eq_getD_getElem?, hg]
    exact hV _ _ _ hg (flat_of es hsz i j e d h1 h2)

theorem allLeaf_flat {l : List (List D)} (h : ∀ e ∈ l, allLeaf e = true) {j : Nat} {d : D} (hd : l.flatten[j]? = some d) : d.leaf = true := by
  obtain ⟨e, he, hde⟩ := List.mem_flatten.1 (List.mem_of_getElem? hd)
  obtain ⟨k, hk⟩ := List.getElem?_of_mem hde
  exact allLeaf_get (h e he) hk

theorem buildS_run {P : Program} {T e : TypeId} {n : Nat} {i : TypeInfo} {zs : List D} (hu : P.underlying T = some (.slice e)) (hi : P.info? e = some i) (hz : zeroT P e = some zs) (hsz : i.size = zs.length) (h0 : 0 < i.size) (hle : n * i.size ≤ 16777216)
    {parts : Array (Nat × Operand)} {qs : List (Nat × Opd)} (hr : RelE E B w0 c S tk w) (hf : FRel c a.tmps fr) (hp : cParts parts.toList = some qs) {es : List (List D)} (hd : fillS i.size (List.replicate n zs) (evQ E fr qs) = some es) :
    ∃ v w' c', (Instr.buildSlice T n (parts.map fun (i, x) => (i, a.eval x))).run P w = .ok v w' ∧ c.Le c' ∧ RelE E B w0 c' S tk w' ∧ V c' v (mkS es) := by
  obtain ⟨z, hzr, hzc, hzl, _, _, _⟩ := zeroT_run (c := c) (w := w) hz
  have hpl : (parts.map fun (i, x) => (i, a.eval x)).toList = parts.toList.map fun p => (p.1, a.eval p.2) := by simp
  obtain ⟨g1, g2⟩ := cParts_rel (a := a) hr.g hf _ _ hp
  have hrep : ∀ e ∈ List.replicate n zs, e.length = i.size := fun e he => by rw [(List.mem_replicate.1 he).2, hsz]
  have hrl : ∀ e ∈ List.replicate n zs, allLeaf e = true := fun e he => by rw [(List.mem_replicate.1 he).2]; exact hzl
  have hzs : z.cells.size = i.size := by rw [hzc.1, hsz]
  have hbase : CRel c ((Array.range (n * i.size)).map (fun j => z.cells[j % z.cells.size]!)) (List.replicate n zs).flatten := by
    refine ⟨by simp [hsz], fun j v d hv hdj => ?_⟩
    have hj : j < n * i.size := by have := (Array.getElem?_eq_some_iff.1 hv).1; simpa using this
    have hv' : v = z.cells[j % z.cells.size]! := by simpa [hj] using hv.symm
    have hm : j % i.size < i.size := Nat.mod_lt _ h0
    obtain ⟨e', h1, h2⟩ := flat_get _ hrep (j / i.size) (j % i.size) d hm (by rw [Nat.mul_comm, Nat.div_add_mod]; exact hdj)
    have he : e' = zs := (List.mem_replicate.1 (List.mem_of_getElem? h1)).2
    subst he
    rw [hv', hzs]
    have hg : z.cells[j % i.size]? = some (z.cells[j % i.size]'(by omega)) := Array.getElem?_eq_getElem (by omega)
    have := hzc.2 _ _ d hg h2
    rwa [getElem!_pos z.cells _ (by omega)]
  obtain ⟨us, k1, k2, k3, k4, k5⟩ := fill_S (c := c) _ _ _ (List.replicate n zs) es hbase hrep hrl hd g1 g2
  have hlen : es.length = n := by rw [k5]; simp
  obtain ⟨c', hle', hrel, hn', hm', hF⟩ := hr.s.frow us e (fun j v hv => by
    have hjl : j < es.flatten.length := by rw [← k2.1]; exact (Array.getElem?_eq_some_iff.1 hv).1
    exact (k2.2 j v _ hv (List.getElem?_eq_getElem hjl)).oneCell (allLeaf_flat k4 (List.getElem?_eq_getElem hjl)))
  refine ⟨.slice (some ⟨w.heap.size, 0, none⟩) n n, _, c', ?_, hle', ⟨hrel, hr.g.mono hle'⟩, ?_⟩
  · simp only [Instr.buildSlice, Sem.run_bind, run_underlying hu, Result.andThen_ok, sizeOf_run hi]
    have h24 : ¬ (n * i.size > 2 ^ 24) := by omega
    rw [if_neg h24]
    by_cases hn0 : n * i.size = 0
    · have hb0 : ((Array.range (n * i.size)).map (fun j => z.cells[j % z.cells.size]!)) = #[] := by rw [hn0]; simp
      rw [hb0] at k1
      simp only [hn0, if_true, Sem.run_pure, Result.andThen_ok, hpl, Sem.run_bind]
      rw [show ((Array.range 0).map (fun x => (#[] : Array Value)[x % (#[] : Array Value).size]!)) = #[] from by simp, k1]
      rfl
    · simp only [hn0, if_false, Sem.run_bind, hzr, Result.andThen_ok, Sem.run_pure, hpl]
      rw [k1]
      rfl
  · have := V.slMk (c := c') (ad := ⟨w.heap.size, 0, none⟩) (cap := n) (sz := i.size) (es := es) us (by omega) k3 (fun j u hu => by rw [add_own]; exact hF j u hu) (by rw [k2.1, flat_len es k3]; exact Nat.le_refl _)
      (fun j u d hu hdj => (k2.2 j u d hu hdj).mono hle')
    rw [hlen] at this
    cases es with
    | nil =>
      have h0 : n = 0 := by simpa using hlen.symm
      subst h0
      exact .full ⟨w.heap.size, 0, none⟩ [] 0 (fun _ _ => undef) (by simp) (by simp) (by simp)
    | cons e r =>
      have hf : V c' (.slice (some ⟨w.heap.size, 0, none⟩) n n) (.full (e :: r)) := this.toFull (by rw [hlen])
      unfold mkS
      split
      · rename_i h; cases h
      · rename_i h; rw [← h] at *; exact hf
      · rename_i h; rw [← h]; exact this

theorem sureAddr_run {P : Program} (ad : Addr) : (Instr.sureAddr (.pointer (some ad))).run P w = .ok ad w := rfl

theorem ptrAdd_V {c : Cfg} {v : Value} {d r : D} {off : Nat} (hv : V c v d) (h : ptrAdd off d = some r) : ∃ ad, v = .pointer (some ad) ∧ V c (.pointer (some (ad.add off))) r := by
  cases hv <;> simp only [ptrAdd, reduceCtorEq, Option.some.injEq] at h
  case pe a e o vs hF hV => subst h; exact ⟨_, rfl, by rw [add_add]; exact .pe a e _ vs hF hV⟩
  case po i o hid hν => subst h; exact ⟨_, rfl, by rw [add_own']; exact .po i _ hid hν⟩
  case pv A id n i j k hid hk hh =>
    subst h
    refine ⟨_, rfl, .pv _ id n i (j + off) k hid hk ?_⟩
    rcases hh with hh | ⟨h1, h2⟩
    · exact .inl hh
    · refine .inr ⟨h1, ?_⟩
      unfold Tok.at at h2 ⊢
      cases hb : k.blk with
      | none => rw [hb] at h2; exact h2.elim
      | some p =>
        obtain ⟨b, cap⟩ := p
        rw [hb] at h2
        have e1 : A = ⟨b, i * k.sz + j, none⟩ := by simpa using h2
        simp only
        rw [e1, add_own', Nat.add_assoc]

theorem fa_run {P : Program} {T : TypeId} {fs : Array Field} {f : Nat} {fd : Field} {i : TypeInfo} (hu : P.underlying T = some (.struct fs)) (hf : fs[f]? = some fd) (hi : P.info? fd.type = some i) (h0 : i.size ≠ 0)
    {v : Value} {d r : D} (hv : V c v d) (h : ptrAdd fd.offset d = some r) : ∃ u, (Instr.fieldAt T v f).run P w = .ok u w ∧ V c u r := by
  obtain ⟨ad, rfl, h2⟩ := ptrAdd_V hv h
  refine ⟨_, ?_, h2⟩
  simp only [Instr.fieldAt, Sem.run_bind, run_underlying hu, Result.andThen_ok, hf, sureAddr_run, fieldPlace, sizeOf_run hi, h0, if_false, Sem.run_pure]

/-- the element of a slice that is read -/
theorem V.elem {c : Cfg} {v : Value} {es : List (List D)} (h : V c v (.sl es)) {n : Nat} {e : List D} (hn : es[n]? = some e) :
    ∃ ad cap, v = .slice (some ad) es.length cap ∧ V c (.pointer (some (ad.add (n * e.length)))) (.pe e 0) := by
  cases h with
  | slnil => simp at hn
  | sl a cap es sz vs hcap hsz hF hV =>
    have he : e.length = sz := hsz e (List.mem_of_getElem? hn)
    refine ⟨a, cap, rfl, ?_⟩
    have := V.pe (c := c) (a.add (n * sz)) e 0 (fun j => vs n j) (fun j d hd => by rw [add_add]; exact hF n e j d hn hd) (fun j d hd => hV n e j d hn hd)
    rw [he]; exact this

theorem ia_run {P : Program} {T e : TypeId} {inf : TypeInfo} (hu : P.underlying T = some (.slice e)) (hi : P.info? e = some inf) {v iv : Value} {x i r : D} (hv : V c v x) (hiv : V c iv i)
    (h : iaD inf.size x i = some r) : ∃ u, (Instr.indexAt T v iv).run P w = .ok u w ∧ V c u r := by
  unfold iaD at h
  cases i <;> simp only [reduceCtorEq] at h
  rename_i k n
  obtain rfl := hiv.intInv
  split at h
  · rename_i h0
    have rdcase : ∀ es, x.rd = some es → (match es[n.toNat]? with
              | some e => if e.length = inf.size then some (D.pe e 0) else none
              | none => none) = some r → ∃ u, (Instr.indexAt T v (.int k n)).run P w = .ok u w ∧ V c u r := by
      intro es hes h
      split at h
      · rename_i el hel
        split at h
        · rename_i hs
          obtain rfl := Option.some.inj h
          obtain ⟨ad, cap, rfl, hp⟩ := (hv.rd hes).elem hel
          have hlt := (List.getElem?_eq_some_iff.1 hel).1
          refine ⟨_, ?_, hp⟩
          have hc : 0 ≤ n ∧ n < (es.length : Int) := ⟨h0, by omega⟩
          simp only [Instr.indexAt, asIntOf, Sem.run_bind, Sem.run_pure, Result.andThen_ok, run_underlying hu, hc, and_self, if_true, sizeOf_run hi, hs]
        · cases h
      · cases h
    split at h
    · rename_i x' id off m sz'
      split at h
      · rename_i hc
        obtain ⟨rfl, hlt⟩ := hc
        obtain rfl := Option.some.inj h
        cases hv with
        | osl _ _ _ _ cap hid hν hcap =>
          refine ⟨_, ?_, .po id _ hid hν⟩
          have hc : 0 ≤ n ∧ n < (m : Int) := ⟨h0, by omega⟩
          simp only [Instr.indexAt, asIntOf, Sem.run_bind, Sem.run_pure, Result.andThen_ok, run_underlying hu, hc, and_self, if_true, sizeOf_run hi, add_own']
      · cases h
    · rename_i x' id m sz'
      split at h
      · rename_i hc
        obtain ⟨rfl, hlt⟩ := hc
        obtain rfl := Option.some.inj h
        obtain ⟨hid, k1, A, cap, hk, rfl, h1, h2, h3⟩ := hv.vecInv
        obtain ⟨ad, rfl⟩ := Option.isSome_iff_exists.1 (h1 (by omega))
        have hc : 0 ≤ n ∧ n < (m : Int) := ⟨h0, by omega⟩
        refine ⟨.pointer (some (ad.add (n.toNat * inf.size))), by simp only [Instr.indexAt, asIntOf, Sem.run_bind, Sem.run_pure, Result.andThen_ok, run_underlying hu, hc, and_self, if_true, sizeOf_run hi], .pv _ id m n.toNat 0 k1 hid hk ?_⟩
        rcases h3 with h3 | ⟨h3, h4, h5⟩
        · exact .inl h3
        · refine .inr ⟨h3, ?_⟩
          unfold Tok.is at h5
          unfold Tok.at
          cases hb : k1.blk with
          | none =>
            rw [hb] at h5
            obtain ⟨A', e1⟩ := h5
            have : m = 0 := by simpa using congrArg (fun v => match v with | .slice _ l _ => l | _ => 0) e1
            omega
          | some p =>
            obtain ⟨b, cap'⟩ := p
            rw [hb] at h5
            have e1 : ad = ⟨b, 0, none⟩ := by simpa using congrArg (fun v => match v with | .slice (some a) _ _ => a | _ => ad) h5
            simp only
            rw [e1, add_own, h4, Nat.add_zero]
      · cases h
    · split at h
      · rename_i es hes
        exact rdcase es hes h
      · cases h
  · cases h

theorem iaA_run {P : Program} {T e : TypeId} {len : Nat} {inf : TypeInfo} (hu : P.underlying T = some (.array len e)) (hi : P.info? e = some inf) {v : Value} {k : IntKind} {n : Int} {x r : D} (hv : V c v x)
    (hc : 0 ≤ n ∧ n < len) (h : ptrAdd (n.toNat * inf.size) x = some r) : ∃ u, (Instr.indexAt T v (.int k n)).run P w = .ok u w ∧ V c u r := by
  obtain ⟨ad, rfl, h2⟩ := ptrAdd_V hv h
  refine ⟨_, ?_, h2⟩
  simp only [Instr.indexAt, asIntOf, Sem.run_bind, Sem.run_pure, Result.andThen_ok, run_underlying hu, sureAddr_run, hc, and_self, if_true, sizeOf_run hi]

theorem bnd_run {P : Program} {n cap : Nat} {code : BoundsCode} {v : Value} {d : D} {dflt k : Nat} (hv : V c v d) (h : bnd n (some d) dflt = some k) (hcap : n ≤ cap) : (Instr.sliceBound v cap code).run P w = .ok k w ∧ k ≤ n := by
  cases d <;> simp only [bnd, reduceCtorEq] at h
  obtain rfl := hv.intInv
  split at h
  · rename_i hc
    obtain rfl := Option.some.inj h
    refine ⟨?_, by omega⟩
    rename_i kk i
    have hc' : 0 ≤ i ∧ i ≤ (cap : Int) := ⟨hc.1, by omega⟩
    simp only [Instr.sliceBound, asIntOf, Sem.run_bind, Sem.run_pure, Result.andThen_ok, hc', and_self, if_true]
  · cases h

theorem bnd_none {n dflt k : Nat} (h : bnd n none dflt = some k) : k = dflt := by simpa [bnd] using h.symm

/-- an optional operand and its reading -/
def OV (c : Cfg) : Option Value → Option D → Prop
  | none, none => True
  | some v, some d => V c v d
  | _, _ => False

theorem cOpt_isSome {x : Option Operand} {y : Option Opd} (h : cOpt x = some y) : x.isSome = y.isSome := by
  cases x with
  | none => simp only [cOpt, Option.some.injEq] at h; subst h; rfl
  | some x =>
    simp only [cOpt, Option.map_eq_some_iff] at h
    obtain ⟨z, h1, rfl⟩ := h
    rfl

theorem cOpt_OV (hg : GRel E c) (hf : FRel c a.tmps fr) {x : Option Operand} {y : Option Opd} (h : cOpt x = some y) : OV c (x.map a.eval) (y.map (ev E fr)) := by
  cases x with
  | none => simp only [cOpt, Option.some.injEq] at h; subst h; trivial
  | some x =>
    simp only [cOpt, Option.map_eq_some_iff] at h
    obtain ⟨z, h1, rfl⟩ := h
    exact eval_V hg hf h1

/-- the bounds of a slice without a third index -/
theorem bounds_run {P : Program} {isS : Bool} {len cap : Nat} {lo hi : Option Value} {dlo dhi : Option D} (hlo : OV c lo dlo) (hhi : OV c hi dhi) (hlc : len ≤ cap) {h l : Nat} (h1 : bnd len dhi len = some h) (h2 : bnd h dlo 0 = some l) :
    (Instr.sliceBounds isS len cap lo hi none).run P w = .ok (l, h, cap) w ∧ l ≤ h ∧ h ≤ len := by
  cases hi with
  | none =>
    cases dhi with
    | some d => exact hhi.elim
    | none =>
      obtain rfl := bnd_none h1
      cases lo with
      | none =>
        cases dlo with
        | some d => exact hlo.elim
        | none => obtain rfl := bnd_none h2; simp [Instr.sliceBounds]
      | some lo =>
        cases dlo with
        | none => exact hlo.elim
        | some d =>
          obtain ⟨k1, k2⟩ := bnd_run (P := P) (w := w) (code := .sliceB) hlo h2 (Nat.le_refl _)
          refine ⟨?_, k2, Nat.le_refl _⟩
          simp only [Instr.sliceBounds, Sem.run_bind, Sem.run_pure, Result.andThen_ok, Option.isSome_none, Bool.false_eq_true, if_false, k1]
  | some hi =>
    cases dhi with
    | none => exact hhi.elim
    | some d =>
      obtain ⟨k3, k4⟩ := bnd_run (P := P) (w := w) (code := if isS then .sliceAcap else .sliceAlen) hhi h1 hlc
      cases lo with
      | none =>
        cases dlo with
        | some d => exact hlo.elim
        | none =>
          obtain rfl := bnd_none h2
          refine ⟨?_, Nat.zero_le _, k4⟩
          simp only [Instr.sliceBounds, Sem.run_bind, Sem.run_pure, Result.andThen_ok, k3]
      | some lo =>
        cases dlo with
        | none => exact hlo.elim
        | some d =>
          obtain ⟨k1, k2⟩ := bnd_run (P := P) (w := w) (code := .sliceB) hlo h2 (Nat.le_refl _)
          refine ⟨?_, k2, k4⟩
          simp only [Instr.sliceBounds, Sem.run_bind, Sem.run_pure, Result.andThen_ok, Option.isSome_none, Bool.false_eq_true, if_false, k1, k3]

theorem bounds3_run {P : Program} {isS : Bool} {len cap : Nat} {lo hi : Option Value} {mx : Value} {dlo dhi : Option D} {dmx : D} (hlo : OV c lo dlo) (hhi : OV c hi dhi) (hmx : V c mx dmx) (hlc : len ≤ cap) {m h l : Nat} (h0 : bnd len (some dmx) 0 = some m)
    (hsome : hi.isSome = true) (h1 : bnd m dhi 0 = some h) (h2 : bnd h dlo 0 = some l) :
    (Instr.sliceBounds isS len cap lo hi (some mx)).run P w = .ok (l, h, m) w ∧ l ≤ h ∧ h ≤ m ∧ m ≤ len := by
  obtain ⟨k5, k6⟩ := bnd_run (P := P) (w := w) (code := if isS then .slice3Acap else .slice3Alen) hmx h0 hlc
  cases hi with
  | none => cases hsome
  | some hi =>
    cases dhi with
    | none => exact hhi.elim
    | some d =>
      obtain ⟨k3, k4⟩ := bnd_run (P := P) (w := w) (code := .slice3B) hhi h1 (Nat.le_refl _)
      cases lo with
      | none =>
        cases dlo with
        | some d => exact hlo.elim
        | none =>
          obtain rfl := bnd_none h2
          refine ⟨?_, Nat.zero_le _, k4, k6⟩
          simp only [Instr.sliceBounds, Sem.run_bind, Sem.run_pure, Result.andThen_ok, k3, k5]
      | some lo =>
        cases dlo with
        | none => exact hlo.elim
        | some d =>
          obtain ⟨k1, k2⟩ := bnd_run (P := P) (w := w) (code := .slice3C) hlo h2 (Nat.le_refl _)
          refine ⟨?_, k2, k4, k6⟩
          simp only [Instr.sliceBounds, Sem.run_bind, Sem.run_pure, Result.andThen_ok, Option.isSome_some, if_true, k1, k3, k5]

/-- a part of a slice that is read -/
theorem V.sub {c : Cfg} {A : Option Addr} {n cap : Nat} {es : List (List D)} (h : V c (.slice A n cap) (.sl es)) {sz l k m : Nat} (hsz : ∀ e ∈ es, e.length = sz) (hl : l ≤ k) (hk : k ≤ es.length) (hm : k ≤ m) (hmc : m ≤ cap) :
    V c (.slice (if m = l then A else A.map (·.add (l * sz))) (k - l) (m - l)) (.sl ((es.take k).drop l)) ∧ (k = m → V c (.slice (if m = l then A else A.map (·.add (l * sz))) (k - l) (m - l)) (.full ((es.take k).drop l))) := by
  have hlen : ((es.take k).drop l).length = k - l := by simp; omega
  by_cases he : k = l
  · subst he
    have hnil : (es.take k).drop k = [] := by simp
    rw [hnil, Nat.sub_self]
    cases h with
    | slnil =>
      have : k = 0 := by simpa using hk
      subst this
      have hm0 : m = 0 := by omega
      subst hm0; exact ⟨.slnil, fun _ => .fullnil⟩
    | sl a cap es sz' vs hcap hsz' hF hV =>
      refine ⟨?_, fun hkm => ?_⟩
      · split
        · exact .sl _ _ [] 0 (fun _ _ => undef) (by simp) (by simp) (by simp) (by simp)
        · exact .sl _ _ [] 0 (fun _ _ => undef) (by simp) (by simp) (by simp) (by simp)
      · subst hkm
        rw [if_pos rfl, Nat.sub_self]
        exact .full a [] 0 (fun _ _ => undef) (by simp) (by simp) (by simp)
  · cases h with
    | slnil => simp at hk; omega
    | sl a cap es sz' vs hcap hsz' hF hV =>
      rw [if_neg (by omega)]
      have hsame : sz' = sz := by
        have h0 : es[0]? = some (es[0]'(by omega)) := List.getElem?_eq_getElem _
        rw [← hsz' _ (List.mem_of_getElem? h0), hsz _ (List.mem_of_getElem? h0)]
      subst hsame
      have hget : ∀ i e, ((es.take k).drop l)[i]? = some e → es[l + i]? = some e := fun i e hi => by
        rw [List.getElem?_drop, List.getElem?_take] at hi
        split at hi
        · exact hi
        · cases hi
      have hF' : ∀ (i : Nat) (e : List D) (j : Nat) (d : D), ((es.take k).drop l)[i]? = some e → e[j]? = some d → c.F ((a.add (l * sz')).add (i * sz' + j)) = some (vs (l + i) j) := fun i e j d h1 h2 => by
        rw [add_add, ← Nat.add_assoc, ← Nat.add_mul]
        exact hF _ e j d (hget i e h1) h2
      have hV' : ∀ (i : Nat) (e : List D) (j : Nat) (d : D), ((es.take k).drop l)[i]? = some e → e[j]? = some d → V c (vs (l + i) j) d := fun i e j d h1 h2 => hV _ e j d (hget i e h1) h2
      have hs' : ∀ e ∈ (es.take k).drop l, e.length = sz' := fun e he => hsz e (List.mem_of_mem_take (List.mem_of_mem_drop he))
      refine ⟨?_, fun hkm => ?_⟩
      · have := V.sl (c := c) (a.add (l * sz')) (m - l) ((es.take k).drop l) sz' (fun i j => vs (l + i) j) (by omega) hs' hF' hV'
        rw [hlen] at this
        exact this
      · subst hkm
        have := V.full (c := c) (a.add (l * sz')) ((es.take k).drop l) sz' (fun i j => vs (l + i) j) hs' hF' hV'
        rw [hlen] at this
        exact this

end
end Go.KL
