/- The relation between a state of the logic and the world, and the steps of the world that keep it. -/
import Derived.Test.YtjjdfplonbgpbaaDoorKL0
import Derived.RangeFuncNested
set_option linter.unusedVariables false
set_option linter.unusedSimpArgs false
namespace Go.KL
open Go Go.RowKit

def get : List (Nat × D) → Nat → D
  | [], _ => .top
  | (t, d) :: r, i => if t = i then d else get r i

def FRel (c : Cfg) (tmps : Array Value) (fr : List (Nat × D)) : Prop := ∀ t, V c (tmps.getD t undef) (get fr t)

/-- kinds of keys -/
inductive KLf where
  | i (k : IntKind) | s | b
  deriving Inhabited, DecidableEq
inductive KT where
  | lf (k : KLf)
  | agg (l : List KLf)
  deriving Inhabited, DecidableEq
def lfOK : KLf → D → Bool
  | .i k, .int k' _ => decide (k = k')
  | .s, .str _ => true
  | .b, .bool _ => true
  | _, _ => false
def lfsOK : List KLf → List D → Bool
  | [], [] => true
  | k :: r, d :: l => lfOK k d && lfsOK r l
  | _, _ => false
def kOK : KT → D → Bool
  | .lf k, d => lfOK k d
  | .agg l, .agg ds => lfsOK l ds
  | _, _ => false
def lfB : D → D → Bool
  | .int _ a, .int _ b => decide (a = b)
  | .str a, .str b => decide (a = b)
  | .bool a, .bool b => a == b
  | _, _ => false
def lfsB : List D → List D → Bool
  | [], [] => true
  | a :: l, b :: r => lfB a b && lfsB l r
  | _, _ => false
def keyB : D → D → Bool
  | .agg l, .agg r => lfsB l r
  | a, b => lfB a b

theorem lfB_eq {k : KLf} {a b : D} (ha : lfOK k a = true) (hb : lfOK k b = true) : lfB a b = true ↔ a = b := by
  cases k <;> cases a <;> simp [lfOK] at ha <;> cases b <;> simp [lfOK] at hb <;> simp [lfB]
  · rw [← ha, ← hb]; simp
theorem lfsB_eq : ∀ {l : List KLf} {a b : List D}, lfsOK l a = true → lfsOK l b = true → (lfsB a b = true ↔ a = b)
  | [], [], [], _, _ => by simp [lfsB]
  | [], [], _ :: _, _, h => by simp [lfsOK] at h
  | [], _ :: _, _, h, _ => by simp [lfsOK] at h
  | _ :: _, [], _, h, _ => by simp [lfsOK] at h
  | _ :: _, _ :: _, [], _, h => by simp [lfsOK] at h
  | k :: l, x :: a, y :: b, h, h' => by
    simp only [lfsOK, Bool.and_eq_true] at h h'
    simp only [lfsB, Bool.and_eq_true, lfB_eq h.1 h'.1, lfsB_eq h.2 h'.2, List.cons.injEq]
theorem keyB_eq {kt : KT} {a b : D} (ha : kOK kt a = true) (hb : kOK kt b = true) : keyB a b = true ↔ a = b := by
  cases kt with
  | lf k =>
    simp only [kOK] at ha hb
    have h := lfB_eq ha hb
    cases k <;> cases a <;> simp [lfOK] at ha <;> cases b <;> simp [lfOK] at hb <;> exact h
  | agg l =>
    cases a <;> simp [kOK] at ha
    cases b <;> simp [kOK] at hb
    simp only [keyB, lfsB_eq ha hb, D.agg.injEq]

/-- a loop over a function: what stands fast in its record -/
structure LI where
  fn : FuncId
  nt : Nat
  ps : Array Tmp
  asg : Code
  bod : Code
  df : Nat

abbrev Kv := List (D × D × Nat)

/-- the first entry of a key -/
def mfind (kv : Kv) (k : D) : Option (D × D × Nat) := kv.find? fun p => keyB k p.1
def mget (z : D) (kv : Kv) (k : D) : D := match mfind kv k with
  | some p => p.2.1
  | none => z
def mrepl : Kv → D → D → Kv
  | [], _, _ => []
  | p :: r, k, v => if keyB k p.1 = true then (p.1, v, p.2.2) :: r else p :: mrepl r k v
def mset (kv : Kv) (clk : Nat) (k v : D) : Kv := match mfind kv k with
  | some _ => mrepl kv k v
  | none => kv ++ [(k, v, clk)]
def mclk (kv : Kv) (clk : Nat) (k : D) : Nat := match mfind kv k with
  | some _ => clk
  | none => clk + 1
def mdel (kv : Kv) (k : D) : Kv := kv.eraseP fun p => keyB k p.1
def ment (kv : Kv) (clk : Nat) (k z : D) : Kv := match mfind kv k with
  | some _ => kv
  | none => kv ++ [(k, z, clk)]
def mborn (kv : Kv) (clk : Nat) (k : D) : Nat := match mfind kv k with
  | some p => p.2.2
  | none => clk
def mstamp : Kv → Nat → D → Kv
  | [], _, _ => []
  | p :: r, n, v => if p.2.2 = n then (p.1, v, p.2.2) :: r else p :: mstamp r n v

inductive O where
  | arr (cs : List D)
  | map (kt : KT) (kv : Kv) (clk : Nat)
  | iter (mid since : Nat) (seen : List Nat) (last : Nat)
  | iter0
  | vec (es : List (List D)) (e : TypeId) (sz : Nat)
  | lp (L : LI) (fr : List (Nat × D)) (st : LoopState) (pend : Option Code)
  | dead
  deriving Inhabited

/-- an object of one block that stays where it is -/
def O.fixed : O → Bool
  | .vec _ _ _ | .dead => false
  | _ => true

def VecRel (c : Cfg) (w : World) (i : Nat) (es : List (List D)) (e : TypeId) (sz : Nat) : Prop :=
  ∃ k, c.ν i = some k ∧ k.len = es.length ∧ k.e = e ∧ k.sz = sz ∧ (∀ x ∈ es, x.length = sz) ∧ match k.blk with
    | none => es = []
    | some (b, cap) => (∃ cur, w.heap[b]? = some (.cells cur e (0, 0)) ∧ cur.size = cap * sz ∧ ∀ (j : Nat) v d, cur[j]? = some v → es.flatten[j]? = some d → V c v d ∧ v.oneCell' = true) ∧ es.length ≤ cap ∧ cap ≤ maxLen ∧ 0 < es.length

def ORelF (c : Cfg) (ob : Option Obj) : O → Prop
  | .arr cs => ∃ cur T, ob = some (.cells cur T (0, 0)) ∧ cs.length ≤ cur.size ∧ ∀ (j : Nat) (v : Value) (d : D), cur[j]? = some v → cs[j]? = some d → V c v d ∧ v.oneCell' = true
  | .map kt kv clk => ∃ (es : Array MapEntry), ob = some (.map es clk) ∧ es.size = kv.length ∧
      (∀ (j : Nat) (e : MapEntry) (p : D × D × Nat), es[j]? = some e → kv[j]? = some p → V c e.key p.1 ∧ V c e.val p.2.1 ∧ e.born = p.2.2) ∧ (∀ (j : Nat) (p : D × D × Nat), kv[j]? = some p → kOK kt p.1 = true)
  | .iter mid since seen last => mid < c.n ∧ c.ν mid = none ∧ ob = some (.mapIter (some (c.μ mid)) since seen.toArray last)
  | .iter0 => ob = some (.mapIter none 0 #[] 0)
  | .lp L fr st pend => ∃ tmps, ob = some (.loop { state := st, pending := pend, fn := L.fn, tmps := tmps, params := L.ps, assign := L.asg, body := L.bod, defers := L.df }) ∧ FRel c tmps fr ∧ tmps.size = L.nt
  | .vec _ _ _ => False
  | .dead => True

def ORel (c : Cfg) (w : World) (i : Nat) (o : O) : Prop := match o with
  | .vec es e sz => VecRel c w i es e sz
  | o => ORelF c (w.heap[c.μ i]?) o

theorem ORel.ofF {c : Cfg} {w : World} {i : Nat} {o : O} (h : ORelF c (w.heap[c.μ i]?) o) : ORel c w i o := by
  cases o <;> first | exact h | exact h.elim
theorem ORel.toF {c : Cfg} {w : World} {i : Nat} {o : O} (h : ORel c w i o) (hf : o.fixed = true) : ORelF c (w.heap[c.μ i]?) o := by
  cases o <;> first | exact h | (simp [O.fixed] at hf)

def TRel (B : Nat) (c : Cfg) (w : World) (t : Nat) (x : Nat × TypeId × Nat) : Prop :=
  (c.τ t).len = x.1 ∧ (c.τ t).e = x.2.1 ∧ (c.τ t).sz = x.2.2 ∧ match (c.τ t).blk with
    | none => x.1 = 0
    | some (b, cap) => B ≤ b ∧ (∃ cur, w.heap[b]? = some (.cells cur x.2.1 (0, 0)) ∧ cur.size = cap * x.2.2) ∧ x.1 ≤ cap ∧ cap ≤ maxLen ∧ 0 < x.1 ∧
        (∀ off spot, x.1 * x.2.2 ≤ off → c.F ⟨b, off, spot⟩ = none) ∧ ∀ i b', i < c.n → c.at i = some b' → b' ≠ b

structure RelS (B : Nat) (w0 : World) (c : Cfg) (S : List O) (tk : List (Nat × TypeId × Nat)) (w : World) : Prop where
  hB : B ≤ w0.heap.size
  below : Below B w0 w
  nS : c.n = S.length
  mT : c.m = tk.length
  holds : ∀ a v, c.F a = some v → w.cell? a = some v ∧ v.oneCell' = true
  inj : ∀ i j b, i < c.n → j < c.n → c.at i = some b → c.at j = some b → i = j
  base : ∀ i b, i < c.n → c.at i = some b → B ≤ b ∧ b < w.heap.size
  sep : ∀ (i : Nat) o, S[i]? = some o → o ≠ O.dead → ∀ b, c.at i = some b → ∀ a v, c.F a = some v → a.block ≠ b
  nu : ∀ (i : Nat) o, S[i]? = some o → o.fixed = true → c.ν i = none
  obj : ∀ (i : Nat) o, S[i]? = some o → ORel c w i o
  tok : ∀ (t : Nat) x, tk[t]? = some x → TRel B c w t x
  tinj : ∀ t t', t < c.m → t' < c.m → ∀ (b x y : Nat), (c.τ t).blk = some (b, x) → (c.τ t').blk = some (b, y) → t = t'
  dd : ∀ b, b ∈ c.dd → B ≤ b ∧ w.heap[b]? = some (.deferred (some []))

section
variable {B : Nat} {w0 : World} {c : Cfg} {S : List O} {tk : List (Nat × TypeId × Nat)} {w : World}

theorem RelS.hw (h : RelS B w0 c S tk w) : B ≤ w.heap.size := Nat.le_trans h.hB h.below.size
theorem RelS.lt (h : RelS B w0 c S tk w) {i : Nat} {o : O} (ho : S[i]? = some o) : i < c.n := by rw [h.nS]; exact (List.getElem?_eq_some_iff.1 ho).1
theorem RelS.atF (h : RelS B w0 c S tk w) {i : Nat} {o : O} (ho : S[i]? = some o) (hf : o.fixed = true) : c.at i = some (c.μ i) := Cfg.at_none (h.nu i o ho hf)
theorem RelS.objF (h : RelS B w0 c S tk w) {i : Nat} {o : O} (ho : S[i]? = some o) (hf : o.fixed = true) : ORelF c (w.heap[c.μ i]?) o := (h.obj i o ho).toF hf

theorem World.block_lt {w : World} {a : Addr} {v : Value} (h : w.cell? a = some v) : a.block < w.heap.size := World.block_lt_of_cell? w a h

theorem FRel.mono' {c c' : Cfg} (hc : c.Le c') {tmps : Array Value} {fr : List (Nat × D)} (h : FRel c tmps fr) : FRel c' tmps fr := fun t => (h t).mono hc

theorem ORelF.mono {c c' : Cfg} (hc : c.Le c') {ob : Option Obj} {o : O} (h : ORelF c ob o) : ORelF c' ob o := by
  cases o with
  | arr cs => obtain ⟨cur, T, h1, h2, h3⟩ := h; exact ⟨cur, T, h1, h2, fun j v d a b => ⟨(h3 j v d a b).1.mono hc, (h3 j v d a b).2⟩⟩
  | map kt kv clk => obtain ⟨es, h1, h2, h3, h4⟩ := h; exact ⟨es, h1, h2, fun j e p a b => ⟨(h3 j e p a b).1.mono hc, (h3 j e p a b).2.1.mono hc, (h3 j e p a b).2.2⟩, h4⟩
  | iter mid since seen last => obtain ⟨h1, h2, h3⟩ := h; exact ⟨Nat.lt_of_lt_of_le h1 hc.n, hc.ν0 h1 h2, by rw [hc.μ mid h1]; exact h3⟩
  | iter0 => exact h
  | lp L fr st pend => obtain ⟨tmps, h1, h2, h3⟩ := h; exact ⟨tmps, h1, h2.mono' hc, h3⟩
  | vec _ _ _ => exact h
  | dead => trivial

/-- the rows stay as they are -/
theorem ORel.mono {c c' : Cfg} (hc : c.Le c') {w : World} {i : Nat} {o : O} (hi : i < c.n) (hν : c'.ν i = c.ν i) (h : ORel c w i o) : ORel c' w i o := by
  cases o with
  | vec es e sz =>
    obtain ⟨k, h1, h2, h3, h4, h5, h6⟩ := h
    refine ⟨k, by rw [hν]; exact h1, h2, h3, h4, h5, ?_⟩
    cases hb : k.blk with
    | none => simpa [hb] using h6
    | some p =>
      obtain ⟨b, cap⟩ := p
      simp only [hb] at h6 ⊢
      obtain ⟨⟨cur, g1, g2, g3⟩, g4⟩ := h6
      exact ⟨⟨cur, g1, g2, fun j v d x y => ⟨(g3 j v d x y).1.mono hc, (g3 j v d x y).2⟩⟩, g4⟩
  | dead => trivial
  | arr _ | map _ _ _ | iter _ _ _ _ | iter0 | lp _ _ _ _ =>
    refine ORel.ofF ?_
    rw [hc.μ i hi]
    exact (ORel.toF h rfl).mono hc

/-- the world changes, but not where an object lies -/
theorem ORel.other {w w' : World} {i : Nat} {o : O} (h : ORel c w i o) (hb : ∀ b, c.at i = some b → w'.heap[b]? = w.heap[b]?) (hν : o.fixed = true → c.ν i = none) : ORel c w' i o := by
  cases o with
  | vec es e sz =>
    obtain ⟨k, h1, h2, h3, h4, h5, h6⟩ := h
    refine ⟨k, h1, h2, h3, h4, h5, ?_⟩
    cases hk : k.blk with
    | none => simpa [hk] using h6
    | some p =>
      obtain ⟨b, cap⟩ := p
      simp only [hk] at h6 ⊢
      obtain ⟨⟨cur, g1, g2, g3⟩, g4⟩ := h6
      exact ⟨⟨cur, by rw [hb b (by rw [Cfg.at_some h1, hk]; rfl)]; exact g1, g2, g3⟩, g4⟩
  | dead => trivial
  | arr _ | map _ _ _ | iter _ _ _ _ | iter0 | lp _ _ _ _ =>
    refine ORel.ofF ?_
    rw [hb _ (Cfg.at_none (hν rfl))]
    exact ORel.toF h rfl

theorem TRel.other {w w' : World} {t : Nat} {x : Nat × TypeId × Nat} (h : TRel B c w t x) (hb : ∀ b cap, (c.τ t).blk = some (b, cap) → w'.heap[b]? = w.heap[b]?) : TRel B c w' t x := by
  obtain ⟨h1, h1e, h1s, h2⟩ := h
  refine ⟨h1, h1e, h1s, ?_⟩
  cases hb' : (c.τ t).blk with
  | none => simpa [hb'] using h2
  | some p =>
    obtain ⟨b, cap⟩ := p
    simp only [hb'] at h2 ⊢
    rw [hb b cap hb']
    exact h2

/-- the world changes nowhere where the state looks -/
theorem RelS.same {w'} (h : RelS B w0 c S tk w) (hb : Below B w w') (hF : ∀ a v, c.F a = some v → w'.cell? a = some v)
    (hμ : ∀ i, i < c.n → ∀ b, c.at i = some b → w'.heap[b]? = w.heap[b]?) (hτ : ∀ t, t < c.m → ∀ (b x : Nat), (c.τ t).blk = some (b, x) → w'.heap[b]? = w.heap[b]?)
    (hdd : ∀ b, b ∈ c.dd → w'.heap[b]? = w.heap[b]?) : RelS B w0 c S tk w' where
  hB := h.hB
  below := h.below.trans hb
  nS := h.nS
  mT := h.mT
  holds := fun a v ha => ⟨hF a v ha, (h.holds a v ha).2⟩
  inj := h.inj
  base := fun i b hi ha => ⟨(h.base i b hi ha).1, Nat.lt_of_lt_of_le (h.base i b hi ha).2 hb.size⟩
  sep := h.sep
  nu := h.nu
  obj := fun i o ho => (h.obj i o ho).other (hμ i (h.lt ho)) (h.nu i o ho)
  tok := fun t x ht => (h.tok t x ht).other (fun b cap hx => hτ t (by rw [h.mT]; exact (List.getElem?_eq_some_iff.1 ht).1) b cap hx)
  tinj := h.tinj
  dd := fun b hb' => ⟨(h.dd b hb').1, by rw [hdd b hb']; exact (h.dd b hb').2⟩

theorem RelS.drew (h : RelS B w0 c S tk w) : RelS B w0 c S tk w.drew :=
  h.same ⟨rfl, rfl, rfl, Nat.le_refl _, fun _ _ => rfl⟩ (fun a v ha => (h.holds a v ha).1) (fun _ _ _ _ => rfl) (fun _ _ _ _ _ => rfl) (fun _ _ => rfl)

theorem RelS.drawn (h : RelS B w0 c S tk w) (n : Nat) : RelS B w0 c S tk { w with drawn := n } :=
  h.same ⟨rfl, rfl, rfl, Nat.le_refl _, fun _ _ => rfl⟩ (fun a v ha => (h.holds a v ha).1) (fun _ _ _ _ => rfl) (fun _ _ _ _ _ => rfl) (fun _ _ => rfl)

theorem RelS.tokblk (h : RelS B w0 c S tk w) {t : Nat} (ht : t < c.m) {b x : Nat} (hx : (c.τ t).blk = some (b, x)) :
    B ≤ b ∧ b < w.heap.size ∧ ∀ i b', i < c.n → c.at i = some b' → b' ≠ b := by
  obtain ⟨_, _, _, h2⟩ := h.tok t (tk[t]'(by rw [← h.mT]; exact ht)) (List.getElem?_eq_getElem _)
  simp only [hx] at h2
  obtain ⟨h1, ⟨cur, h2, _⟩, _, _, _, _, h7⟩ := h2
  exact ⟨h1, (Array.getElem?_eq_some_iff.1 h2).1, h7⟩
theorem RelS.ddlt (h : RelS B w0 c S tk w) {b : Nat} (hb : b ∈ c.dd) : b < w.heap.size := (Array.getElem?_eq_some_iff.1 (h.dd b hb).2).1

/-- a block that the state does not know of comes in -/
theorem RelS.junk (h : RelS B w0 c S tk w) (ob : Obj) : RelS B w0 c S tk (w.alloc ob) := by
  have hold : ∀ k, k < w.heap.size → (w.alloc ob).heap[k]? = w.heap[k]? := fun k hk => Below.heap_alloc w ob k hk
  refine h.same ((Below.refl _ _).alloc h.hw _) (fun a v ha => ?_) (fun i hi b ha => hold _ (h.base i b hi ha).2) (fun t ht b x hx => hold _ (h.tokblk ht hx).2.1) (fun b hb => hold _ (h.ddlt hb))
  exact (World.cell?_of_block (w := w) (w' := w.alloc ob) (hold _ (World.block_lt (h.holds a v ha).1))).trans (h.holds a v ha).1

theorem at_ext {c' : Cfg} {i : Nat} (hν : c'.ν i = c.ν i) (hμ : c'.μ i = c.μ i) : c'.at i = c.at i := by unfold Cfg.at; rw [hν, hμ]

/-- an object more, of whatever kind -/
theorem RelS.pushG (h : RelS B w0 c S tk w) (o : O) (x : Nat) (νo : Option Tok) {c' : Cfg} (hc : c' = { c with n := c.n + 1, μ := fun i => if i = c.n then x else c.μ i, ν := fun i => if i = c.n then νo else c.ν i })
    (hblk : ∀ b, c'.at c.n = some b → B ≤ b ∧ b < w.heap.size ∧ (∀ i b', i < c.n → c.at i = some b' → b' ≠ b) ∧ (∀ a v, c.F a = some v → a.block ≠ b) ∧ (∀ t b' y, t < c.m → (c.τ t).blk = some (b', y) → b' ≠ b))
    (hnu : o.fixed = true → νo = none) (ho : c.Le c' → ORel c' w c.n o) : c.Le c' ∧ RelS B w0 c' (S ++ [o]) tk w := by
  have hle : c.Le c' := by
    subst hc
    exact ⟨fun _ _ h => h, Nat.le_succ _, fun i hi => by simp only; rw [if_neg (by omega)], Nat.le_refl _, fun _ _ => .inl rfl, fun i hi => .inl (by simp only; rw [if_neg (by omega)]), fun _ h => h⟩
  have hn : c'.n = c.n + 1 := by rw [hc]
  have hF : c'.F = c.F := by rw [hc]
  have hτ : c'.τ = c.τ := by rw [hc]
  have hm : c'.m = c.m := by rw [hc]
  have hdd : c'.dd = c.dd := by rw [hc]
  have hν : ∀ i, i < c.n → c'.ν i = c.ν i := fun i hi => by rw [hc]; simp only; rw [if_neg (by omega)]
  have hat : ∀ i, i < c.n → c'.at i = c.at i := fun i hi => at_ext (hν i hi) (hle.μ i hi)
  have hs : ∀ {i : Nat} {o' : O}, (S ++ [o])[i]? = some o' → (i < c.n ∧ S[i]? = some o') ∨ (i = c.n ∧ o' = o) := fun {i o'} h' => by
    have hi : i < S.length + 1 := by simpa using (List.getElem?_eq_some_iff.1 h').1
    by_cases h2 : i < S.length
    · rw [List.getElem?_append_left h2] at h'; exact .inl ⟨by rw [h.nS]; exact h2, h'⟩
    · have : i = S.length := by omega
      subst this
      exact .inr ⟨h.nS.symm, by simpa using h'.symm⟩
  refine ⟨hle, h.hB, h.below, by rw [hn]; simp [h.nS], by rw [hm]; exact h.mT, by rw [hF]; exact h.holds, ?_, ?_, ?_, ?_, ?_, ?_, ?_, ?_⟩
  · intro i j b hi hj hbi hbj
    rw [hn] at hi hj
    by_cases h1 : i = c.n <;> by_cases h2 : j = c.n
    · omega
    · subst h1
      rw [hat j (by omega)] at hbj
      exact absurd rfl ((hblk b hbi).2.2.1 j b (by omega) hbj)
    · subst h2
      rw [hat i (by omega)] at hbi
      exact absurd rfl ((hblk b hbj).2.2.1 i b (by omega) hbi)
    · rw [hat i (by omega)] at hbi; rw [hat j (by omega)] at hbj
      exact h.inj i j b (by omega) (by omega) hbi hbj
  · intro i b hi hb
    rw [hn] at hi
    by_cases h1 : i = c.n
    · subst h1; exact ⟨(hblk b hb).1, (hblk b hb).2.1⟩
    · rw [hat i (by omega)] at hb; exact h.base i b (by omega) hb
  · intro i o' ho' hd b hb a v ha
    rw [hF] at ha
    rcases hs ho' with ⟨hi, h2⟩ | ⟨rfl, rfl⟩
    · rw [hat i hi] at hb; exact h.sep i o' h2 hd b hb a v ha
    · exact (hblk b hb).2.2.2.1 a v ha
  · intro i o' ho' hf
    rcases hs ho' with ⟨hi, h2⟩ | ⟨rfl, rfl⟩
    · rw [hν i hi]; exact h.nu i o' h2 hf
    · rw [hc]; simp only [if_true]; exact hnu hf
  · intro i o' ho'
    rcases hs ho' with ⟨hi, h2⟩ | ⟨rfl, rfl⟩
    · exact (h.obj i o' h2).mono hle hi (hν i hi)
    · exact ho hle
  · intro t y ht
    obtain ⟨h1, h1e, h1s, h2⟩ := h.tok t y ht
    have htm : t < c.m := by rw [h.mT]; exact (List.getElem?_eq_some_iff.1 ht).1
    unfold TRel
    rw [hτ, hF]
    refine ⟨h1, h1e, h1s, ?_⟩
    cases hb' : (c.τ t).blk with
    | none => simpa [hb'] using h2
    | some p =>
      obtain ⟨b, cap⟩ := p
      simp only [hb'] at h2 ⊢
      obtain ⟨g1, g2, g3, g4, g5, g6, g7⟩ := h2
      refine ⟨g1, g2, g3, g4, g5, g6, fun i b' hi hb2 => ?_⟩
      rw [hn] at hi
      by_cases h1 : i = c.n
      · subst h1; exact fun e => (hblk b' hb2).2.2.2.2 t b cap htm hb' e.symm
      · rw [hat i (by omega)] at hb2; exact g7 i b' (by omega) hb2
  · rw [hτ, hm]; exact h.tinj
  · rw [hdd]; exact h.dd

/-- a new object -/
theorem RelS.push (h : RelS B w0 c S tk w) (ob : Obj) (o : O) (hf : o.fixed = true) (ho : ∀ c', c.Le c' → ORelF c' (some ob) o) :
    ∃ c', c.Le c' ∧ c'.n = c.n + 1 ∧ c'.μ c.n = w.heap.size ∧ c'.ν c.n = none ∧ RelS B w0 c' (S ++ [o]) tk (w.alloc ob) := by
  have hj := h.junk ob
  have hlt : ∀ a v, c.F a = some v → a.block < w.heap.size := fun a v ha => World.block_lt (h.holds a v ha).1
  obtain ⟨hle, hr⟩ := hj.pushG o w.heap.size none rfl (fun b hb => by
    have : b = w.heap.size := by simpa [Cfg.at] using hb.symm
    subst this
    refine ⟨h.hw, by simp, fun i b' hi hb' => ?_, fun a v ha => ?_, fun t b' y ht hy => ?_⟩
    · have := (h.base i b' hi hb').2; omega
    · have := hlt a v ha; omega
    · have := (h.tokblk ht hy).2.1; omega) (fun _ => rfl) (fun hle => by
    refine ORel.ofF ?_
    simp only [if_true]
    rw [heap_alloc_new w ob]
    exact ho _ hle)
  exact ⟨_, hle, rfl, by simp, by simp, hr⟩

/-- an object is changed -/
theorem RelS.put (h : RelS B w0 c S tk w) {id : Nat} {o : O} (hd : S[id]? = some o) (hf : o.fixed = true) (o' : O) (hf' : o'.fixed = true) (w' : World)
    (hos : w'.os = w.os) (htape : w'.tape = w.tape) (hout : w'.output = w.output) (hsz : w'.heap.size = w.heap.size)
    (hnd : w.heap[c.μ id]? ≠ some (.deferred (some [])))
    (hother : ∀ k, k ≠ c.μ id → w'.heap[k]? = w.heap[k]?) (ho : ORelF c (w'.heap[c.μ id]?) o') : RelS B w0 c (S.set id o') tk w' := by
  have hid : id < c.n := h.lt hd
  have hat : c.at id = some (c.μ id) := h.atF hd hf
  have hne : o ≠ .dead := by rintro rfl; simp [O.fixed] at hf
  have hb : Below B w w' := ⟨hos, htape, hout, by omega, fun k hk => hother k (by have := (h.base id _ hid hat).1; omega)⟩
  refine ⟨h.hB, h.below.trans hb, by simp [h.nS], h.mT, fun a v ha => ?_, h.inj, fun i b hi ha => ⟨(h.base i b hi ha).1, by have := (h.base i b hi ha).2; omega⟩, ?_, ?_, ?_, ?_, h.tinj, ?_⟩
  · exact ⟨(World.cell?_of_block (w := w) (w' := w') (hother _ (h.sep id o hd hne _ hat a v ha))).trans (h.holds a v ha).1, (h.holds a v ha).2⟩
  · intro i o2 ho2 hnd2 b hb a v ha
    by_cases hi : i = id
    · subst hi; exact h.sep i o hd hne b hb a v ha
    · rw [List.getElem?_set_ne (by omega)] at ho2; exact h.sep i o2 ho2 hnd2 b hb a v ha
  · intro i o2 ho2 hf2
    by_cases hi : i = id
    · subst hi; exact h.nu i o hd hf
    · rw [List.getElem?_set_ne (by omega)] at ho2; exact h.nu i o2 ho2 hf2
  · intro i o2 ho2
    by_cases hi : i = id
    · subst hi
      rw [List.getElem?_set_self (by rw [← h.nS]; exact hid)] at ho2
      obtain rfl := Option.some.inj ho2
      exact ORel.ofF ho
    · rw [List.getElem?_set_ne (by omega)] at ho2
      exact (h.obj i o2 ho2).other (fun b hb => hother b (fun e => hi (h.inj i id b (h.lt ho2) hid hb (by rw [hat, e])))) (h.nu i o2 ho2)
  · intro t x ht
    have htm : t < c.m := by rw [h.mT]; exact (List.getElem?_eq_some_iff.1 ht).1
    exact (h.tok t x ht).other (fun b cap hx => hother b (fun e => (h.tokblk htm hx).2.2 id _ hid hat e.symm))
  · intro b hb
    refine ⟨(h.dd b hb).1, ?_⟩
    rw [hother b (fun e => by rw [← e] at hnd; exact hnd (h.dd b hb).2)]
    exact (h.dd b hb).2

/-- what an object mentions -/
def osc (n m : Nat) : O → Prop
  | .arr cs => scL n m cs = true
  | .map _ kv _ => ∀ (j : Nat) (p : D × D × Nat), kv[j]? = some p → p.1.sc n m = true ∧ p.2.1.sc n m = true
  | .iter mid _ _ _ => mid < n
  | .vec es _ _ => scLL n m es = true
  | .lp _ fr _ _ => ∀ t, (get fr t).sc n m = true
  | .iter0 | .dead => True

/-- what is known of the last objects and tokens is forgotten -/
theorem RelS.cut (h : RelS B w0 c S tk w) (n m : Nat) (hn : n ≤ S.length) (hm : m ≤ tk.length)
    (hsc : ∀ (i : Nat) o, i < n → S[i]? = some o → osc n m o) : RelS B w0 (c.cut n m) (S.take n) (tk.take m) w := by
  have hnS := h.nS
  have hmT := h.mT
  have hs : ∀ {i : Nat} {o : O}, (S.take n)[i]? = some o → i < n ∧ S[i]? = some o := fun {i o} ho => by
    have hi : i < n := by rw [List.getElem?_take] at ho; split at ho <;> simp_all
    rw [List.getElem?_take, if_pos hi] at ho
    exact ⟨hi, ho⟩
  refine ⟨h.hB, h.below, by simp [Cfg.cut, List.length_take]; omega, by simp [Cfg.cut, List.length_take]; omega, h.holds, fun i j b hi hj hbi hbj => ?_, fun i b hi hb => ?_, ?_, ?_, ?_, ?_, ?_, h.dd⟩
  · simp only [Cfg.cut] at hi hj; exact h.inj i j b (by omega) (by omega) hbi hbj
  · simp only [Cfg.cut] at hi; exact h.base i b (by omega) hb
  · intro i o ho; exact h.sep i o (hs ho).2
  · intro i o ho; exact h.nu i o (hs ho).2
  · intro i o ho
    obtain ⟨hi, ho⟩ := hs ho
    have h1 := h.obj i o ho
    have h2 := hsc i o hi ho
    cases o with
    | arr cs => obtain ⟨cur, T, a1, a2, a3⟩ := h1; exact ⟨cur, T, a1, a2, fun j v d x y => ⟨(a3 j v d x y).1.cut (scL_get h2 y), (a3 j v d x y).2⟩⟩
    | map kt kv clk => obtain ⟨es, a1, a2, a3, a4⟩ := h1; exact ⟨es, a1, a2, fun j e p x y => ⟨(a3 j e p x y).1.cut (h2 j p y).1, (a3 j e p x y).2.1.cut (h2 j p y).2, (a3 j e p x y).2.2⟩, a4⟩
    | iter mid since seen last => obtain ⟨a1, a2, a3⟩ := h1; exact ⟨h2, a2, a3⟩
    | iter0 => exact h1
    | lp L fr st pend => obtain ⟨tmps, a1, a2, a3⟩ := h1; exact ⟨tmps, a1, fun t => (a2 t).cut (h2 t), a3⟩
    | vec es e sz =>
      obtain ⟨k, a1, a2, a3, a4, a5, a6⟩ := h1
      refine ⟨k, a1, a2, a3, a4, a5, ?_⟩
      cases hk : k.blk with
      | none => simpa [hk] using a6
      | some p =>
        obtain ⟨b, cap⟩ := p
        simp only [hk] at a6 ⊢
        obtain ⟨⟨cur, g1, g2, g3⟩, g4⟩ := a6
        refine ⟨⟨cur, g1, g2, fun j v d x y => ⟨(g3 j v d x y).1.cut ?_, (g3 j v d x y).2⟩⟩, g4⟩
        have hm' := List.mem_of_getElem? y
        rw [List.mem_flatten] at hm'
        obtain ⟨l, hl, hd⟩ := hm'
        obtain ⟨i1, hi1⟩ := List.getElem?_of_mem hl
        obtain ⟨j1, hj1⟩ := List.getElem?_of_mem hd
        exact scL_get (scLL_get h2 hi1) hj1
    | dead => trivial
  · intro t len ht
    have hi : t < m := by rw [List.getElem?_take] at ht; split at ht <;> simp_all
    rw [List.getElem?_take, if_pos hi] at ht
    obtain ⟨h1, h1e, h1s, h2⟩ := h.tok t len ht
    refine ⟨h1, h1e, h1s, ?_⟩
    show match (c.τ t).blk with | none => _ | some (b, cap) => _
    cases hb' : (c.τ t).blk with
    | none => simpa [hb'] using h2
    | some p =>
      obtain ⟨b, cap⟩ := p
      simp only [hb'] at h2 ⊢
      obtain ⟨g1, g2, g3, g4, g5, g6, g7⟩ := h2
      exact ⟨g1, g2, g3, g4, g5, g6, fun i b' hi hb2 => g7 i b' (by simp only [Cfg.cut] at hi; omega) hb2⟩
  · intro t t' ht ht'; simp only [Cfg.cut] at ht ht'; exact h.tinj t t' (by omega) (by omega)

/-- a token for a slice that is to grow -/
theorem RelS.newtok (h : RelS B w0 c S tk w) (e : TypeId) (sz : Nat) : ∃ c', c.Le c' ∧ c'.m = c.m + 1 ∧ (∀ A, V c' (.slice A 0 0) (.gsl [] c.m)) ∧ RelS B w0 c' S (tk ++ [(0, e, sz)]) w := by
  let c' : Cfg := { c with m := c.m + 1, τ := fun t => if t = c.m then ⟨0, e, sz, none⟩ else c.τ t }
  have hle : c.Le c' := ⟨fun _ _ h => h, Nat.le_refl _, fun _ _ => rfl, Nat.le_succ _, fun t ht => .inl (by simp only [c']; rw [if_neg (by omega)]), fun _ _ => .inl rfl, fun _ h => h⟩
  have hτ : ∀ t, t < c.m → c'.τ t = c.τ t := fun t ht => by simp only [c']; rw [if_neg (by omega)]
  have hn : c'.τ c.m = ⟨0, e, sz, none⟩ := by simp [c']
  refine ⟨c', hle, rfl, fun A => .gsl0 A c.m (by simp [c']) (fun _ => by rw [hn]), h.hB, h.below, h.nS, by simp [c', h.mT], h.holds, h.inj, h.base, h.sep, h.nu, fun i o ho => (h.obj i o ho).mono hle (h.lt ho) rfl, ?_, ?_, h.dd⟩
  · intro t len ht
    have hi : t < tk.length + 1 := by simpa using (List.getElem?_eq_some_iff.1 ht).1
    by_cases h1 : t = c.m
    · subst h1
      rw [TRel, hn]
      have : len = (0, e, sz) := by rw [h.mT] at ht; simpa using ht.symm
      subst this
      exact ⟨rfl, rfl, rfl, rfl⟩
    · have h2 : t < c.m := by have := h.mT; omega
      rw [List.getElem?_append_left (by rw [← h.mT]; exact h2)] at ht
      have := h.tok t len ht
      rw [TRel, hτ t h2]
      exact this
  · intro t t' ht ht' b x y hx hy
    simp only [c'] at ht ht'
    by_cases h1 : t = c.m
    · subst h1; rw [hn] at hx; cases hx
    · by_cases h2 : t' = c.m
      · subst h2; rw [hn] at hy; cases hy
      · rw [hτ t (by omega)] at hx; rw [hτ t' (by omega)] at hy; exact h.tinj t t' (by omega) (by omega) b x y hx hy

/-- a growing row of the call's own -/
theorem RelS.newvec (h : RelS B w0 c S tk w) (e : TypeId) (sz : Nat) : ∃ c', c.Le c' ∧ c'.n = c.n + 1 ∧ (∀ A, V c' (.slice A 0 0) (.vec c.n 0 sz)) ∧ RelS B w0 c' (S ++ [.vec [] e sz]) tk w := by
  obtain ⟨hle, hr⟩ := h.pushG (.vec [] e sz) 0 (some ⟨0, e, sz, none⟩) rfl (fun b hb => by simp [Cfg.at] at hb) (fun h => by simp [O.fixed] at h) (fun _ => ⟨⟨0, e, sz, none⟩, by simp, rfl, rfl, rfl, by simp, rfl⟩)
  exact ⟨_, hle, rfl, fun A => .vec A 0 c.n 0 sz ⟨0, e, sz, none⟩ (by simp) (by simp) (by simp) (by simp) (.inr ⟨rfl, rfl, A, rfl⟩), hr⟩

end
end Go.KL
