/- The relation between a state of the logic and the world, and the steps of the world that keep it. -/
import Derived.Test.YtmijcaccgbhgdaaDoorKL0
namespace Go.KL
open Go Go.RowKit

inductive O where
  | arr (cs : List D)
  | map (kv : List (D × D))
  | dead
  deriving Inhabited

def ORel (c : Cfg) (ob : Option Obj) : O → Prop
  | .arr cs => ∃ cur T, ob = some (.cells cur T (0, 0)) ∧ cs.length ≤ cur.size ∧ ∀ (j : Nat) (v : Value) (d : D), cur[j]? = some v → cs[j]? = some d → V c v d ∧ v.oneCell' = true
  | .map kv => ∃ (es : Array MapEntry) (clock : Nat), ob = some (.map es clock) ∧ es.size = kv.length ∧
      (∀ (j : Nat) (e : MapEntry) (p : D × D), es[j]? = some e → kv[j]? = some p → V c e.key p.1 ∧ V c e.val p.2) ∧
      (∀ (i j : Nat) (x y : MapEntry), es[i]? = some x → es[j]? = some y → x.born = y.born → i = j) ∧ (∀ (j : Nat) (e : MapEntry), es[j]? = some e → e.born < clock)
  | .dead => True

def TRel (B : Nat) (c : Cfg) (w : World) (t : Nat) (x : Nat × TypeId × Nat) : Prop :=
  (c.τ t).len = x.1 ∧ (c.τ t).e = x.2.1 ∧ (c.τ t).sz = x.2.2 ∧ match (c.τ t).blk with
    | none => x.1 = 0
    | some (b, cap) => B ≤ b ∧ (∃ cur, w.heap[b]? = some (.cells cur x.2.1 (0, 0)) ∧ cur.size = cap * x.2.2) ∧ x.1 ≤ cap ∧ cap ≤ maxLen ∧ 0 < x.1 ∧
        (∀ off spot, x.1 * x.2.2 ≤ off → c.F ⟨b, off, spot⟩ = none) ∧ ∀ i, i < c.n → c.μ i ≠ b

structure RelS (B : Nat) (w0 : World) (c : Cfg) (S : List O) (tk : List (Nat × TypeId × Nat)) (w : World) : Prop where
  hB : B ≤ w0.heap.size
  below : Below B w0 w
  nS : c.n = S.length
  mT : c.m = tk.length
  holds : ∀ a v, c.F a = some v → w.cell? a = some v ∧ v.oneCell' = true
  inj : ∀ i j, i < c.n → j < c.n → c.μ i = c.μ j → i = j
  base : ∀ i, i < c.n → B ≤ c.μ i ∧ c.μ i < w.heap.size
  sep : ∀ (i : Nat) o, S[i]? = some o → o ≠ O.dead → ∀ a v, c.F a = some v → a.block ≠ c.μ i
  obj : ∀ (i : Nat) o, S[i]? = some o → ORel c (w.heap[c.μ i]?) o
  tok : ∀ (t : Nat) x, tk[t]? = some x → TRel B c w t x
  tinj : ∀ t t', t < c.m → t' < c.m → ∀ (b x y : Nat), (c.τ t).blk = some (b, x) → (c.τ t').blk = some (b, y) → t = t'

theorem RelS.hw {B w0 c S tk w} (h : RelS B w0 c S tk w) : B ≤ w.heap.size := Nat.le_trans h.hB h.below.size

theorem World.block_lt {w : World} {a : Addr} {v : Value} (h : w.cell? a = some v) : a.block < w.heap.size := World.block_lt_of_cell? w a h

theorem ORel.mono {c c' : Cfg} (hc : c.Le c') {ob : Option Obj} {o : O} (h : ORel c ob o) : ORel c' ob o := by
  cases o with
  | arr cs => obtain ⟨cur, T, h1, h2, h3⟩ := h; exact ⟨cur, T, h1, h2, fun j v d a b => ⟨(h3 j v d a b).1.mono hc, (h3 j v d a b).2⟩⟩
  | map kv => obtain ⟨es, cl, h1, h2, h3, h4⟩ := h; exact ⟨es, cl, h1, h2, fun j e p a b => ⟨(h3 j e p a b).1.mono hc, (h3 j e p a b).2.mono hc⟩, h4⟩
  | dead => trivial

/-- the world changes nowhere where the state looks -/
theorem RelS.same {B w0 c S tk w w'} (h : RelS B w0 c S tk w) (hb : Below B w w') (hF : ∀ a v, c.F a = some v → w'.cell? a = some v)
    (hμ : ∀ i, i < c.n → w'.heap[c.μ i]? = w.heap[c.μ i]?) (hτ : ∀ t, t < c.m → ∀ (b x : Nat), (c.τ t).blk = some (b, x) → w'.heap[b]? = w.heap[b]?) : RelS B w0 c S tk w' := by
  refine ⟨h.hB, h.below.trans hb, h.nS, h.mT, fun a v ha => ⟨hF a v ha, (h.holds a v ha).2⟩, h.inj, fun i hi => ⟨(h.base i hi).1, Nat.lt_of_lt_of_le (h.base i hi).2 hb.size⟩, h.sep, fun i o ho => ?_, fun t len ht => ?_, h.tinj⟩
  · rw [hμ i (by rw [h.nS]; exact (List.getElem?_eq_some_iff.1 ho).1)]; exact h.obj i o ho
  · obtain ⟨h1, h1e, h1s, h2⟩ := h.tok t len ht
    have htm : t < c.m := by rw [h.mT]; exact (List.getElem?_eq_some_iff.1 ht).1
    refine ⟨h1, h1e, h1s, ?_⟩
    cases hb' : (c.τ t).blk with
    | none => simpa [hb'] using h2
    | some p =>
      obtain ⟨b, cap⟩ := p
      simp only [hb'] at h2 ⊢
      rw [hτ t htm b _ hb']
      exact h2

theorem RelS.drew {B w0 c S tk w} (h : RelS B w0 c S tk w) : RelS B w0 c S tk w.drew :=
  h.same ⟨rfl, rfl, rfl, Nat.le_refl _, fun _ _ => rfl⟩ (fun a v ha => (h.holds a v ha).1) (fun _ _ => rfl) (fun _ _ _ _ _ => rfl)

theorem RelS.drawn {B w0 c S tk w} (h : RelS B w0 c S tk w) (n : Nat) : RelS B w0 c S tk { w with drawn := n } :=
  h.same ⟨rfl, rfl, rfl, Nat.le_refl _, fun _ _ => rfl⟩ (fun a v ha => (h.holds a v ha).1) (fun _ _ => rfl) (fun _ _ _ _ _ => rfl)

theorem RelS.tokblk {B w0 c S tk w} (h : RelS B w0 c S tk w) {t : Nat} (ht : t < c.m) {b x : Nat} (hx : (c.τ t).blk = some (b, x)) :
    B ≤ b ∧ b < w.heap.size ∧ ∀ i, i < c.n → c.μ i ≠ b := by
  obtain ⟨_, _, _, h2⟩ := h.tok t (tk[t]'(by rw [← h.mT]; exact ht)) (List.getElem?_eq_getElem _)
  simp only [hx] at h2
  obtain ⟨h1, ⟨cur, h2, _⟩, _, _, _, _, h7⟩ := h2
  exact ⟨h1, (Array.getElem?_eq_some_iff.1 h2).1, h7⟩

/-- a block that the state does not know of comes in -/
theorem RelS.junk {B w0 c S tk w} (h : RelS B w0 c S tk w) (ob : Obj) : RelS B w0 c S tk (w.alloc ob) := by
  have hold : ∀ k, k < w.heap.size → (w.alloc ob).heap[k]? = w.heap[k]? := fun k hk => Below.heap_alloc w ob k hk
  refine h.same ((Below.refl _ _).alloc h.hw _) (fun a v ha => ?_) (fun i hi => hold _ (h.base i hi).2) (fun t ht b x hx => hold _ (h.tokblk ht hx).2.1)
  exact (World.cell?_of_block (w := w) (w' := w.alloc ob) (hold _ (World.block_lt (h.holds a v ha).1))).trans (h.holds a v ha).1

/-- a new object -/
theorem RelS.push {B w0 c S tk w} (h : RelS B w0 c S tk w) (ob : Obj) (o : O) (ho : ∀ c', c.Le c' → ORel c' (some ob) o) :
    ∃ c', c.Le c' ∧ c'.n = c.n + 1 ∧ c'.μ c.n = w.heap.size ∧ RelS B w0 c' (S ++ [o]) tk (w.alloc ob) := by
  have hj := h.junk ob
  let c' : Cfg := { c with n := c.n + 1, μ := fun i => if i = c.n then w.heap.size else c.μ i }
  have hle : c.Le c' := ⟨fun _ _ h => h, Nat.le_succ _, fun i hi => by simp only [c']; rw [if_neg (by omega)], Nat.le_refl _, fun _ _ => .inl rfl⟩
  have hμ : ∀ i, i < c.n → c'.μ i = c.μ i := hle.μ
  have hn : c'.μ c.n = w.heap.size := by simp [c']
  have hF : ∀ a v, c'.F a = some v → a.block < w.heap.size := fun a v ha => World.block_lt (h.holds a v ha).1
  refine ⟨c', hle, rfl, hn, h.hB, hj.below, by simp [c', h.nS], h.mT, hj.holds, ?_, ?_, ?_, ?_, ?_, ?_⟩
  · intro i j hi hj' he
    simp only [c'] at hi hj'
    by_cases h1 : i = c.n <;> by_cases h2 : j = c.n
    · omega
    · subst h1; rw [hn, hμ j (by omega)] at he; have := (h.base j (by omega)).2; omega
    · subst h2; rw [hn, hμ i (by omega)] at he; have := (h.base i (by omega)).2; omega
    · rw [hμ i (by omega), hμ j (by omega)] at he; exact h.inj i j (by omega) (by omega) he
  · intro i hi
    simp only [c'] at hi
    by_cases h1 : i = c.n
    · subst h1; rw [hn]; exact ⟨h.hw, by simp⟩
    · rw [hμ i (by omega)]; exact hj.base i (by omega)
  · intro i o' ho' hd a v ha
    have hi : i < S.length + 1 := by simpa using (List.getElem?_eq_some_iff.1 ho').1
    by_cases h1 : i = c.n
    · subst h1; rw [hn]; have := hF a v ha; omega
    · have h2 : i < S.length := by have := h.nS; omega
      rw [List.getElem?_append_left h2] at ho'
      rw [hμ i (by have := h.nS; omega)]
      exact h.sep i o' ho' hd a v ha
  · intro i o' ho'
    have hi : i < S.length + 1 := by simpa using (List.getElem?_eq_some_iff.1 ho').1
    by_cases h1 : i = c.n
    · subst h1
      rw [hn, heap_alloc_new w ob]
      have : o' = o := by rw [h.nS] at ho'; simpa using ho'.symm
      subst this
      exact ho c' hle
    · have h2 : i < S.length := by have := h.nS; omega
      rw [List.getElem?_append_left h2] at ho'
      rw [hμ i (by have := h.nS; omega)]
      exact (hj.obj i o' ho').mono hle
  · intro t len ht
    obtain ⟨h1, h1e, h1s, h2⟩ := hj.tok t len ht
    refine ⟨h1, h1e, h1s, ?_⟩
    show match (c.τ t).blk with | none => _ | some (b, cap) => _
    cases hb' : (c.τ t).blk with
    | none => simpa [hb'] using h2
    | some p =>
      obtain ⟨b, cap⟩ := p
      have htm : t < c.m := by rw [h.mT]; exact (List.getElem?_eq_some_iff.1 ht).1
      simp only [hb'] at h2 ⊢
      obtain ⟨g1, g2, g3, g4, g5, g6, g7⟩ := h2
      refine ⟨g1, g2, g3, g4, g5, g6, fun i hi => ?_⟩
      simp only [c'] at hi
      by_cases h1 : i = c.n
      · subst h1; rw [hn]; have := (h.tokblk htm hb').2.1; omega
      · rw [hμ i (by omega)]; exact g7 i (by omega)
  · exact h.tinj

/-- an object is changed -/
theorem RelS.put {B w0 c S tk w} (h : RelS B w0 c S tk w) {id : Nat} {o : O} (hd : S[id]? = some o) (hnd : o ≠ .dead) (o' : O) (w' : World)
    (hos : w'.os = w.os) (htape : w'.tape = w.tape) (hout : w'.output = w.output) (hsz : w'.heap.size = w.heap.size)
    (hother : ∀ k, k ≠ c.μ id → w'.heap[k]? = w.heap[k]?) (ho : ORel c (w'.heap[c.μ id]?) o') : RelS B w0 c (S.set id o') tk w' := by
  have hid : id < c.n := by rw [h.nS]; exact (List.getElem?_eq_some_iff.1 hd).1
  have hb : Below B w w' := ⟨hos, htape, hout, by omega, fun k hk => hother k (by have := (h.base id hid).1; omega)⟩
  refine ⟨h.hB, h.below.trans hb, by simp [h.nS], h.mT, fun a v ha => ?_, h.inj, fun i hi => ⟨(h.base i hi).1, by have := (h.base i hi).2; omega⟩, ?_, ?_, ?_, h.tinj⟩
  · exact ⟨(World.cell?_of_block (w := w) (w' := w') (hother _ (h.sep id o hd hnd a v ha))).trans (h.holds a v ha).1, (h.holds a v ha).2⟩
  · intro i o2 ho2 hnd2 a v ha
    by_cases hi : i = id
    · subst hi; exact h.sep i o hd hnd a v ha
    · rw [List.getElem?_set_ne (by omega)] at ho2; exact h.sep i o2 ho2 hnd2 a v ha
  · intro i o2 ho2
    by_cases hi : i = id
    · subst hi
      rw [List.getElem?_set_self (by rw [← h.nS]; exact hid)] at ho2
      obtain rfl := Option.some.inj ho2
      exact ho
    · rw [List.getElem?_set_ne (by omega)] at ho2
      have hin : i < c.n := by rw [h.nS]; exact (List.getElem?_eq_some_iff.1 ho2).1
      rw [hother _ (fun e => hi (h.inj i id hin hid e))]
      exact h.obj i o2 ho2
  · intro t len ht
    obtain ⟨h1, h1e, h1s, h2⟩ := h.tok t len ht
    have htm : t < c.m := by rw [h.mT]; exact (List.getElem?_eq_some_iff.1 ht).1
    refine ⟨h1, h1e, h1s, ?_⟩
    cases hb' : (c.τ t).blk with
    | none => simpa [hb'] using h2
    | some p =>
      obtain ⟨b, cap⟩ := p
      simp only [hb'] at h2 ⊢
      rw [hother b (fun e => (h.tokblk htm hb').2.2 id hid e.symm)]
      exact h2

/-- what is known of the last objects and tokens is forgotten -/
theorem RelS.cut {B w0 c S tk w} (h : RelS B w0 c S tk w) (n m : Nat) (hn : n ≤ S.length) (hm : m ≤ tk.length)
    (hsc : ∀ (i : Nat) o, i < n → S[i]? = some o → (match o with | .arr cs => scL n m cs = true | .map kv => ∀ (j : Nat) (p : D × D), kv[j]? = some p → p.1.sc n m = true ∧ p.2.sc n m = true | .dead => True)) :
    RelS B w0 (c.cut n m) (S.take n) (tk.take m) w := by
  have hnS := h.nS
  have hmT := h.mT
  refine ⟨h.hB, h.below, by simp [Cfg.cut, List.length_take]; omega, by simp [Cfg.cut, List.length_take]; omega, h.holds, fun i j hi hj => ?_, fun i hi => ?_, ?_, ?_, ?_, ?_⟩
  · simp only [Cfg.cut] at hi hj; exact h.inj i j (by omega) (by omega)
  · simp only [Cfg.cut] at hi; exact h.base i (by omega)
  · intro i o ho; exact h.sep i o (by rw [List.getElem?_take] at ho; split at ho <;> simp_all)
  · intro i o ho
    have hi : i < n := by rw [List.getElem?_take] at ho; split at ho <;> simp_all
    rw [List.getElem?_take, if_pos hi] at ho
    have h1 := h.obj i o ho
    have h2 := hsc i o hi ho
    cases o with
    | arr cs => obtain ⟨cur, T, a1, a2, a3⟩ := h1; exact ⟨cur, T, a1, a2, fun j v d x y => ⟨(a3 j v d x y).1.cut (scL_get h2 y), (a3 j v d x y).2⟩⟩
    | map kv => obtain ⟨es, cl, a1, a2, a3, a4⟩ := h1; exact ⟨es, cl, a1, a2, fun j e p x y => ⟨(a3 j e p x y).1.cut (h2 j p y).1, (a3 j e p x y).2.cut (h2 j p y).2⟩, a4⟩
    | dead => trivial
  · intro t len ht
    have hi : t < m := by rw [List.getElem?_take] at ht; split at ht <;> simp_all
    rw [List.getElem?_take, if_pos hi] at ht
    obtain ⟨h1, h1e, h1s, h2⟩ := h.tok t len ht
    refine ⟨h1, h1e, h1s, ?_⟩
    show match (c.τ t).blk with | none => _ | some (b, cap) => _
    cases hb' : (c.τ t).blk with
    | none => simpa [hb'] using h2
    | some p =>
      obtain ⟨b, cap⟩ := p
      simp only [hb'] at h2 ⊢
      obtain ⟨g1, g2, g3, g4, g5, g6, g7⟩ := h2
      exact ⟨g1, g2, g3, g4, g5, g6, fun i hi => g7 i (by simp only [Cfg.cut] at hi; omega)⟩
  · intro t t' ht ht'; simp only [Cfg.cut] at ht ht'; exact h.tinj t t' (by omega) (by omega)

/-- a token for a slice that is to grow -/
theorem RelS.newtok {B w0 c S tk w} (h : RelS B w0 c S tk w) (e : TypeId) (sz : Nat) : ∃ c', c.Le c' ∧ c'.m = c.m + 1 ∧ (∀ A, V c' (.slice A 0 0) (.gsl [] c.m)) ∧ RelS B w0 c' S (tk ++ [(0, e, sz)]) w := by
  let c' : Cfg := { c with m := c.m + 1, τ := fun t => if t = c.m then ⟨0, e, sz, none⟩ else c.τ t }
  have hle : c.Le c' := ⟨fun _ _ h => h, Nat.le_refl _, fun _ _ => rfl, Nat.le_succ _, fun t ht => .inl (by simp only [c']; rw [if_neg (by omega)])⟩
  have hτ : ∀ t, t < c.m → c'.τ t = c.τ t := fun t ht => by simp only [c']; rw [if_neg (by omega)]
  have hn : c'.τ c.m = ⟨0, e, sz, none⟩ := by simp [c']
  refine ⟨c', hle, rfl, fun A => .gsl0 A c.m (by simp [c']) (fun _ => by rw [hn]), h.hB, h.below, h.nS, by simp [c', h.mT], h.holds, h.inj, h.base, h.sep, fun i o ho => (h.obj i o ho).mono hle, ?_, ?_⟩
  · intro t len ht
    have hi : t < tk.length + 1 := by simpa using (List.getElem?_eq_some_iff.1 ht).1
    by_cases h1 : t = c.m
    · subst h1
      rw [TRel, hn]
      have : len = (0, e, sz) := by rw [h.mT] at ht; simpa using ht.symm
      subst this
      exact ⟨rfl, rfl, rfl, rfl⟩
    · have h2 : t < c.m := by have := h.mT; omega
      rw [List.getElem?_append_left (by rw [← h.mT]; exact h2)] at ht
      have := h.tok t len ht
      rw [TRel, hτ t h2]
      exact this
  · intro t t' ht ht' b x y hx hy
    simp only [c'] at ht ht'
    by_cases h1 : t = c.m
    · subst h1; rw [hn] at hx; cases hx
    · by_cases h2 : t' = c.m
      · subst h2; rw [hn] at hy; cases hy
      · rw [hτ t (by omega)] at hx; rw [hτ t' (by omega)] at hy; exact h.tinj t t' (by omega) (by omega) b x y hx hy

end Go.KL
