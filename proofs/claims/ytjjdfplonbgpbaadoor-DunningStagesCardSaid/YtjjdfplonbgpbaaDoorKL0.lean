/- The values, the configuration and the relation of a small program logic over the kit's Code.wp: abstract values without addresses (a slice is a list of lists of cells), a store of the call's own objects. -/
import Derived.WalkKit
import Derived.KernelRfl
import Derived.Below
import Derived.Deep.Draws
import Derived.Laws.OwnMore
import Derived.Maps.AppendAt
import Derived.Orders
import Derived.WideLaws
namespace Go.KL
open Go Go.RowKit

inductive D where
  | int (k : IntKind) (n : Int)
  | bool (b : Bool)
  | str (s : ByteArray)
  | agg (l : List D)
  | tup (l : List D)
  | sl (es : List (List D))
  | nilsl
  | full (es : List (List D))
  | gsl (es : List (List D)) (t : Nat)
  | osl (id off n sz : Nat)
  | pe (e : List D) (off : Nat)
  | po (id off : Nat)
  | nilp
  | fn (f : FuncId) (caps : List D)
  | nilfn
  | map (id : Nat)
  | nilmap
  | vec (id n sz : Nat)
  | pv (id n i j : Nat)
  | yld (id : Nat)
  | bm (f : FuncId) (first caps : List D)
  | und
  | top
  deriving Inhabited

/-- what a cell may hold, and a store may write -/
def D.leaf : D → Bool
  | .agg _ | .tup _ | .top | .und => false
  | _ => true

def D.cs : D → List D
  | .agg l => l
  | d => [d]

structure Tok where
  len : Nat
  e : TypeId
  sz : Nat
  blk : Option (Nat × Nat)   -- block, capacity

structure Cfg where
  F : Addr → Option Value
  n : Nat
  μ : Nat → Nat
  m : Nat
  τ : Nat → Tok
  /-- objects that are growing rows of the call's own -/
  ν : Nat → Option Tok
  /-- blocks for the deferred calls of rounds -/
  dd : List Nat

/-- the slice that a growing row is, as it stands -/
def Tok.is (k : Tok) (v : Value) : Prop := match k.blk with
  | none => ∃ A, v = .slice A 0 0
  | some (b, cap) => v = .slice (some ⟨b, 0, none⟩) k.len cap
def Tok.at (k : Tok) (off : Nat) (v : Value) : Prop := match k.blk with
  | none => False
  | some (b, _) => v = .pointer (some ⟨b, off, none⟩)

/-- an object's block -/
def Cfg.at (c : Cfg) (i : Nat) : Option Nat := match c.ν i with
  | none => some (c.μ i)
  | some k => k.blk.map (·.1)
theorem Cfg.at_none {c : Cfg} {i : Nat} (h : c.ν i = none) : c.at i = some (c.μ i) := by simp only [Cfg.at, h]
theorem Cfg.at_some {c : Cfg} {i : Nat} {k : Tok} (h : c.ν i = some k) : c.at i = k.blk.map (·.1) := by simp only [Cfg.at, h]

inductive V (c : Cfg) : Value → D → Prop
  | top (v) : V c v .top
  | und : V c undef .und
  | int (k n) : V c (.int k n) (.int k n)
  | bool (b) : V c (.bool b) (.bool b)
  | str (s) : V c (.string s) (.str s)
  | agg (cs : Array Value) (l : List D) (hn : cs.size = l.length) (h : ∀ (j : Nat) (v : Value) (d : D), cs[j]? = some v → l[j]? = some d → V c v d) : V c (.agg cs) (.agg l)
  | tup (cs : Array Value) (l : List D) (hn : cs.size = l.length) (h : ∀ (j : Nat) (v : Value) (d : D), cs[j]? = some v → l[j]? = some d → V c v d) : V c (.tuple cs) (.tup l)
  | nilsl : V c (.slice none 0 0) .nilsl
  | slnil : V c (.slice none 0 0) (.sl [])
  | sl (a : Addr) (cap : Nat) (es : List (List D)) (sz : Nat) (vs : Nat → Nat → Value) (hcap : es.length ≤ cap) (hsz : ∀ e ∈ es, e.length = sz)
      (hF : ∀ (i : Nat) (e : List D) (j : Nat) (d : D), es[i]? = some e → e[j]? = some d → c.F (a.add (i * sz + j)) = some (vs i j))
      (hV : ∀ (i : Nat) (e : List D) (j : Nat) (d : D), es[i]? = some e → e[j]? = some d → V c (vs i j) d) : V c (.slice (some a) es.length cap) (.sl es)
  | fullnil : V c (.slice none 0 0) (.full [])
  | full (a : Addr) (es : List (List D)) (sz : Nat) (vs : Nat → Nat → Value) (hsz : ∀ e ∈ es, e.length = sz)
      (hF : ∀ (i : Nat) (e : List D) (j : Nat) (d : D), es[i]? = some e → e[j]? = some d → c.F (a.add (i * sz + j)) = some (vs i j))
      (hV : ∀ (i : Nat) (e : List D) (j : Nat) (d : D), es[i]? = some e → e[j]? = some d → V c (vs i j) d) : V c (.slice (some a) es.length es.length) (.full es)
  | gsl0 (A : Option Addr) (t : Nat) (ht : t < c.m) (h0 : (c.τ t).len = 0 → (c.τ t).blk = none) : V c (.slice A 0 0) (.gsl [] t)
  | gsl (b cap : Nat) (es : List (List D)) (t sz : Nat) (vs : Nat → Nat → Value) (ht : t < c.m) (h0 : 0 < es.length) (hcap : es.length ≤ cap)
      (hle : es.length ≤ (c.τ t).len) (hcur : es.length = (c.τ t).len → (c.τ t).blk = some (b, cap) ∧ (c.τ t).sz = sz) (hsz : ∀ e ∈ es, e.length = sz)
      (hF : ∀ (i : Nat) (e : List D) (j : Nat) (d : D), es[i]? = some e → e[j]? = some d → c.F ((⟨b, 0, none⟩ : Addr).add (i * sz + j)) = some (vs i j))
      (hV : ∀ (i : Nat) (e : List D) (j : Nat) (d : D), es[i]? = some e → e[j]? = some d → V c (vs i j) d) : V c (.slice (some ⟨b, 0, none⟩) es.length cap) (.gsl es t)
  | osl (id off n sz cap : Nat) (hid : id < c.n) (hν : c.ν id = none) (hcap : n ≤ cap) : V c (.slice (some ⟨c.μ id, off, none⟩) n cap) (.osl id off n sz)
  | pe (a : Addr) (e : List D) (off : Nat) (vs : Nat → Value) (hF : ∀ (j : Nat) (d : D), e[j]? = some d → c.F (a.add j) = some (vs j))
      (hV : ∀ (j : Nat) (d : D), e[j]? = some d → V c (vs j) d) : V c (.pointer (some (a.add off))) (.pe e off)
  | po (id off : Nat) (hid : id < c.n) (hν : c.ν id = none) : V c (.pointer (some ⟨c.μ id, off, none⟩)) (.po id off)
  | nilp : V c (.pointer none) .nilp
  | fn (f : FuncId) (cs : Array Value) (l : List D) (hn : cs.size = l.length) (h : ∀ (j : Nat) (v : Value) (d : D), cs[j]? = some v → l[j]? = some d → V c v d) : V c (.func (.func f) #[] cs) (.fn f l)
  | nilfn : V c .nilFunc .nilfn
  | map (id : Nat) (hid : id < c.n) (hν : c.ν id = none) : V c (.map (some (c.μ id))) (.map id)
  | nilmap : V c (.map none) .nilmap
  | vec (A : Option Addr) (cap : Nat) (id n sz : Nat) (k : Tok) (hid : id < c.n) (hk : c.ν id = some k) (h0 : 0 < n → A.isSome = true) (hcap : n ≤ cap)
      (h : n < k.len ∨ (n = k.len ∧ k.sz = sz ∧ k.is (.slice A n cap))) : V c (.slice A n cap) (.vec id n sz)
  | pv (A : Addr) (id n i j : Nat) (k : Tok) (hid : id < c.n) (hk : c.ν id = some k) (h : n < k.len ∨ (n = k.len ∧ k.at (i * k.sz + j) (.pointer (some A)))) : V c (.pointer (some A)) (.pv id n i j)
  | yld (id : Nat) (hid : id < c.n) (hν : c.ν id = none) : V c (.func (.yield (c.μ id)) #[] #[]) (.yld id)
  | bm (f : FuncId) (fs cs : Array Value) (lf l : List D) (hnf : fs.size = lf.length) (hf : ∀ (j : Nat) (v : Value) (d : D), fs[j]? = some v → lf[j]? = some d → V c v d)
      (hn : cs.size = l.length) (h : ∀ (j : Nat) (v : Value) (d : D), cs[j]? = some v → l[j]? = some d → V c v d) : V c (.func (.func f) fs cs) (.bm f lf l)

/-- configurations grow -/
structure Cfg.Le (c c' : Cfg) : Prop where
  F : ∀ a v, c.F a = some v → c'.F a = some v
  n : c.n ≤ c'.n
  μ : ∀ i, i < c.n → c'.μ i = c.μ i
  m : c.m ≤ c'.m
  τ : ∀ t, t < c.m → c'.τ t = c.τ t ∨ (c.τ t).len < (c'.τ t).len
  ν : ∀ i, i < c.n → c'.ν i = c.ν i ∨ ∃ k k', c.ν i = some k ∧ c'.ν i = some k' ∧ k.len < k'.len
  dd : ∀ b, b ∈ c.dd → b ∈ c'.dd

theorem Cfg.Le.ν0 {c c' : Cfg} (h : c.Le c') {i : Nat} (hi : i < c.n) (h0 : c.ν i = none) : c'.ν i = none := by
  rcases h.ν i hi with e | ⟨k, k', e, _⟩
  · rw [e]; exact h0
  · rw [h0] at e; cases e
theorem Cfg.Le.ν1 {c c' : Cfg} (h : c.Le c') {i : Nat} (hi : i < c.n) {k : Tok} (h0 : c.ν i = some k) : ∃ k', c'.ν i = some k' ∧ (k' = k ∨ k.len < k'.len) := by
  rcases h.ν i hi with e | ⟨k1, k', e, e', hl⟩
  · exact ⟨k, by rw [e]; exact h0, .inl rfl⟩
  · rw [h0] at e; obtain rfl := Option.some.inj e; exact ⟨k', e', .inr hl⟩

theorem Cfg.Le.refl (c : Cfg) : c.Le c := ⟨fun _ _ h => h, Nat.le_refl _, fun _ _ => rfl, Nat.le_refl _, fun _ _ => .inl rfl, fun _ _ => .inl rfl, fun _ h => h⟩
theorem Cfg.Le.trans {a b c : Cfg} (h : a.Le b) (k : b.Le c) : a.Le c :=
  ⟨fun x v hx => k.F x v (h.F x v hx), Nat.le_trans h.n k.n, fun i hi => (k.μ i (Nat.lt_of_lt_of_le hi h.n)).trans (h.μ i hi), Nat.le_trans h.m k.m, fun t ht => by
    rcases h.τ t ht with e | e <;> rcases k.τ t (Nat.lt_of_lt_of_le ht h.m) with e' | e'
    · exact .inl (e'.trans e)
    · exact .inr (by rw [← e]; exact e')
    · exact .inr (by rw [e']; exact e)
    · exact .inr (Nat.lt_trans e e'), fun i hi => by
    rcases h.ν i hi with e | ⟨x, y, e1, e2, e3⟩ <;> rcases k.ν i (Nat.lt_of_lt_of_le hi h.n) with e' | ⟨x', y', f1, f2, f3⟩
    · exact .inl (e'.trans e)
    · exact .inr ⟨x', y', by rw [← e]; exact f1, f2, f3⟩
    · exact .inr ⟨x, y, e1, by rw [e']; exact e2, e3⟩
    · rw [e2] at f1; obtain rfl := Option.some.inj f1
      exact .inr ⟨x, y', e1, f2, Nat.lt_trans e3 f3⟩, fun b hb => k.dd b (h.dd b hb)⟩

theorem V.mono {c c' : Cfg} (hc : c.Le c') {v : Value} {d : D} (h : V c v d) : V c' v d := by
  induction h with
  | top v => exact .top v
  | und => exact .und
  | int k n => exact .int k n
  | bool b => exact .bool b
  | str s => exact .str s
  | agg cs l hn _ ih => exact .agg cs l hn ih
  | tup cs l hn _ ih => exact .tup cs l hn ih
  | nilsl => exact .nilsl
  | slnil => exact .slnil
  | sl a cap es sz vs hcap hsz hF _ ih => exact .sl a cap es sz vs hcap hsz (fun i e j d h1 h2 => hc.F _ _ (hF i e j d h1 h2)) ih
  | fullnil => exact .fullnil
  | full a es sz vs hsz hF _ ih => exact .full a es sz vs hsz (fun i e j d h1 h2 => hc.F _ _ (hF i e j d h1 h2)) ih
  | gsl0 A t ht h0 =>
    refine .gsl0 A t (Nat.lt_of_lt_of_le ht hc.m) (fun h => ?_)
    rcases hc.τ t ht with e | e
    · rw [e] at h ⊢; exact h0 h
    · omega
  | gsl b cap es t sz vs ht h0 hcap hle hcur hsz hF _ ih =>
    refine .gsl b cap es t sz vs (Nat.lt_of_lt_of_le ht hc.m) h0 hcap ?_ (fun h => ?_) hsz (fun i e j d h1 h2 => hc.F _ _ (hF i e j d h1 h2)) ih
    · rcases hc.τ t ht with e | e
      · rw [e]; exact hle
      · omega
    · rcases hc.τ t ht with e | e
      · rw [e] at h ⊢; exact hcur h
      · omega
  | osl id off n sz cap hid hν hcap => rw [← hc.μ id hid]; exact .osl id off n sz cap (Nat.lt_of_lt_of_le hid hc.n) (hc.ν0 hid hν) hcap
  | pe a e off vs hF _ ih => exact .pe a e off vs (fun j d h => hc.F _ _ (hF j d h)) ih
  | po id off hid hν => rw [← hc.μ id hid]; exact .po id off (Nat.lt_of_lt_of_le hid hc.n) (hc.ν0 hid hν)
  | nilp => exact .nilp
  | fn f cs l hn _ ih => exact .fn f cs l hn ih
  | nilfn => exact .nilfn
  | map id hid hν => rw [← hc.μ id hid]; exact .map id (Nat.lt_of_lt_of_le hid hc.n) (hc.ν0 hid hν)
  | nilmap => exact .nilmap
  | vec A cap id n sz k hid hk h0 hcap h =>
    obtain ⟨k', h1, h2⟩ := hc.ν1 hid hk
    refine .vec A cap id n sz k' (Nat.lt_of_lt_of_le hid hc.n) h1 h0 hcap ?_
    rcases h2 with rfl | h2
    · exact h
    · left; omega
  | pv A id n i j k hid hk h =>
    obtain ⟨k', h1, h2⟩ := hc.ν1 hid hk
    refine .pv A id n i j k' (Nat.lt_of_lt_of_le hid hc.n) h1 ?_
    rcases h2 with rfl | h2
    · exact h
    · left; omega
  | yld id hid hν => rw [← hc.μ id hid]; exact .yld id (Nat.lt_of_lt_of_le hid hc.n) (hc.ν0 hid hν)
  | bm f fs cs lf l hnf _ hn _ ihf ih => exact .bm f fs cs lf l hnf ihf hn ih

-- no reference to an object from n on, nor to a token from m on
mutual
def D.sc (n m : Nat) : D → Bool
  | .agg l | .tup l | .fn _ l => scL n m l
  | .sl es | .full es => scLL n m es
  | .gsl es t => decide (t < m) && scLL n m es
  | .osl id _ _ _ | .po id _ | .map id | .vec id _ _ | .pv id _ _ _ | .yld id => decide (id < n)
  | .bm _ f l => scL n m f && scL n m l
  | .pe e _ => scL n m e
  | _ => true
def scL (n m : Nat) : List D → Bool
  | [] => true
  | d :: l => D.sc n m d && scL n m l
def scLL (n m : Nat) : List (List D) → Bool
  | [] => true
  | l :: r => scL n m l && scLL n m r
end

theorem scL_get {n m : Nat} : ∀ {l : List D}, scL n m l = true → ∀ {j : Nat} {d : D}, l[j]? = some d → d.sc n m = true
  | [], _, j, d, h => by simp at h
  | x :: l, hs, j, d, h => by
    simp only [scL, Bool.and_eq_true] at hs
    cases j with
    | zero => simp at h; subst h; exact hs.1
    | succ j => exact scL_get hs.2 (by simpa using h)
theorem scLL_get {n m : Nat} : ∀ {l : List (List D)}, scLL n m l = true → ∀ {i : Nat} {e : List D}, l[i]? = some e → scL n m e = true
  | [], _, j, d, h => by simp at h
  | x :: l, hs, j, d, h => by
    simp only [scLL, Bool.and_eq_true] at hs
    cases j with
    | zero => simp at h; subst h; exact hs.1
    | succ j => exact scLL_get hs.2 (by simpa using h)
theorem scL_of {n m : Nat} : ∀ {l : List D}, (∀ (j : Nat) (d : D), l[j]? = some d → d.sc n m = true) → scL n m l = true
  | [], _ => rfl
  | x :: l, h => by
    simp only [scL, Bool.and_eq_true]
    exact ⟨h 0 x rfl, scL_of fun j d hd => h (j + 1) d (by simpa using hd)⟩
theorem scLL_of {n m : Nat} : ∀ {l : List (List D)}, (∀ (i : Nat) (e : List D), l[i]? = some e → scL n m e = true) → scLL n m l = true
  | [], _ => rfl
  | x :: l, h => by
    simp only [scLL, Bool.and_eq_true]
    exact ⟨h 0 x rfl, scLL_of fun j d hd => h (j + 1) d (by simpa using hd)⟩

/-- what a value is read as mentions only what there is -/
theorem V.sc {c : Cfg} {v : Value} {d : D} (h : V c v d) : d.sc c.n c.m = true := by
  induction h with
  | agg cs l hn _ ih =>
    simp only [D.sc]; exact scL_of fun j d hd => ih j (cs[j]'(by rw [hn]; exact (List.getElem?_eq_some_iff.1 hd).1)) d (Array.getElem?_eq_getElem _) hd
  | tup cs l hn _ ih =>
    simp only [D.sc]; exact scL_of fun j d hd => ih j (cs[j]'(by rw [hn]; exact (List.getElem?_eq_some_iff.1 hd).1)) d (Array.getElem?_eq_getElem _) hd
  | fn f cs l hn _ ih =>
    simp only [D.sc]; exact scL_of fun j d hd => ih j (cs[j]'(by rw [hn]; exact (List.getElem?_eq_some_iff.1 hd).1)) d (Array.getElem?_eq_getElem _) hd
  | sl a cap es sz vs _ _ _ _ ih => simp only [D.sc]; exact scLL_of fun i e he => scL_of fun j d hd => ih i e j d he hd
  | full a es sz vs _ _ _ ih => simp only [D.sc]; exact scLL_of fun i e he => scL_of fun j d hd => ih i e j d he hd
  | gsl0 A t ht h0 => simp [D.sc, ht, scLL]
  | gsl b cap es t sz vs ht _ _ _ _ _ _ _ ih => simp only [D.sc, ht, decide_true, Bool.true_and]; exact scLL_of fun i e he => scL_of fun j d hd => ih i e j d he hd
  | osl id off n sz cap hid _ _ => simp [D.sc, hid]
  | pe a e off vs _ _ ih => simp only [D.sc]; exact scL_of fun j d hd => ih j d hd
  | po id off hid _ => simp [D.sc, hid]
  | map id hid _ => simp [D.sc, hid]
  | vec A cap id n sz k hid _ _ _ _ => simp [D.sc, hid]
  | pv A id n i j k hid _ _ => simp [D.sc, hid]
  | yld id hid _ => simp [D.sc, hid]
  | bm f fs cs lf l hnf _ hn _ ihf ih =>
    simp only [D.sc, Bool.and_eq_true]
    exact ⟨scL_of fun j d hd => ihf j (fs[j]'(by rw [hnf]; exact (List.getElem?_eq_some_iff.1 hd).1)) d (Array.getElem?_eq_getElem _) hd,
      scL_of fun j d hd => ih j (cs[j]'(by rw [hn]; exact (List.getElem?_eq_some_iff.1 hd).1)) d (Array.getElem?_eq_getElem _) hd⟩
  | _ => rfl

def Cfg.cut (c : Cfg) (n m : Nat) : Cfg := { c with n := n, m := m }

theorem V.cut {c : Cfg} {n m : Nat} {v : Value} {d : D} (h : V c v d) (hs : d.sc n m = true) : V (c.cut n m) v d := by
  induction h with
  | top v => exact .top v
  | und => exact .und
  | int k n => exact .int k n
  | bool b => exact .bool b
  | str s => exact .str s
  | agg cs l hn _ ih => simp only [D.sc] at hs; exact .agg cs l hn fun j v d h1 h2 => ih j v d h1 h2 (scL_get hs h2)
  | tup cs l hn _ ih => simp only [D.sc] at hs; exact .tup cs l hn fun j v d h1 h2 => ih j v d h1 h2 (scL_get hs h2)
  | nilsl => exact .nilsl
  | slnil => exact .slnil
  | sl a cap es sz vs hcap hsz hF _ ih => simp only [D.sc] at hs; exact .sl a cap es sz vs hcap hsz hF fun i e j d h1 h2 => ih i e j d h1 h2 (scL_get (scLL_get hs h1) h2)
  | fullnil => exact .fullnil
  | full a es sz vs hsz hF _ ih => simp only [D.sc] at hs; exact .full a es sz vs hsz hF fun i e j d h1 h2 => ih i e j d h1 h2 (scL_get (scLL_get hs h1) h2)
  | gsl0 A t ht h0 => simp [D.sc] at hs; exact .gsl0 A t hs.1 h0
  | gsl b cap es t sz vs ht h0 hcap hle hcur hsz hF _ ih =>
    simp only [D.sc, Bool.and_eq_true, decide_eq_true_eq] at hs
    exact .gsl b cap es t sz vs hs.1 h0 hcap hle hcur hsz hF fun i e j d h1 h2 => ih i e j d h1 h2 (scL_get (scLL_get hs.2 h1) h2)
  | osl id off n' sz cap hid hν hcap => simp [D.sc] at hs; exact .osl (c := c.cut n m) id off n' sz cap hs hν hcap
  | pe a e off vs hF _ ih => simp only [D.sc] at hs; exact .pe a e off vs hF fun j d h => ih j d h (scL_get hs h)
  | po id off hid hν => simp [D.sc] at hs; exact .po (c := c.cut n m) id off hs hν
  | nilp => exact .nilp
  | fn f cs l hn _ ih => simp only [D.sc] at hs; exact .fn f cs l hn fun j v d h1 h2 => ih j v d h1 h2 (scL_get hs h2)
  | nilfn => exact .nilfn
  | map id hid hν => simp [D.sc] at hs; exact .map (c := c.cut n m) id hs hν
  | nilmap => exact .nilmap
  | vec A cap id n' sz k hid hk h0 hcap h => simp [D.sc] at hs; exact .vec (c := c.cut n m) A cap id n' sz k hs hk h0 hcap h
  | pv A id n' i j k hid hk h => simp [D.sc] at hs; exact .pv (c := c.cut n m) A id n' i j k hs hk h
  | yld id hid hν => simp [D.sc] at hs; exact .yld (c := c.cut n m) id hs hν
  | bm f fs cs lf l hnf _ hn _ ihf ih =>
    simp only [D.sc, Bool.and_eq_true] at hs
    exact .bm f fs cs lf l hnf (fun j v d h1 h2 => ihf j v d h1 h2 (scL_get hs.1 h2)) hn (fun j v d h1 h2 => ih j v d h1 h2 (scL_get hs.2 h2))

theorem V.oneCell {c : Cfg} {v : Value} {d : D} (h : V c v d) (hl : d.leaf = true) : v.oneCell' = true := by
  cases h <;> first | rfl | (simp [D.leaf] at hl)

/-- a value that a variable may hold -/
def D.var : D → Bool
  | .agg _ => true
  | d => d.leaf

theorem V.cells {c : Cfg} {v : Value} {d : D} (h : V c v d) (ht : d.var = true) :
    v.cells.size = d.cs.length ∧ ∀ (j : Nat) (u : Value) (e : D), v.cells[j]? = some u → d.cs[j]? = some e → V c u e := by
  cases h with
  | agg cs l hn hh => exact ⟨by simpa [Value.cells, D.cs] using hn, by simpa [Value.cells, D.cs] using hh⟩
  | top v => simp [D.var, D.leaf] at ht
  | und => simp [D.var, D.leaf] at ht
  | tup cs l hn hh => simp [D.var, D.leaf] at ht
  | _ =>
    refine ⟨by simp [Value.cells, D.cs], fun j u e h1 h2 => ?_⟩
    simp only [Value.cells, D.cs] at h1 h2
    cases j with
    | zero => simp at h1 h2; subst h1; subst h2; constructor <;> assumption
    | succ j => simp at h1

end Go.KL
