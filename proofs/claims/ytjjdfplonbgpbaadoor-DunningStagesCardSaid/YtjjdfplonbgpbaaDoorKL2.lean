/- Growing slices, freezing objects, loading and storing. -/
import Derived.Test.YtjjdfplonbgpbaaDoorKL1
set_option linter.unusedVariables false
namespace Go.KL
open Go Go.RowKit

/-- slices that may be read -/
def D.rd : D → Option (List (List D))
  | .sl es | .full es | .gsl es _ => some es
  | .nilsl => some []
  | _ => none

theorem V.rd {c : Cfg} {v : Value} {d : D} (h : V c v d) {es : List (List D)} (hr : d.rd = some es) : V c v (.sl es) := by
  cases h <;> simp only [D.rd, Option.some.injEq, reduceCtorEq] at hr <;> subst hr
  · exact .slnil
  · exact .slnil
  · exact .sl _ _ _ _ _ ‹_› ‹_› ‹_› ‹_›
  · exact .slnil
  · exact .sl _ _ _ _ _ (Nat.le_refl _) ‹_› ‹_› ‹_›
  · rename_i A t ht h0
    cases A with
    | none => exact .slnil
    | some a => exact .sl a 0 [] 0 (fun _ _ => undef) (by simp) (by simp) (by simp) (by simp)
  · exact .sl _ _ _ _ _ ‹_› ‹_› ‹_› ‹_›

theorem add_add (a : Addr) (i j : Nat) : (a.add i).add j = a.add (i + j) := by
  unfold Addr.add
  by_cases hi : i = 0 <;> by_cases hj : j = 0 <;> simp [hi, hj, Nat.add_assoc]
theorem add_block (a : Addr) (i : Nat) : (a.add i).block = a.block := by unfold Addr.add; split <;> rfl
theorem add_own (b j : Nat) : (⟨b, 0, none⟩ : Addr).add j = ⟨b, j, none⟩ := by unfold Addr.add; split <;> simp_all
theorem add_own' (b o j : Nat) : (⟨b, o, none⟩ : Addr).add j = ⟨b, o + j, none⟩ := by unfold Addr.add; split <;> simp_all

/-- the cells of a list of elements, one behind the other -/
theorem flat_get {α : Type} {sz : Nat} : ∀ (es : List (List α)), (∀ e ∈ es, e.length = sz) → ∀ (i j : Nat) (d : α), j < sz → es.flatten[i * sz + j]? = some d → ∃ e, es[i]? = some e ∧ e[j]? = some d
  | [], _, i, j, d, _, h => by simp at h
  | e :: es, hs, i, j, d, hj, h => by
    have he : e.length = sz := hs e (by simp)
    cases i with
    | zero =>
      simp only [Nat.zero_mul, Nat.zero_add, List.flatten_cons] at h
      rw [List.getElem?_append_left (by omega)] at h
      exact ⟨e, rfl, h⟩
    | succ i =>
      simp only [List.flatten_cons] at h
      rw [List.getElem?_append_right (by rw [Nat.succ_mul]; omega), he, show (i + 1) * sz + j - sz = i * sz + j from by rw [Nat.succ_mul]; omega] at h
      obtain ⟨e', h1, h2⟩ := flat_get es (fun x hx => hs x (by simp [hx])) i j d hj h
      exact ⟨e', by simpa using h1, h2⟩
theorem flat_len {α : Type} {sz : Nat} : ∀ (es : List (List α)), (∀ e ∈ es, e.length = sz) → es.flatten.length = es.length * sz
  | [], _ => by simp
  | e :: es, hs => by
    rw [List.flatten_cons, List.length_append, flat_len es (fun x hx => hs x (by simp [hx])), hs e (by simp), List.length_cons, Nat.succ_mul, Nat.add_comm]
theorem flat_of {α : Type} {sz : Nat} (es : List (List α)) (hs : ∀ e ∈ es, e.length = sz) (i j : Nat) (e : List α) (d : α) (h1 : es[i]? = some e) (h2 : e[j]? = some d) : es.flatten[i * sz + j]? = some d := by
  have he : e.length = sz := hs e (List.mem_of_getElem? h1)
  have hj : j < sz := by rw [← he]; exact (List.getElem?_eq_some_iff.1 h2).1
  have hi : i < es.length := (List.getElem?_eq_some_iff.1 h1).1
  have hlt : i * sz + j < es.flatten.length := by
    rw [flat_len es hs]
    have : (i + 1) * sz ≤ es.length * sz := Nat.mul_le_mul_right _ hi
    rw [Nat.succ_mul] at this
    omega
  obtain ⟨e', g1, g2⟩ := flat_get es hs i j _ hj (List.getElem?_eq_getElem hlt)
  rw [h1] at g1
  obtain rfl := Option.some.inj g1
  rw [h2] at g2
  rw [List.getElem?_eq_getElem hlt, ← g2]

/-- the values that lie in the cells of a slice that is read -/
theorem V.cellsOf {c : Cfg} {a : Addr} {n cap : Nat} {es : List (List D)} (h : V c (.slice (some a) n cap) (.sl es)) {sz : Nat} (hsz : ∀ e ∈ es, e.length = sz) :
    n = es.length ∧ n ≤ cap ∧ ∃ xs : List Value, xs.length = n * sz ∧ (∀ (j : Nat) u, xs[j]? = some u → c.F (a.add j) = some u) ∧
      (∀ (j : Nat) u d, xs[j]? = some u → es.flatten[j]? = some d → V c u d) := by
  cases h with
  | sl a cap es sz' vs hcap hsz' hF hV =>
    refine ⟨rfl, hcap, (List.range (es.length * sz)).map (fun j => vs (j / sz) (j % sz)), by simp, fun j u hu => ?_, fun j u d hu hd => ?_⟩
    all_goals
      have hj : j < es.length * sz := by have := (List.getElem?_eq_some_iff.1 hu).1; simpa using this
      have hu' : u = vs (j / sz) (j % sz) := by
        rw [List.getElem?_map, List.getElem?_range hj] at hu; simpa using hu.symm
      have hsz0 : 0 < sz := by
        rcases Nat.eq_zero_or_pos sz with h0 | h0
        · subst h0; simp at hj
        · exact h0
      have hdm : j / sz * sz + j % sz = j := by rw [Nat.mul_comm]; exact Nat.div_add_mod j sz
      have hlt : j < es.flatten.length := by rw [flat_len es hsz]; exact hj
      obtain ⟨e, h1, h2⟩ := flat_get es hsz (j / sz) (j % sz) _ (Nat.mod_lt _ hsz0) (by rw [hdm]; exact List.getElem?_eq_getElem hlt)
      have hsame : sz' = sz := by rw [← hsz' e (List.mem_of_getElem? h1), hsz e (List.mem_of_getElem? h1)]
      subst hsame
    · have := hF _ _ _ _ h1 h2
      rw [hdm] at this
      rw [hu']; exact this
    · rw [hu']
      rw [List.getElem?_eq_getElem hlt] at hd
      obtain rfl := Option.some.inj hd
      exact hV _ _ _ _ h1 h2

theorem run_append_empty {P : Program} {w : World} (t ty e : TypeId) (i : TypeInfo) (ht : P.underlying t = some (.slice e)) (hi : P.info? e = some i) (A : Option Addr) (n cap : Nat) (hn : n ≤ cap) (A' : Option Addr) (c : Nat) :
    (Builtin.append_ #[t, t] ty #[.slice A n cap, .slice A' 0 c]).run P w = .ok (.slice A n cap) w := by
  cases A' <;> cases A <;> simp [Builtin.append_, run_underlying ht, sizeOf, typeInfo, hi, Builtin.lenOf, Builtin.firstCells, hn, storeCells, loadCells, loadCellsFrom]

theorem V.gslInv {c : Cfg} {v : Value} {es : List (List D)} {t : Nat} (h : V c v (.gsl es t)) :
    t < c.m ∧ ((es = [] ∧ (∃ A, v = .slice A 0 0) ∧ ((c.τ t).len = 0 → (c.τ t).blk = none)) ∨
      (0 < es.length ∧ ∃ b cap sz, v = .slice (some ⟨b, 0, none⟩) es.length cap ∧ es.length ≤ cap ∧ (es.length = (c.τ t).len → (c.τ t).blk = some (b, cap) ∧ (c.τ t).sz = sz) ∧ (∀ e ∈ es, e.length = sz) ∧ V c v (.sl es))) := by
  cases h with
  | gsl0 A t ht h0 => exact ⟨ht, .inl ⟨rfl, ⟨A, rfl⟩, h0⟩⟩
  | gsl b cap es t sz vs ht h0 hcap hle hcur hsz hF hV => exact ⟨ht, .inr ⟨h0, b, cap, sz, rfl, hcap, hcur, hsz, .sl _ _ _ _ _ hcap hsz hF hV⟩⟩

/-- the values read off a list of cells -/
theorem V.gslMk {c : Cfg} {b cap sz : Nat} {es : List (List D)} {t : Nat} (xs : List Value) (ht : t < c.m) (h0 : 0 < es.length) (hcap : es.length ≤ cap)
    (hlen : (c.τ t).len = es.length) (hblk : (c.τ t).blk = some (b, cap)) (htsz : (c.τ t).sz = sz) (hsz : ∀ e ∈ es, e.length = sz)
    (hF : ∀ (j : Nat) u, xs[j]? = some u → j < es.length * sz → c.F ⟨b, j, none⟩ = some u) (hxs : es.length * sz ≤ xs.length)
    (hV : ∀ (j : Nat) u d, xs[j]? = some u → es.flatten[j]? = some d → V c u d) : V c (.slice (some ⟨b, 0, none⟩) es.length cap) (.gsl es t) := by
  have hk : ∀ (i : Nat) (e : List D) (j : Nat) (d : D), es[i]? = some e → e[j]? = some d → i * sz + j < es.length * sz := fun i e j d h1 h2 => by
    have := flat_of es hsz i j e d h1 h2
    have := (List.getElem?_eq_some_iff.1 this).1
    rwa [flat_len es hsz] at this
  refine .gsl b cap es t sz (fun i j => xs.getD (i * sz + j) undef) ht h0 hcap (by omega) (fun _ => ⟨hblk, htsz⟩) hsz (fun i e j d h1 h2 => ?_) (fun i e j d h1 h2 => ?_)
  · have hlt := hk i e j d h1 h2
    rw [add_own]
    have hg : xs[i * sz + j]? = some (xs[i * sz + j]'(by omega)) := List.getElem?_eq_getElem _
    rw [hF _ _ hg hlt, List.getD_eq_getElem?_getD, hg]
    rfl
  · have hlt := hk i e j d h1 h2
    have hg : xs[i * sz + j]? = some (xs[i * sz + j]'(by omega)) := List.getElem?_eq_getElem _
    rw [List.getD_eq_getElem?_getD, hg]
    exact hV _ _ _ hg (flat_of es hsz i j e d h1 h2)

theorem RelS.tokfresh {B w0 c S tk w} (h : RelS B w0 c S tk w) {t len : Nat} {e : TypeId} {sz : Nat} (ht : tk[t]? = some (len, e, sz)) (C : Array Value) (cap' : Nat) (es' : List (List D))
    (hlen : len < es'.length) (hC : C.size = cap' * sz) (hcap : es'.length ≤ cap') (hmax : cap' ≤ maxLen) (hsz : ∀ x ∈ es', x.length = sz)
    (hV : ∀ (j : Nat) u d, C[j]? = some u → es'.flatten[j]? = some d → V c u d ∧ u.oneCell' = true) :
    ∃ c', c.Le c' ∧ RelS B w0 c' S (tk.set t (es'.length, e, sz)) (w.drew.alloc (.cells C e)) ∧ V c' (.slice (some ⟨w.heap.size, 0, none⟩) es'.length cap') (.gsl es' t) := by
  have htm : t < c.m := by rw [h.mT]; exact (List.getElem?_eq_some_iff.1 ht).1
  have htk : t < tk.length := (List.getElem?_eq_some_iff.1 ht).1
  have hj := h.drew.junk (.cells C e)
  obtain ⟨hl, he, hs, _⟩ := h.tok t _ ht
  simp only at hl he hs
  let c' : Cfg := { c with
    F := fun a => if a.block = w.heap.size then (if a.spot = none ∧ a.off < es'.length * sz then C[a.off]? else none) else c.F a
    τ := fun t' => if t' = t then ⟨es'.length, e, sz, some (w.heap.size, cap')⟩ else c.τ t' }
  have hFlt : ∀ a v, c.F a = some v → a.block < w.heap.size := fun a v ha => World.block_lt (h.holds a v ha).1
  have hle : c.Le c' := by
    refine ⟨fun a v ha => ?_, Nat.le_refl _, fun _ _ => rfl, Nat.le_refl _, fun t' ht' => ?_, fun _ _ => .inl rfl, fun _ h => h⟩
    · simp only [c']; rw [if_neg (by have := hFlt a v ha; omega)]; exact ha
    · by_cases ht2 : t' = t
      · subst ht2; right; simp only [c', if_true]; omega
      · left; simp only [c']; rw [if_neg ht2]
  have hτ : c'.τ t = ⟨es'.length, e, sz, some (w.heap.size, cap')⟩ := by simp [c']
  have hτ' : ∀ t', t' ≠ t → c'.τ t' = c.τ t' := fun t' ht' => by simp only [c']; rw [if_neg ht']
  have hnew : (w.drew.alloc (.cells C e)).heap[w.heap.size]? = some (.cells C e (0, 0)) := heap_alloc_new w.drew _
  have hmul : es'.length * sz ≤ C.size := by rw [hC]; exact Nat.mul_le_mul_right _ hcap
  have hfl := flat_len es' hsz
  refine ⟨c', hle, ⟨h.hB, hj.below, h.nS, by simp [c', h.mT], ?_, h.inj, hj.base, ?_, h.nu, ?_, ?_, ?_, hj.dd⟩, ?_⟩
  · intro a v ha
    simp only [c'] at ha
    by_cases hb : a.block = w.heap.size
    · rw [if_pos hb] at ha
      by_cases hc2 : a.spot = none ∧ a.off < es'.length * sz
      · rw [if_pos hc2] at ha
        obtain ⟨b, off, spot⟩ := a
        simp only at hb hc2 ha
        obtain ⟨rfl, hlt⟩ := hc2
        subst hb
        refine ⟨?_, ?_⟩
        · rw [cell_of_row _ _ off C e (0, 0) hnew]; exact ha
        · exact (hV off v _ ha (List.getElem?_eq_getElem (by rw [hfl]; exact hlt))).2
      · rw [if_neg hc2] at ha; cases ha
    · rw [if_neg hb] at ha; exact hj.holds a v ha
  · intro i o ho hnd bo hbo a v ha
    simp only [c'] at ha
    by_cases hb : a.block = w.heap.size
    · have := (h.base i bo (h.lt ho) hbo).2
      omega
    · rw [if_neg hb] at ha; exact h.sep i o ho hnd bo hbo a v ha
  · intro i o ho; exact (hj.obj i o ho).mono hle (h.lt ho) rfl
  · intro t' x hx
    by_cases ht2 : t' = t
    · subst ht2
      rw [List.getElem?_set_self htk] at hx
      obtain rfl := Option.some.inj hx
      refine ⟨by rw [hτ], by rw [hτ], by rw [hτ], ?_⟩
      rw [hτ]
      refine ⟨h.hw, ⟨C, hnew, hC⟩, hcap, hmax, by show 0 < es'.length; omega, fun off spot ho => ?_, fun i b' hi hb' => ?_⟩
      · simp only [c', if_true]
        rw [if_neg (by intro hh; have := hh.2; simp only at ho this; omega)]
      · have := (h.base i b' hi hb').2; omega
    · rw [List.getElem?_set_ne (by omega)] at hx
      obtain ⟨a1, a2, a3, a4⟩ := hj.tok t' x hx
      refine ⟨by rw [hτ' t' ht2]; exact a1, by rw [hτ' t' ht2]; exact a2, by rw [hτ' t' ht2]; exact a3, ?_⟩
      rw [hτ' t' ht2]
      have htm' : t' < c.m := by rw [h.mT]; exact (List.getElem?_eq_some_iff.1 hx).1
      cases hb' : (c.τ t').blk with
      | none => simpa [hb'] using a4
      | some p =>
        obtain ⟨b, cap⟩ := p
        simp only [hb'] at a4 ⊢
        obtain ⟨g1, g2, g3, g4, g5, g6, g7⟩ := a4
        refine ⟨g1, g2, g3, g4, g5, fun off spot ho => ?_, g7⟩
        simp only [c']
        rw [if_neg (by have := (h.tokblk htm' hb').2.1; omega)]
        exact g6 off spot ho
  · intro t1 t2 h1 h2 b x y hx hy
    by_cases e1 : t1 = t <;> by_cases e2 : t2 = t
    · omega
    · subst e1
      rw [hτ] at hx; rw [hτ' t2 e2] at hy
      simp only [Option.some.injEq, Prod.mk.injEq] at hx
      have := (h.tokblk h2 hy).2.1; omega
    · subst e2
      rw [hτ] at hy; rw [hτ' t1 e1] at hx
      simp only [Option.some.injEq, Prod.mk.injEq] at hy
      have := (h.tokblk h1 hx).2.1; omega
    · rw [hτ' t1 e1] at hx; rw [hτ' t2 e2] at hy; exact h.tinj t1 t2 h1 h2 b x y hx hy
  · refine V.gslMk C.toList htm (by omega) hcap (by rw [hτ]) (by rw [hτ]) (by rw [hτ]) hsz (fun j u hu hlt => ?_) (by simpa using hmul) (fun j u d hu hd => ?_)
    · simp only [c', if_true]
      rw [if_pos ⟨trivial, hlt⟩]; simpa using hu
    · exact (hV j u d (by simpa using hu) hd).1.mono hle

theorem RelS.tokroom {B w0 c S tk w} (h : RelS B w0 c S tk w) {t : Nat} {es : List (List D)} {e : TypeId} {sz b cap : Nat} (ht : tk[t]? = some (es.length, e, sz)) (hb : (c.τ t).blk = some (b, cap))
    (news : List Value) (src : List (List D)) (hnews : news.length = src.length * sz) (hroom : es.length + src.length ≤ cap) (hpos : 0 < src.length) (hes : ∀ x ∈ es, x.length = sz) (hsz : ∀ x ∈ src, x.length = sz)
    (hold : V c (.slice (some ⟨b, 0, none⟩) es.length cap) (.sl es))
    (hV : ∀ (j : Nat) u d, news[j]? = some u → src.flatten[j]? = some d → V c u d) (h1 : ∀ u ∈ news, u.oneCell' = true) :
    ∃ cur c', w.heap[b]? = some (.cells cur e (0, 0)) ∧ cur.size = cap * sz ∧ c.Le c' ∧
      RelS B w0 c' S (tk.set t ((es ++ src).length, e, sz)) (w.setRow b (cur.toList.take (es.length * sz) ++ news ++ cur.toList.drop (es.length * sz + news.length)).toArray) ∧
      V c' (.slice (some ⟨b, 0, none⟩) (es ++ src).length cap) (.gsl (es ++ src) t) := by
  have htm : t < c.m := by rw [h.mT]; exact (List.getElem?_eq_some_iff.1 ht).1
  have htk : t < tk.length := (List.getElem?_eq_some_iff.1 ht).1
  obtain ⟨hl, he, hs, h4⟩ := h.tok t _ ht
  simp only [hb] at hl he hs h4
  obtain ⟨g1, ⟨cur, hcur, hcs⟩, g3, g4, g5, g6, g7⟩ := h4
  have hlen : (es ++ src).length = es.length + src.length := by simp
  have hmul : (es.length + src.length) * sz ≤ cap * sz := Nat.mul_le_mul_right _ hroom
  rw [Nat.add_mul] at hmul
  let C : List Value := cur.toList.take (es.length * sz) ++ news ++ cur.toList.drop (es.length * sz + news.length)
  have hCl : C.length = cap * sz := by simp only [C, List.length_append, List.length_take, List.length_drop, Array.length_toList, hcs, hnews]; omega
  have hct : cur.toList.length = cap * sz := by rw [← hcs]; simp
  have hClow : ∀ j, j < es.length * sz → C[j]? = cur[j]? := fun j hj => by
    simp only [C]
    rw [List.append_assoc, List.getElem?_append_left (by rw [List.length_take, hct]; omega), List.getElem?_take, if_pos hj]; simp
  have hCmid : ∀ j, es.length * sz ≤ j → j < es.length * sz + news.length → C[j]? = news[j - es.length * sz]? := fun j hj hj2 => by
    have e1 : (cur.toList.take (es.length * sz)).length = es.length * sz := by rw [List.length_take, hct]; omega
    simp only [C]
    rw [List.append_assoc, List.getElem?_append_right (by omega), e1, List.getElem?_append_left (by omega)]
  let c' : Cfg := { c with
    F := fun a => if a.block = b ∧ a.spot = none ∧ es.length * sz ≤ a.off ∧ a.off < (es.length + src.length) * sz then C[a.off]? else c.F a
    τ := fun t' => if t' = t then ⟨es.length + src.length, e, sz, some (b, cap)⟩ else c.τ t' }
  have hle : c.Le c' := by
    refine ⟨fun a v ha => ?_, Nat.le_refl _, fun _ _ => rfl, Nat.le_refl _, fun t' ht' => ?_, fun _ _ => .inl rfl, fun _ h => h⟩
    · simp only [c']
      rw [if_neg ?_]
      · exact ha
      · rintro ⟨e1, e2, e3, e4⟩
        have := g6 a.off a.spot e3
        rw [← e1] at this
        rw [show (⟨a.block, a.off, a.spot⟩ : Addr) = a from rfl, ha] at this
        cases this
    · by_cases ht2 : t' = t
      · subst ht2; right; simp only [c', if_true]; omega
      · left; simp only [c']; rw [if_neg ht2]
  have hτ : c'.τ t = ⟨es.length + src.length, e, sz, some (b, cap)⟩ := by simp [c']
  have hτ' : ∀ t', t' ≠ t → c'.τ t' = c.τ t' := fun t' ht' => by simp only [c']; rw [if_neg ht']
  have hrow : (w.setRow b C.toArray).heap[b]? = some (.cells C.toArray e (0, 0)) := setRow_heap w b cur C.toArray e _ hcur
  have hoth : ∀ k, k ≠ b → (w.setRow b C.toArray).heap[k]? = w.heap[k]? := fun k hk => setRow_other w b k _ (by omega)
  have hsize : (w.setRow b C.toArray).heap.size = w.heap.size := by simp
  have hbel : Below B w (w.setRow b C.toArray) := ⟨rfl, rfl, rfl, by omega, fun k hk => hoth k (by omega)⟩
  have hholds : ∀ a v, c.F a = some v → (w.setRow b C.toArray).cell? a = some v ∧ v.oneCell' = true := fun a v ha => by
    refine ⟨?_, (h.holds a v ha).2⟩
    by_cases e1 : a.block = b
    · have e3 : a.off < es.length * sz := by
        rcases Nat.lt_or_ge a.off (es.length * sz) with h | h
        · exact h
        · have := g6 a.off a.spot h
          rw [← e1, show (⟨a.block, a.off, a.spot⟩ : Addr) = a from rfl, ha] at this
          cases this
      have hc0 := (h.holds a v ha).1
      obtain ⟨bb, off, spot⟩ := a
      simp only at e1 e3
      subst e1
      have hsp : spot = none := by
        cases spot with
        | none => rfl
        | some s => simp [World.cell?, hcur] at hc0
      subst hsp
      rw [cell_of_row w _ off cur e (0, 0) hcur] at hc0
      rw [cell_of_row _ _ off C.toArray e (0, 0) hrow]
      rw [List.getElem?_toArray, hClow off e3]
      exact hc0
    · exact (World.cell?_of_block (w := w) (hoth _ e1)).trans (h.holds a v ha).1
  refine ⟨cur, c', hcur, hcs, hle, ⟨h.hB, h.below.trans hbel, h.nS, by simp [c', h.mT], ?_, h.inj, fun i b1 hi hb1 => ⟨(h.base i b1 hi hb1).1, by have := (h.base i b1 hi hb1).2; show b1 < (w.setRow b C.toArray).heap.size; omega⟩, ?_, h.nu, ?_, ?_, ?_, ?_⟩, ?_⟩
  · intro a v ha
    simp only [c'] at ha
    split at ha
    · rename_i hcnd
      obtain ⟨bb, off, spot⟩ := a
      simp only at hcnd ha
      obtain ⟨rfl, rfl, e3, e4⟩ := hcnd
      rw [Nat.add_mul, ← hnews] at e4
      refine ⟨?_, ?_⟩
      · rw [cell_of_row _ _ off C.toArray e (0, 0) hrow]; simpa using ha
      · rw [hCmid off e3 e4] at ha; exact h1 v (List.mem_of_getElem? ha)
    · exact hholds a v ha
  · intro i o ho hnd bo hbo a v ha
    simp only [c'] at ha
    split at ha
    · rename_i hcnd
      have := g7 i bo (h.lt ho) hbo
      rw [hcnd.1]; exact fun e => this e.symm
    · exact h.sep i o ho hnd bo hbo a v ha
  · intro i o ho
    exact ((h.obj i o ho).other (fun bo hbo => hoth bo (g7 i bo (h.lt ho) hbo)) (h.nu i o ho)).mono hle (h.lt ho) rfl
  · intro t' x hx
    by_cases ht2 : t' = t
    · subst ht2
      rw [List.getElem?_set_self htk] at hx
      obtain rfl := Option.some.inj hx
      refine ⟨by rw [hτ, hlen], by rw [hτ], by rw [hτ], ?_⟩
      rw [hτ]
      refine ⟨g1, ⟨C.toArray, hrow, by simpa using hCl⟩, by show (es ++ src).length ≤ cap; omega, g4, by show 0 < (es ++ src).length; omega, fun off spot ho => ?_, g7⟩
      simp only [c'] at ho ⊢
      rw [hlen] at ho
      rw [if_neg (by rintro ⟨_, _, _, e4⟩; omega)]
      exact g6 off spot (by rw [Nat.add_mul] at ho; omega)
    · rw [List.getElem?_set_ne (by omega)] at hx
      obtain ⟨a1, a2, a3, a4⟩ := h.tok t' x hx
      refine ⟨by rw [hτ' t' ht2]; exact a1, by rw [hτ' t' ht2]; exact a2, by rw [hτ' t' ht2]; exact a3, ?_⟩
      rw [hτ' t' ht2]
      have htm' : t' < c.m := by rw [h.mT]; exact (List.getElem?_eq_some_iff.1 hx).1
      cases hb' : (c.τ t').blk with
      | none => simpa [hb'] using a4
      | some p =>
        obtain ⟨b', cap'⟩ := p
        simp only [hb'] at a4 ⊢
        obtain ⟨k1, k2, k3, k4, k5, k6, k7⟩ := a4
        have hne : b' ≠ b := fun e => ht2 (h.tinj t' t htm' htm b cap' cap (by rw [← e]; exact hb') hb)
        refine ⟨k1, by rw [hoth b' hne]; exact k2, k3, k4, k5, fun off spot ho => ?_, k7⟩
        simp only [c']
        rw [if_neg (by rintro ⟨e1, _⟩; exact hne e1)]
        exact k6 off spot ho
  · intro t1 t2 h1' h2' b1 x y hx hy
    by_cases e1 : t1 = t <;> by_cases e2 : t2 = t
    · omega
    · subst e1
      rw [hτ] at hx; rw [hτ' t2 e2] at hy
      simp only [Option.some.injEq, Prod.mk.injEq] at hx
      exact h.tinj t1 t2 h1' h2' b cap y hb (by rw [hx.1]; exact hy)
    · subst e2
      rw [hτ] at hy; rw [hτ' t1 e1] at hx
      simp only [Option.some.injEq, Prod.mk.injEq] at hy
      exact h.tinj t1 t2 h1' h2' b x cap (by rw [hy.1]; exact hx) hb
    · rw [hτ' t1 e1] at hx; rw [hτ' t2 e2] at hy; exact h.tinj t1 t2 h1' h2' b1 x y hx hy
  · intro b1 hb1
    refine ⟨(h.dd b1 hb1).1, ?_⟩
    rw [hoth b1 (fun e => by have := (h.dd b1 hb1).2; rw [e, hcur] at this; cases this)]
    exact (h.dd b1 hb1).2
  · have hsz2 : ∀ x ∈ es ++ src, x.length = sz := fun x hx => by
      rcases List.mem_append.1 hx with h | h
      · exact hes x h
      · exact hsz x h
    refine V.gslMk C htm (by omega) (by omega) (by rw [hτ, hlen]) (by rw [hτ]) (by rw [hτ]) hsz2 (fun j u hu hlt => ?_) (by rw [hCl, hlen, Nat.add_mul]; exact hmul) (fun j u d hu hd => ?_)
    · rw [hlen] at hlt
      by_cases hj : j < es.length * sz
      · obtain ⟨_, _, xs, hxl, hxF, _⟩ := hold.cellsOf hes
        rw [hClow j hj] at hu
        have hx2 : xs[j]? = some (xs[j]'(by omega)) := List.getElem?_eq_getElem _
        have hf := hxF j _ hx2
        rw [add_own] at hf
        have hc0 := (h.holds _ _ hf).1
        rw [cell_of_row w _ j cur e (0, 0) hcur, hu] at hc0
        obtain rfl := Option.some.inj hc0
        exact hle.F _ _ hf
      · simp only [c', true_and]
        rw [if_pos ⟨by omega, hlt⟩]
        exact hu
    · by_cases hj : j < es.length * sz
      · obtain ⟨_, _, xs, hxl, hxF, hxV⟩ := hold.cellsOf hes
        rw [hClow j hj] at hu
        have hx2 : xs[j]? = some (xs[j]'(by omega)) := List.getElem?_eq_getElem _
        have hf := hxF j _ hx2
        rw [add_own] at hf
        have hc0 := (h.holds _ _ hf).1
        rw [cell_of_row w _ j cur e (0, 0) hcur, hu] at hc0
        obtain rfl := Option.some.inj hc0
        rw [List.flatten_append, List.getElem?_append_left (by rw [flat_len es hes]; exact hj)] at hd
        exact (hxV j _ d hx2 hd).mono hle
      · have hjl : j < (es.length + src.length) * sz := by
          have := (List.getElem?_eq_some_iff.1 hd).1
          rw [flat_len _ hsz2, hlen] at this
          exact this
        rw [Nat.add_mul] at hjl
        rw [hCmid j (by omega) (by rw [hnews]; omega)] at hu
        rw [List.flatten_append, List.getElem?_append_right (by rw [flat_len es hes]; omega), flat_len es hes] at hd
        exact (hV _ _ _ hu hd).mono hle

/-- a growing row of the call's own is changed -/
theorem RelS.vset {B w0 c S tk w} (h : RelS B w0 c S tk w) {id : Nat} {es : List (List D)} {e : TypeId} {sz : Nat} (hd : S[id]? = some (.vec es e sz)) {k : Tok} (hk : c.ν id = some k) (k' : Tok) (hk' : k' = k ∨ k.len < k'.len)
    (es' : List (List D)) (w' : World) (hos : w'.os = w.os) (htape : w'.tape = w.tape) (hout : w'.output = w.output) (hsz : w.heap.size ≤ w'.heap.size)
    (hother : ∀ j, j < w.heap.size → (∀ b cap, k.blk = some (b, cap) → j ≠ b) → w'.heap[j]? = w.heap[j]?)
    (hblk : ∀ b cap, k'.blk = some (b, cap) → b < w'.heap.size ∧ ((∃ cap0, k.blk = some (b, cap0)) ∨ w.heap.size ≤ b))
    (hv : ∀ c', c.Le c' → c'.ν id = some k' → VecRel c' w' id es' e sz) :
    ∃ c', c.Le c' ∧ c'.ν id = some k' ∧ c'.n = c.n ∧ RelS B w0 c' (S.set id (.vec es' e sz)) tk w' := by
  have hid : id < c.n := h.lt hd
  let c' : Cfg := { c with ν := fun i => if i = id then some k' else c.ν i }
  have hνid : c'.ν id = some k' := by simp [c']
  have hν : ∀ i, i ≠ id → c'.ν i = c.ν i := fun i hi => by simp only [c']; rw [if_neg hi]
  have hat : ∀ i, i ≠ id → c'.at i = c.at i := fun i hi => at_ext (hν i hi) rfl
  have hle : c.Le c' := ⟨fun _ _ h => h, Nat.le_refl _, fun _ _ => rfl, Nat.le_refl _, fun _ _ => .inl rfl, fun i hi => by
    by_cases h1 : i = id
    · subst h1
      rcases hk' with rfl | hl
      · left; rw [hνid, hk]
      · right; exact ⟨k, k', hk, hνid, hl⟩
    · left; exact hν i h1, fun _ h => h⟩
  have hatk : ∀ b cap, k.blk = some (b, cap) → c.at id = some b := fun b cap hb => by rw [Cfg.at_some hk, hb]; rfl
  have hatk' : ∀ b, c'.at id = some b → ∃ cap, k'.blk = some (b, cap) := fun b hb => by
    rw [Cfg.at_some hνid] at hb
    cases hkb : k'.blk with
    | none => rw [hkb] at hb; cases hb
    | some p => obtain ⟨b1, cap⟩ := p; rw [hkb] at hb; simp at hb; subst hb; exact ⟨cap, rfl⟩
  -- the row's block is nobody else's
  have hsep : ∀ b, c'.at id = some b → B ≤ b ∧ b < w'.heap.size ∧ (∀ i b', i < c.n → i ≠ id → c.at i = some b' → b' ≠ b) ∧ (∀ a v, c.F a = some v → a.block ≠ b) ∧ (∀ t b' y, t < c.m → (c.τ t).blk = some (b', y) → b' ≠ b) := by
    intro b hb
    obtain ⟨cap, hb1⟩ := hatk' b hb
    obtain ⟨hlt, ⟨cap0, hold⟩ | hnew⟩ := hblk b cap hb1
    · have hb2 := hatk b cap0 hold
      exact ⟨(h.base id b hid hb2).1, hlt, fun i b' hi hne hb' e => hne (h.inj i id b' hi hid hb' (by rw [hb2, e])), fun a v ha => h.sep id _ hd (by simp) b hb2 a v ha, fun t b' y ht hy e => (h.tokblk ht hy).2.2 id b hid hb2 e.symm⟩
    · exact ⟨Nat.le_trans h.hw hnew, hlt, fun i b' hi _ hb' e => by have := (h.base i b' hi hb').2; omega, fun a v ha e => by have := World.block_lt (h.holds a v ha).1; omega, fun t b' y ht hy e => by have := (h.tokblk ht hy).2.1; omega⟩
  have hoB : ∀ j, j < B → w'.heap[j]? = w.heap[j]? := fun j hj => hother j (by have := h.hw; omega) (fun b cap hb e => by have := (h.base id b hid (hatk b cap hb)).1; omega)
  have hcell : ∀ a v, c.F a = some v → w'.cell? a = some v := fun a v ha =>
    (World.cell?_of_block (w := w) (w' := w') (hother a.block (World.block_lt (h.holds a v ha).1) (fun b cap hb => h.sep id _ hd (by simp) b (hatk b cap hb) a v ha))).trans (h.holds a v ha).1
  refine ⟨c', hle, hνid, rfl, h.hB, h.below.trans ⟨hos, htape, hout, hsz, hoB⟩, by simp [c', h.nS], h.mT, fun a v ha => ⟨hcell a v ha, (h.holds a v ha).2⟩, ?_, ?_, ?_, ?_, ?_, ?_, h.tinj, ?_⟩
  · intro i j b hi hj hbi hbj
    by_cases h1 : i = id <;> by_cases h2 : j = id
    · omega
    · subst h1
      rw [hat j h2] at hbj
      exact absurd rfl ((hsep b hbi).2.2.1 j b hj h2 hbj)
    · subst h2
      rw [hat i h1] at hbi
      exact absurd rfl ((hsep b hbj).2.2.1 i b hi h1 hbi)
    · rw [hat i h1] at hbi; rw [hat j h2] at hbj; exact h.inj i j b hi hj hbi hbj
  · intro i b hi hb
    by_cases h1 : i = id
    · subst h1; exact ⟨(hsep b hb).1, (hsep b hb).2.1⟩
    · rw [hat i h1] at hb; have := h.base i b hi hb; exact ⟨this.1, by omega⟩
  · intro i o ho hnd b hb a v ha
    by_cases h1 : i = id
    · subst h1; exact (hsep b hb).2.2.2.1 a v ha
    · rw [List.getElem?_set_ne (by omega)] at ho; rw [hat i h1] at hb; exact h.sep i o ho hnd b hb a v ha
  · intro i o ho hf
    by_cases h1 : i = id
    · subst h1
      rw [List.getElem?_set_self (by rw [← h.nS]; exact hid)] at ho
      obtain rfl := Option.some.inj ho
      simp [O.fixed] at hf
    · rw [List.getElem?_set_ne (by omega)] at ho; rw [hν i h1]; exact h.nu i o ho hf
  · intro i o ho
    by_cases h1 : i = id
    · subst h1
      rw [List.getElem?_set_self (by rw [← h.nS]; exact hid)] at ho
      obtain rfl := Option.some.inj ho
      exact hv c' hle hνid
    · rw [List.getElem?_set_ne (by omega)] at ho
      exact ((h.obj i o ho).other (fun b hb => hother b (h.base i b (h.lt ho) hb).2 (fun b1 cap hb1 e => h1 (h.inj i id b (h.lt ho) hid hb (by rw [hatk b1 cap hb1, e])))) (h.nu i o ho)).mono hle (h.lt ho) (hν i h1)
  · intro t x ht
    have htm : t < c.m := by rw [h.mT]; exact (List.getElem?_eq_some_iff.1 ht).1
    obtain ⟨a1, a2, a3, a4⟩ := (h.tok t x ht).other (w' := w') (fun b cap hb => hother b (h.tokblk htm hb).2.1 (fun b1 cap1 hb1 e => (h.tokblk htm hb).2.2 id b1 hid (hatk b1 cap1 hb1) e.symm))
    refine ⟨a1, a2, a3, ?_⟩
    show match (c.τ t).blk with | none => _ | some (b, cap) => _
    cases hb' : (c.τ t).blk with
    | none => simpa [hb'] using a4
    | some p =>
      obtain ⟨b, cap⟩ := p
      simp only [hb'] at a4 ⊢
      obtain ⟨g1, g2, g3, g4, g5, g6, g7⟩ := a4
      refine ⟨g1, g2, g3, g4, g5, g6, fun i b' hi hb2 => ?_⟩
      by_cases h1 : i = id
      · subst h1; exact fun e => (hsep b' hb2).2.2.2.2 t b cap htm hb' e.symm
      · rw [hat i h1] at hb2; exact g7 i b' hi hb2
  · intro b hb
    refine ⟨(h.dd b hb).1, ?_⟩
    rw [hother b (h.ddlt hb) (fun b1 cap hb1 e => ?_)]
    · exact (h.dd b hb).2
    · obtain ⟨k1, g1, _, _, _, _, g6⟩ := h.obj id _ hd
      rw [hk] at g1; obtain rfl := Option.some.inj g1
      rw [hb1] at g6
      obtain ⟨⟨cur, g7, _⟩, _⟩ := g6
      have := (h.dd b hb).2
      rw [e, g7] at this
      cases this

end Go.KL
