/- Append, freezing, loading, storing, as runs. -/
import Derived.Test.YtjjdfplonbgpbaaDoorKL2
set_option linter.unusedVariables false
namespace Go.KL
open Go Go.RowKit

theorem V.slForm {c : Cfg} {v : Value} {es : List (List D)} (h : V c v (.sl es)) : (v = .slice none 0 0 ∧ es = []) ∨ ∃ a cap, v = .slice (some a) es.length cap ∧ es.length ≤ cap := by
  cases h with
  | slnil => exact .inl ⟨rfl, rfl⟩
  | sl a cap es sz vs hcap _ _ _ => exact .inr ⟨a, cap, rfl, hcap⟩

/-- a slice whose cells say a list of elements -/
def Src (c : Cfg) (w : World) (x : Value) (src : List (List D)) (sz : Nat) : Prop :=
  (src = [] ∧ ∃ A c', x = .slice A 0 c') ∨ ∃ (a : Addr) (cx : Nat) (news : List Value), x = .slice (some a) src.length cx ∧ news.length = src.length * sz ∧
    (∀ (j : Nat) u, news[j]? = some u → w.cell? (a.add j) = some u ∧ u.oneCell' = true) ∧ ∀ (j : Nat) u d, news[j]? = some u → src.flatten[j]? = some d → V c u d

theorem Src.of_sl {B w0 c S tk w} (h : RelS B w0 c S tk w) {x : Value} {src : List (List D)} {sz : Nat} (hx : V c x (.sl src)) (hsrc : ∀ s ∈ src, s.length = sz) : Src c w x src sz := by
  by_cases h0 : src = []
  · subst h0
    left
    rcases hx.slForm with ⟨rfl, _⟩ | ⟨a, cap, rfl, _⟩
    · exact ⟨rfl, _, _, rfl⟩
    · exact ⟨rfl, _, _, rfl⟩
  · right
    rcases hx.slForm with ⟨_, e0⟩ | ⟨a, cx, rfl, hcx⟩
    · exact absurd e0 h0
    obtain ⟨_, _, news, hnl, hnF, hnV⟩ := hx.cellsOf hsrc
    exact ⟨a, cx, news, rfl, hnl, fun j u hu => h.holds _ _ (hnF j u hu), hnV⟩

theorem Src.mono {c c' : Cfg} (hc : c.Le c') {w : World} {x : Value} {src : List (List D)} {sz : Nat} (h : Src c w x src sz) : Src c' w x src sz := by
  rcases h with h | ⟨a, cx, news, h1, h2, h3, h4⟩
  · exact .inl h
  · exact .inr ⟨a, cx, news, h1, h2, h3, fun j u d x y => (h4 j u d x y).mono hc⟩

theorem RelS.grow {P : Program} {B w0 c S tk w} (h : RelS B w0 c S tk w) {v x : Value} {es src : List (List D)} {t : Nat} {e : TypeId} {sz : Nat}
    (hv : V c v (.gsl es t)) (ht : tk[t]? = some (es.length, e, sz)) (hx : Src c w x src sz) (hsrc : ∀ s ∈ src, s.length = sz)
    (T ty : TypeId) (i : TypeInfo) (z : Value) (hT : P.underlying T = some (.slice e)) (hi : P.info? e = some i) (hz : i.zero = some z) (hsz : i.size = sz)
    (hzs : z.cells.size = sz) (h63 : es.length + src.length ≤ maxLen) (hbytes : (es.length + src.length) * i.bytes ≤ 140737488355328) :
    ∃ v' w' c', (Builtin.append_ #[T, T] ty #[v, x]).run P w = .ok v' w' ∧ c.Le c' ∧ RelS B w0 c' S (tk.set t ((es ++ src).length, e, sz)) w' ∧ V c' v' (.gsl (es ++ src) t) := by
  subst hsz
  obtain ⟨htm, hform⟩ := hv.gslInv
  have hlenτ := (h.tok t _ ht).1
  simp only at hlenτ
  by_cases h0 : src = []
  · subst h0
    have hsame : tk.set t ((es ++ ([] : List (List D))).length, e, i.size) = tk := by
      rw [List.append_nil]
      obtain ⟨hlt, he⟩ := List.getElem?_eq_some_iff.1 ht
      rw [← he]; exact List.set_getElem_self hlt
    rw [List.append_nil] at hsame ⊢
    obtain ⟨A', c', rfl⟩ : ∃ A' c', x = .slice A' 0 c' := by
      rcases hx with ⟨_, A, c, rfl⟩ | ⟨a, cap, _, rfl, _⟩
      · exact ⟨_, _, rfl⟩
      · exact ⟨_, _, rfl⟩
    obtain ⟨A, n, cap, rfl, hn⟩ : ∃ A n cap, v = .slice A n cap ∧ n ≤ cap := by
      rcases hform with ⟨_, ⟨A, rfl⟩, _⟩ | ⟨_, b, cap, sz, rfl, hc, _⟩
      · exact ⟨_, _, _, rfl, Nat.le_refl _⟩
      · exact ⟨_, _, _, rfl, hc⟩
    exact ⟨_, w, c, run_append_empty T ty e i hT hi A n cap hn A' c', Cfg.Le.refl c, by rw [hsame]; exact h, hv⟩
  · have hpos : 0 < src.length := List.length_pos_iff.2 h0
    rcases hx with ⟨e0, _⟩ | ⟨a, cx, news, rfl, hnl, hnF, hnV⟩
    · exact absurd e0 h0
    have hncell : ∀ j u, news[j]? = some u → w.cell? (a.add j) = some u := fun j u hu => (hnF j u hu).1
    have hn1 : ∀ u ∈ news, u.oneCell' = true := fun u hu => by
      obtain ⟨j, hj⟩ := List.getElem?_of_mem hu
      exact (hnF j u hj).2
    have h63' : es.length + src.length ≤ 9223372036854775807 := by simp only [maxLen] at h63; omega
    have hlen2 : (es ++ src).length = es.length + src.length := by simp
    have fresh : ∀ (olds : List Value) (old : Nat), old < es.length + src.length → olds.length = es.length * i.size → (∀ x ∈ es, x.length = i.size) →
        (∀ (j : Nat) u d, olds[j]? = some u → es.flatten[j]? = some d → V c u d ∧ u.oneCell' = true) →
        ∃ c', c.Le c' ∧ RelS B w0 c' S (tk.set t ((es ++ src).length, e, i.size)) (w.drew.alloc (.cells (olds.toArray ++ news.toArray ++ Builtin.zeroCells z.cells (grownCap w (es.length + src.length) old e - (es.length + src.length))) e)) ∧
          V c' (.slice (some ⟨w.heap.size, 0, none⟩) (es ++ src).length (grownCap w (es.length + src.length) old e)) (.gsl (es ++ src) t) := by
      intro olds old ho hol hes hoV
      have hge := grownCap_ge w (es.length + src.length) old e
      have hcm : grownCap w (es.length + src.length) old e ≤ maxLen := grownCap_le_maxLen w _ old e h63
      refine h.tokfresh ht _ _ (es ++ src) (by omega) ?_ (by omega) hcm ?_ ?_
      · simp only [Array.size_append, List.size_toArray, size_zeroCells, hzs, hol, hnl, ← Nat.add_mul]
        congr 1
        omega
      · intro x hx'
        rcases List.mem_append.1 hx' with h | h
        · exact hes x h
        · exact hsrc x h
      · intro j u d hu hd
        have hfl := flat_len es hes
        have hfl2 := flat_len src hsrc
        have hjl : j < es.length * i.size + src.length * i.size := by
          have := (List.getElem?_eq_some_iff.1 hd).1
          rw [List.flatten_append, List.length_append, hfl, hfl2] at this
          exact this
        have hu' : (olds ++ news)[j]? = some u := by
          rw [← hu, Array.getElem?_append_left (by simp only [Array.size_append, List.size_toArray, hol, hnl]; exact hjl)]
          simp
        rw [List.flatten_append] at hd
        by_cases hj : j < es.length * i.size
        · rw [List.getElem?_append_left (by omega)] at hu' hd
          exact hoV j u d hu' hd
        · rw [List.getElem?_append_right (by omega)] at hu' hd
          rw [hfl] at hd; rw [hol] at hu'
          exact ⟨hnV _ u d hu' hd, hn1 u (List.mem_of_getElem? hu')⟩
    rcases hform with ⟨rfl, ⟨A, rfl⟩, hb0⟩ | ⟨hpe, b, cap, sz, rfl, hcap, hcur, hes, hsl⟩
    · have hf := fresh [] 0 (by omega) (by simp) (by simp) (by simp)
      simp only [List.length_nil, Nat.zero_add, List.nil_append, Array.empty_append] at hf hbytes h63' ⊢
      obtain ⟨c', g1, g2, g3⟩ := hf
      cases A with
      | none => exact ⟨_, _, c', run_append_nil (P := P) w T ty e i z hT hi hz a src.length cx news hnl hncell hpos (by omega) (by omega), g1, g2, g3⟩
      | some a0 =>
        have hr := run_append_grow (P := P) w T ty e i z hT hi hz a0 0 0 [] (by simp) (by simp) a src.length cx news hnl hncell (by omega) (by omega) (growslice_fits (by omega) (by simpa using hbytes))
        simp only [Nat.zero_add, Array.empty_append] at hr
        exact ⟨_, _, c', hr, g1, g2, g3⟩
    · obtain ⟨hblk, hts⟩ := hcur (by omega)
      have hsz : sz = i.size := by
        have := (h.tok t _ ht).2.2.1
        simp only at this
        rw [← hts, this]
      subst hsz
      by_cases hroom : es.length + src.length ≤ cap
      · obtain ⟨cur, c', k1, k2, k3, k4, k5⟩ := h.tokroom ht hblk news src hnl hroom hpos hes hsrc hsl hnV hn1
        have hfit : es.length * i.size + news.length ≤ cur.size := by rw [hnl, k2, ← Nat.add_mul]; exact Nat.mul_le_mul_right _ hroom
        have hr := run_append_room (P := P) w T ty e i hT hi b es.length cap cur k1 a src.length cx news hnl hncell hn1 hroom hfit
        rw [← hlen2] at hr
        exact ⟨_, _, c', hr, k3, k4, k5⟩
      · obtain ⟨_, _, olds, hol, hoF, hoV⟩ := hsl.cellsOf hes
        have hocell : ∀ j u, olds[j]? = some u → w.cell? ((⟨b, 0, none⟩ : Addr).add j) = some u := fun j u hu => (h.holds _ _ (hoF j u hu)).1
        have hr := run_append_grow (P := P) w T ty e i z hT hi hz ⟨b, 0, none⟩ es.length cap olds hol hocell a src.length cx news hnl hncell (by omega) (by omega) (growslice_fits (by omega) hbytes)
        obtain ⟨c', g1, g2, g3⟩ := fresh olds cap (by omega) hol hes (fun j u d hu hd => ⟨hoV j u d hu hd, (h.holds _ _ (hoF j u hu)).2⟩)
        rw [← hlen2] at hr g2 g3
        exact ⟨_, _, c', hr, g1, g2, g3⟩

def chunks (sz : Nat) : Nat → List D → List (List D)
  | 0, _ => []
  | n + 1, l => l.take sz :: chunks sz n (l.drop sz)

theorem chunks_length (sz : Nat) : ∀ n l, (chunks sz n l).length = n
  | 0, _ => rfl
  | n + 1, l => by simp [chunks, chunks_length sz n]
theorem chunks_get (sz : Nat) : ∀ n l i e, (chunks sz n l)[i]? = some e → e = (l.drop (i * sz)).take sz
  | 0, _, i, e, h => by simp [chunks] at h
  | n + 1, l, 0, e, h => by simpa [chunks] using h.symm
  | n + 1, l, i + 1, e, h => by
    have := chunks_get sz n (l.drop sz) i e (by simpa [chunks] using h)
    rw [this, List.drop_drop, Nat.succ_mul, Nat.add_comm]

/-- an own block is held fast from now on -/
theorem RelS.freeze {B w0 c S tk w} (h : RelS B w0 c S tk w) {id : Nat} {cs : List D} (hd : S[id]? = some (.arr cs)) :
    ∃ c', c.Le c' ∧ RelS B w0 c' (S.set id .dead) tk w ∧
      (∀ v off n sz, V c v (.osl id off n sz) → off + n * sz ≤ cs.length → V c' v (.sl (chunks sz n (cs.drop off)))) ∧
      (∀ v off, V c v (.po id off) → V c' v (.pe cs off)) := by
  obtain ⟨cur, T, hcur, hlen, hV⟩ := h.objF hd rfl
  have hid : id < c.n := h.lt hd
  have hat := h.atF hd rfl
  let c' : Cfg := { c with F := fun a => if a.block = c.μ id ∧ a.spot = none ∧ a.off < cs.length then cur[a.off]? else c.F a }
  have hsep := h.sep id _ hd (by simp) _ hat
  have hle : c.Le c' := ⟨fun a v ha => by
    simp only [c']
    rw [if_neg (fun hh => hsep a v ha hh.1)]; exact ha, Nat.le_refl _, fun _ _ => rfl, Nat.le_refl _, fun _ _ => .inl rfl, fun _ _ => .inl rfl, fun _ h => h⟩
  have hFnew : ∀ j, j < cs.length → c'.F ⟨c.μ id, j, none⟩ = cur[j]? := fun j hj => by simp only [c', true_and]; rw [if_pos hj]
  refine ⟨c', hle, ⟨h.hB, h.below, by simp [c', h.nS], h.mT, ?_, h.inj, h.base, ?_, ?_, ?_, ?_, h.tinj, h.dd⟩, ?_, ?_⟩
  · intro a v ha
    simp only [c'] at ha
    split at ha
    · rename_i hc
      obtain ⟨b, off, spot⟩ := a
      simp only at hc ha
      obtain ⟨rfl, rfl, hlt⟩ := hc
      refine ⟨by rw [cell_of_row w _ off cur T (0, 0) hcur]; exact ha, ?_⟩
      exact (hV off v _ ha (List.getElem?_eq_getElem hlt)).2
    · exact h.holds a v ha
  · intro i o ho hnd bo hbo a v ha
    by_cases hi : i = id
    · subst hi
      rw [List.getElem?_set_self (by rw [← h.nS]; exact hid)] at ho
      exact absurd (Option.some.inj ho).symm hnd
    · rw [List.getElem?_set_ne (by omega)] at ho
      simp only [c'] at ha
      split at ha
      · rename_i hc
        rw [hc.1]
        exact fun e => hi (h.inj i id bo (h.lt ho) hid hbo (by rw [hat, e]))
      · exact h.sep i o ho hnd bo hbo a v ha
  · intro i o ho hf
    by_cases hi : i = id
    · subst hi
      rw [List.getElem?_set_self (by rw [← h.nS]; exact hid)] at ho
      obtain rfl := Option.some.inj ho
      simp [O.fixed] at hf
    · rw [List.getElem?_set_ne (by omega)] at ho; exact h.nu i o ho hf
  · intro i o ho
    by_cases hi : i = id
    · subst hi
      rw [List.getElem?_set_self (by rw [← h.nS]; exact hid)] at ho
      obtain rfl := Option.some.inj ho
      trivial
    · rw [List.getElem?_set_ne (by omega)] at ho
      exact (h.obj i o ho).mono hle (h.lt ho) rfl
  · intro t x hx
    obtain ⟨a1, a2, a3, a4⟩ := h.tok t x hx
    refine ⟨a1, a2, a3, ?_⟩
    have htm : t < c.m := by rw [h.mT]; exact (List.getElem?_eq_some_iff.1 hx).1
    show match (c.τ t).blk with | none => _ | some (b, cap) => _
    cases hb' : (c.τ t).blk with
    | none => simpa [hb'] using a4
    | some p =>
      obtain ⟨b, cap⟩ := p
      simp only [hb'] at a4 ⊢
      obtain ⟨k1, k2, k3, k4, k5, k6, k7⟩ := a4
      refine ⟨k1, k2, k3, k4, k5, fun off spot ho => ?_, k7⟩
      simp only [c']
      rw [if_neg (fun hh => k7 id _ hid hat hh.1.symm)]
      exact k6 off spot ho
  · intro v off n sz hv hfit
    cases hv with
    | osl _ _ _ _ cap _ _ hcap =>
      have hk : ∀ i e j (d : D), (chunks sz n (cs.drop off))[i]? = some e → e[j]? = some d → i < n ∧ j < sz ∧ off + (i * sz + j) < cs.length ∧ cs[off + (i * sz + j)]? = some d := by
        intro i e j d h1 h2
        have hin : i < n := by have := (List.getElem?_eq_some_iff.1 h1).1; rwa [chunks_length] at this
        have he := chunks_get sz n _ i e h1
        subst he
        have hj : j < sz := by have := (List.getElem?_eq_some_iff.1 h2).1; rw [List.length_take] at this; omega
        rw [List.getElem?_take, if_pos hj, List.getElem?_drop, List.getElem?_drop] at h2
        exact ⟨hin, hj, (List.getElem?_eq_some_iff.1 h2).1, h2⟩
      have hslen := chunks_length sz n (cs.drop off)
      have key : V c' (.slice (some ⟨c.μ id, off, none⟩) (chunks sz n (cs.drop off)).length cap) (.sl (chunks sz n (cs.drop off))) := by
        refine .sl _ cap _ sz (fun i j => cur.getD (off + (i * sz + j)) undef) (by rw [hslen]; exact hcap) (fun e he => ?_) (fun i e j d h1 h2 => ?_) (fun i e j d h1 h2 => ?_)
        · obtain ⟨i, hi⟩ := List.getElem?_of_mem he
          have hin : i < n := by have := (List.getElem?_eq_some_iff.1 hi).1; rwa [hslen] at this
          rw [chunks_get sz n _ i e hi, List.length_take, List.length_drop, List.length_drop]
          have : (i + 1) * sz ≤ n * sz := Nat.mul_le_mul_right _ hin
          rw [Nat.succ_mul] at this
          omega
        · obtain ⟨_, _, hl, _⟩ := hk i e j d h1 h2
          rw [add_own', hFnew _ hl, Array.getD_eq_getD_getElem?, Array.getElem?_eq_getElem (by omega)]
          rfl
        · obtain ⟨_, _, hl, h4⟩ := hk i e j d h1 h2
          have hg : cur[off + (i * sz + j)]? = some (cur[off + (i * sz + j)]'(by omega)) := Array.getElem?_eq_getElem (by omega)
          rw [Array.getD_eq_getD_getElem?, hg]
          exact (hV _ _ _ hg h4).1.mono hle
      rw [hslen] at key
      exact key
  · intro v off hv
    cases hv with
    | po _ _ _ _ =>
      have key : V c' (.pointer (some ((⟨c.μ id, 0, none⟩ : Addr).add off))) (.pe cs off) := by
        refine .pe ⟨c.μ id, 0, none⟩ cs off (fun j => cur.getD j undef) (fun j d h1 => ?_) (fun j d h1 => ?_)
        · have hl := (List.getElem?_eq_some_iff.1 h1).1
          rw [add_own, hFnew _ hl, Array.getD_eq_getD_getElem?, Array.getElem?_eq_getElem (by omega)]
          rfl
        · have hl := (List.getElem?_eq_some_iff.1 h1).1
          have hg : cur[j]? = some (cur[j]'(by omega)) := Array.getElem?_eq_getElem (by omega)
          rw [Array.getD_eq_getD_getElem?, hg]
          exact (hV _ _ _ hg h1).1.mono hle
      rw [add_own] at key
      exact key

theorem V.vecInv {c : Cfg} {v : Value} {id n sz : Nat} (h : V c v (.vec id n sz)) :
    id < c.n ∧ ∃ k A cap, c.ν id = some k ∧ v = .slice A n cap ∧ (0 < n → A.isSome = true) ∧ n ≤ cap ∧ (n < k.len ∨ (n = k.len ∧ k.sz = sz ∧ k.is v)) := by
  cases h with
  | vec => exact ⟨‹_›, _, _, _, ‹_›, rfl, ‹_›, ‹_›, ‹_›⟩

/-- a growing row, as it stands -/
theorem RelS.vecNow {B w0 c S tk w} (h : RelS B w0 c S tk w) {id sz : Nat} {es : List (List D)} {e : TypeId} (hd : S[id]? = some (.vec es e sz)) {v : Value} {sz' : Nat} (hv : V c v (.vec id es.length sz')) :
    ∃ k, c.ν id = some k ∧ k.len = es.length ∧ k.e = e ∧ k.sz = sz ∧ (∀ x ∈ es, x.length = sz) ∧
      ((k.blk = none ∧ es = [] ∧ ∃ A, v = .slice A 0 0) ∨ ∃ b cap cur, k.blk = some (b, cap) ∧ v = .slice (some ⟨b, 0, none⟩) es.length cap ∧ w.heap[b]? = some (.cells cur e (0, 0)) ∧ cur.size = cap * sz ∧
        (∀ (j : Nat) v d, cur[j]? = some v → es.flatten[j]? = some d → V c v d ∧ v.oneCell' = true) ∧ es.length ≤ cap ∧ cap ≤ maxLen ∧ 0 < es.length) := by
  obtain ⟨k, h1, h2, h3, h4, h5, h6⟩ := h.obj id _ hd
  obtain ⟨_, k', A, cap, g1, g2, _, _, g3⟩ := hv.vecInv
  rw [h1] at g1; obtain rfl := Option.some.inj g1
  have hi : k.is v := by rcases g3 with g | ⟨_, _, g⟩; (· omega); exact g
  refine ⟨k, h1, h2, h3, h4, h5, ?_⟩
  unfold Tok.is at hi
  cases hb : k.blk with
  | none => rw [hb] at h6 hi; exact .inl ⟨rfl, h6, hi⟩
  | some p =>
    obtain ⟨b, cap'⟩ := p
    rw [hb] at h6 hi
    obtain ⟨⟨cur, a1, a2, a3⟩, a4, a5, a6⟩ := h6
    exact .inr ⟨b, cap', cur, rfl, by rw [← h2]; exact hi, a1, a2, a3, a4, a5, a6⟩

/-- append to a growing row of the call's own -/
theorem RelS.vgrow {P : Program} {B w0 c S tk w} (h : RelS B w0 c S tk w) {v x : Value} {es src : List (List D)} {id : Nat} {e : TypeId} {sz sz' : Nat}
    (hd : S[id]? = some (.vec es e sz)) (hv : V c v (.vec id es.length sz')) (hx : Src c w x src sz) (hsrc : ∀ s ∈ src, s.length = sz)
    (T ty : TypeId) (i : TypeInfo) (z : Value) (hT : P.underlying T = some (.slice e)) (hi : P.info? e = some i) (hz : i.zero = some z) (hsz : i.size = sz)
    (hzs : z.cells.size = sz) (h63 : es.length + src.length ≤ maxLen) (hbytes : (es.length + src.length) * i.bytes ≤ 140737488355328) :
    ∃ v' w' c', (Builtin.append_ #[T, T] ty #[v, x]).run P w = .ok v' w' ∧ c.Le c' ∧ RelS B w0 c' (S.set id (.vec (es ++ src) e sz)) tk w' ∧ V c' v' (.vec id (es ++ src).length sz) := by
  subst hsz
  have hid : id < c.n := h.lt hd
  obtain ⟨k, hk, hkl, hke, hks, hes, hform⟩ := h.vecNow hd hv
  by_cases h0 : src = []
  · subst h0
    have hsame : S.set id (.vec (es ++ ([] : List (List D))) e i.size) = S := by
      rw [List.append_nil]
      obtain ⟨hlt, he⟩ := List.getElem?_eq_some_iff.1 hd
      rw [← he]; exact List.set_getElem_self hlt
    obtain ⟨A', c', rfl⟩ : ∃ A' c', x = .slice A' 0 c' := by
      rcases hx with ⟨_, A, c, rfl⟩ | ⟨a, cap, _, rfl, _⟩
      · exact ⟨_, _, rfl⟩
      · exact ⟨_, _, rfl⟩
    have hval : ∃ A n cap, v = .slice A n cap ∧ n ≤ cap := by
      rcases hform with ⟨_, rfl, A, rfl⟩ | ⟨b, cap, cur, _, rfl, _, _, _, hc, _, _⟩
      · exact ⟨_, _, _, rfl, Nat.le_refl _⟩
      · exact ⟨_, _, _, rfl, hc⟩
    obtain ⟨A, n, cap, rfl, hn⟩ := hval
    refine ⟨_, w, c, run_append_empty T ty e i hT hi A n cap hn A' c', Cfg.Le.refl c, by rw [hsame]; exact h, ?_⟩
    rw [List.append_nil]
    obtain ⟨_, k', A1, cap1, g1, g2, g3, g4, g5⟩ := hv.vecInv
    rw [hk] at g1; obtain rfl := Option.some.inj g1
    obtain ⟨rfl, rfl, rfl⟩ : A = A1 ∧ n = es.length ∧ cap = cap1 := by simpa using g2
    exact .vec A cap id _ _ k hid hk g3 g4 (.inr ⟨hkl.symm, hks, by rcases g5 with g | ⟨_, _, g⟩; (· omega); exact g⟩)
  · have hpos : 0 < src.length := List.length_pos_iff.2 h0
    rcases hx with ⟨e0, _⟩ | ⟨a, cx, news, rfl, hnl, hnF, hnV⟩
    · exact absurd e0 h0
    have hncell : ∀ j u, news[j]? = some u → w.cell? (a.add j) = some u := fun j u hu => (hnF j u hu).1
    have hn1 : ∀ u ∈ news, u.oneCell' = true := fun u hu => by
      obtain ⟨j, hj⟩ := List.getElem?_of_mem hu
      exact (hnF j u hj).2
    have h63' : es.length + src.length ≤ 9223372036854775807 := by simp only [maxLen] at h63; omega
    have hlen2 : (es ++ src).length = es.length + src.length := by simp
    have hfl := flat_len es hes
    have hfl2 := flat_len src hsrc
    have hall : ∀ x ∈ es ++ src, x.length = i.size := fun x hx' => by
      rcases List.mem_append.1 hx' with h | h
      · exact hes x h
      · exact hsrc x h
    -- a row of cells that says the old ones and the new ones
    have says : ∀ (olds : List Value) (C : Array Value) (rest : List Value), C.toList = olds ++ news ++ rest → olds.length = es.length * i.size →
        (∀ (j : Nat) u d, olds[j]? = some u → es.flatten[j]? = some d → V c u d ∧ u.oneCell' = true) →
        ∀ (j : Nat) u d, C[j]? = some u → (es ++ src).flatten[j]? = some d → V c u d ∧ u.oneCell' = true := by
      intro olds C rest hC hol hoV j u d hu hd'
      have hjl : j < es.length * i.size + src.length * i.size := by
        have := (List.getElem?_eq_some_iff.1 hd').1
        rw [List.flatten_append, List.length_append, hfl, hfl2] at this
        exact this
      have hu' : (olds ++ news)[j]? = some u := by
        rw [← Array.getElem?_toList, hC, List.getElem?_append_left (by rw [List.length_append, hol, hnl]; exact hjl)] at hu
        exact hu
      rw [List.flatten_append] at hd'
      by_cases hj : j < es.length * i.size
      · rw [List.getElem?_append_left (by omega)] at hu' hd'
        exact hoV j u d hu' hd'
      · rw [List.getElem?_append_right (by omega)] at hu' hd'
        rw [hfl] at hd'; rw [hol] at hu'
        exact ⟨hnV _ u d hu' hd', hn1 u (List.mem_of_getElem? hu')⟩
    have fresh : ∀ (olds : List Value) (old : Nat), old < es.length + src.length → olds.length = es.length * i.size →
        (∀ (j : Nat) u d, olds[j]? = some u → es.flatten[j]? = some d → V c u d ∧ u.oneCell' = true) →
        ∃ c', c.Le c' ∧ RelS B w0 c' (S.set id (.vec (es ++ src) e i.size)) tk (w.drew.alloc (.cells (olds.toArray ++ news.toArray ++ Builtin.zeroCells z.cells (grownCap w (es.length + src.length) old e - (es.length + src.length))) e)) ∧
          V c' (.slice (some ⟨w.heap.size, 0, none⟩) (es ++ src).length (grownCap w (es.length + src.length) old e)) (.vec id (es ++ src).length i.size) := by
      intro olds old ho hol hoV
      have hge := grownCap_ge w (es.length + src.length) old e
      have hcm : grownCap w (es.length + src.length) old e ≤ maxLen := grownCap_le_maxLen w _ old e h63
      generalize hcap : grownCap w (es.length + src.length) old e = cap at hge hcm ⊢
      let C : Array Value := olds.toArray ++ news.toArray ++ Builtin.zeroCells z.cells (cap - (es.length + src.length))
      have hnew : (w.drew.alloc (.cells C e)).heap[w.heap.size]? = some (.cells C e (0, 0)) := heap_alloc_new w.drew _
      have hCs : C.size = cap * i.size := by
        simp only [C, Array.size_append, List.size_toArray, size_zeroCells, hzs, hol, hnl, ← Nat.add_mul]
        congr 1; omega
      obtain ⟨c', g1, g2, g3, g4⟩ := h.vset hd hk ⟨(es ++ src).length, e, i.size, some (w.heap.size, cap)⟩ (.inr (by rw [hlen2, hkl]; simp only; omega)) (es ++ src) (w.drew.alloc (.cells C e)) rfl rfl rfl (by simp)
        (fun j hj _ => Below.heap_alloc w.drew _ j hj) (fun b cap0 hb => by
          simp only [Option.some.injEq, Prod.mk.injEq] at hb
          obtain ⟨rfl, rfl⟩ := hb
          exact ⟨by simp, .inr (Nat.le_refl _)⟩) (fun c' hle hν => ⟨_, hν, rfl, rfl, rfl, hall, ⟨⟨C, hnew, hCs, fun j u d hu hd' => by
            have := says olds C (Builtin.zeroCells z.cells (cap - (es.length + src.length))).toList (by simp [C]) hol hoV j u d hu hd'
            exact ⟨this.1.mono hle, this.2⟩⟩, by rw [hlen2]; exact hge, hcm, by omega⟩⟩)
      exact ⟨c', g1, g4, .vec _ cap id _ _ _ (by rw [g3]; exact hid) g2 (fun _ => rfl) (by rw [hlen2]; exact hge) (.inr ⟨rfl, rfl, rfl⟩)⟩
    rcases hform with ⟨hkb, rfl, A, rfl⟩ | ⟨b, cap, cur, hkb, rfl, hcur, hcs, hcV, hcap, hcmax, hpe⟩
    · have hf := fresh [] 0 (by omega) (by simp) (by simp)
      simp only [List.length_nil, Nat.zero_add, List.nil_append, Array.empty_append] at hf hbytes h63' ⊢
      obtain ⟨c', g1, g2, g3⟩ := hf
      cases A with
      | none => exact ⟨_, _, c', run_append_nil (P := P) w T ty e i z hT hi hz a src.length cx news hnl hncell hpos (by omega) (by omega), g1, g2, g3⟩
      | some a0 =>
        have hr := run_append_grow (P := P) w T ty e i z hT hi hz a0 0 0 [] (by simp) (by simp) a src.length cx news hnl hncell (by omega) (by omega) (growslice_fits (by omega) (by simpa using hbytes))
        simp only [Nat.zero_add, Array.empty_append] at hr
        exact ⟨_, _, c', hr, g1, g2, g3⟩
    · have hmulc : es.length * i.size ≤ cap * i.size := Nat.mul_le_mul_right _ hcap
      have holV : ∀ (j : Nat) u d, (cur.toList.take (es.length * i.size))[j]? = some u → es.flatten[j]? = some d → V c u d ∧ u.oneCell' = true := fun j u d hu hd' => by
        rw [List.getElem?_take] at hu
        split at hu
        · exact hcV j u d (by simpa using hu) hd'
        · cases hu
      have holL : (cur.toList.take (es.length * i.size)).length = es.length * i.size := by rw [List.length_take]; have e1 : cur.toList.length = cur.size := Array.length_toList; omega
      by_cases hroom : es.length + src.length ≤ cap
      · have hmul : (es.length + src.length) * i.size ≤ cap * i.size := Nat.mul_le_mul_right _ hroom
        rw [Nat.add_mul] at hmul
        have hfit : es.length * i.size + news.length ≤ cur.size := by rw [hnl, hcs]; exact hmul
        have hr := run_append_room (P := P) w T ty e i hT hi b es.length cap cur hcur a src.length cx news hnl hncell hn1 hroom hfit
        let C : Array Value := (cur.toList.take (es.length * i.size) ++ news ++ cur.toList.drop (es.length * i.size + news.length)).toArray
        have hrow : (w.setRow b C).heap[b]? = some (.cells C e (0, 0)) := setRow_heap w b cur C e _ hcur
        obtain ⟨c', g1, g2, g3, g4⟩ := h.vset hd hk ⟨(es ++ src).length, e, i.size, some (b, cap)⟩ (.inr (by rw [hlen2, hkl]; simp only; omega)) (es ++ src) (w.setRow b C) rfl rfl rfl (by simp)
          (fun j hj hne => setRow_other w b j _ (by have := hne b cap hkb; omega)) (fun b' cap0 hb => by
            simp only [Option.some.injEq, Prod.mk.injEq] at hb
            obtain ⟨rfl, rfl⟩ := hb
            exact ⟨by have := (Array.getElem?_eq_some_iff.1 hrow).1; exact this, .inl ⟨cap, hkb⟩⟩) (fun c' hle hν => ⟨_, hν, rfl, rfl, rfl, hall, ⟨⟨C, hrow, by
              have e1 : cur.toList.length = cur.size := Array.length_toList
              simp only [C, List.size_toArray, List.length_append, List.length_drop, holL, hnl]; omega, fun j u d hu hd' => by
              have := says _ C (cur.toList.drop (es.length * i.size + news.length)) (by simp [C]) holL holV j u d hu hd'
              exact ⟨this.1.mono hle, this.2⟩⟩, by rw [hlen2]; exact hroom, hcmax, by omega⟩⟩)
        rw [← hlen2] at hr
        exact ⟨_, _, c', hr, g1, g4, .vec _ cap id _ _ _ (by rw [g3]; exact hid) g2 (fun _ => rfl) (by rw [hlen2]; exact hroom) (.inr ⟨rfl, rfl, rfl⟩)⟩
      · have hocell : ∀ j u, (cur.toList.take (es.length * i.size))[j]? = some u → w.cell? ((⟨b, 0, none⟩ : Addr).add j) = some u := fun j u hu => by
          rw [List.getElem?_take] at hu
          split at hu
          · rw [add_own, cell_of_row w _ j cur e (0, 0) hcur]; simpa using hu
          · cases hu
        have hr := run_append_grow (P := P) w T ty e i z hT hi hz ⟨b, 0, none⟩ es.length cap _ holL hocell a src.length cx news hnl hncell (by omega) (by omega) (growslice_fits (by omega) hbytes)
        obtain ⟨c', g1, g2, g3⟩ := fresh _ cap (by omega) holL holV
        rw [← hlen2] at hr g2 g3
        exact ⟨_, _, c', hr, g1, g2, g3⟩

/-- a growing row is held fast from now on -/
theorem RelS.vfreeze {B w0 c S tk w} (h : RelS B w0 c S tk w) {id sz : Nat} {es : List (List D)} {e : TypeId} (hd : S[id]? = some (.vec es e sz)) :
    ∃ c', c.Le c' ∧ RelS B w0 c' (S.set id .dead) tk w ∧ (∀ v sz', V c v (.vec id es.length sz') → V c' v (.sl es)) := by
  obtain ⟨k, hk, hkl, hke, hks, hes, hblk⟩ := h.obj id _ hd
  have hid : id < c.n := h.lt hd
  let c' : Cfg := { c with F := fun a => match k.blk with
    | none => c.F a
    | some (b, _) => if a.block = b ∧ a.spot = none ∧ a.off < es.length * sz then w.cell? a else c.F a }
  have hat : ∀ b cap, k.blk = some (b, cap) → c.at id = some b := fun b cap hb => by rw [Cfg.at_some hk, hb]; rfl
  have hcase : ∀ a v, c'.F a = some v → c.F a = some v ∨ ∃ b cap cur, k.blk = some (b, cap) ∧ a = ⟨b, a.off, none⟩ ∧ a.off < es.length * sz ∧ w.heap[b]? = some (.cells cur e (0, 0)) ∧ cur[a.off]? = some v ∧
      (∀ (j : Nat) v d, cur[j]? = some v → es.flatten[j]? = some d → V c v d ∧ v.oneCell' = true) := by
    intro a v ha
    simp only [c'] at ha
    cases hb : k.blk with
    | none => rw [hb] at ha; exact .inl ha
    | some p =>
      obtain ⟨b, cap⟩ := p
      rw [hb] at ha hblk
      simp only at ha hblk
      split at ha
      · rename_i hc
        obtain ⟨⟨cur, g1, g2, g3⟩, _⟩ := hblk
        obtain ⟨bb, off, spot⟩ := a
        simp only at hc ha
        obtain ⟨rfl, rfl, hlt⟩ := hc
        rw [cell_of_row w _ off cur e (0, 0) g1] at ha
        exact .inr ⟨bb, cap, cur, rfl, rfl, hlt, g1, ha, g3⟩
      · exact .inl ha
  have hle : c.Le c' := ⟨fun a v ha => by
    simp only [c']
    cases hb : k.blk with
    | none => exact ha
    | some p =>
      obtain ⟨b, cap⟩ := p
      simp only
      rw [if_neg (fun hh => h.sep id _ hd (by simp) b (hat b cap hb) a v ha hh.1)]; exact ha, Nat.le_refl _, fun _ _ => rfl, Nat.le_refl _, fun _ _ => .inl rfl, fun _ _ => .inl rfl, fun _ h => h⟩
  have hfl := flat_len es hes
  refine ⟨c', hle, ⟨h.hB, h.below, by simp [c', h.nS], h.mT, ?_, h.inj, h.base, ?_, ?_, ?_, ?_, h.tinj, h.dd⟩, ?_⟩
  · intro a v ha
    rcases hcase a v ha with h1 | ⟨b, cap, cur, g1, g2, g3, g4, g5, g6⟩
    · exact h.holds a v h1
    · refine ⟨by rw [g2, cell_of_row w _ a.off cur e (0, 0) g4]; exact g5, ?_⟩
      exact (g6 a.off v _ g5 (List.getElem?_eq_getElem (by rw [hfl]; exact g3))).2
  · intro i o ho hnd bo hbo a v ha
    by_cases hi : i = id
    · subst hi
      rw [List.getElem?_set_self (by rw [← h.nS]; exact hid)] at ho
      exact absurd (Option.some.inj ho).symm hnd
    · rw [List.getElem?_set_ne (by omega)] at ho
      rcases hcase a v ha with h1 | ⟨b, cap, cur, g1, g2, g3, g4, g5, g6⟩
      · exact h.sep i o ho hnd bo hbo a v h1
      · rw [g2]
        exact fun e1 => hi (h.inj i id bo (h.lt ho) hid hbo (by rw [hat b cap g1, ← e1]))
  · intro i o ho hf
    by_cases hi : i = id
    · subst hi
      rw [List.getElem?_set_self (by rw [← h.nS]; exact hid)] at ho
      obtain rfl := Option.some.inj ho
      simp [O.fixed] at hf
    · rw [List.getElem?_set_ne (by omega)] at ho; exact h.nu i o ho hf
  · intro i o ho
    by_cases hi : i = id
    · subst hi
      rw [List.getElem?_set_self (by rw [← h.nS]; exact hid)] at ho
      obtain rfl := Option.some.inj ho
      trivial
    · rw [List.getElem?_set_ne (by omega)] at ho
      exact (h.obj i o ho).mono hle (h.lt ho) rfl
  · intro t x hx
    obtain ⟨a1, a2, a3, a4⟩ := h.tok t x hx
    refine ⟨a1, a2, a3, ?_⟩
    have htm : t < c.m := by rw [h.mT]; exact (List.getElem?_eq_some_iff.1 hx).1
    show match (c.τ t).blk with | none => _ | some (b, cap) => _
    cases hb' : (c.τ t).blk with
    | none => simpa [hb'] using a4
    | some p =>
      obtain ⟨b, cap⟩ := p
      simp only [hb'] at a4 ⊢
      obtain ⟨k1, k2, k3, k4, k5, k6, k7⟩ := a4
      refine ⟨k1, k2, k3, k4, k5, fun off spot ho => ?_, k7⟩
      cases hc : c'.F ⟨b, off, spot⟩ with
      | none => rfl
      | some u =>
        rcases hcase _ u hc with h1 | ⟨b2, cap2, cur, g1, g2, _⟩
        · rw [k6 off spot ho] at h1; cases h1
        · have e1 : b = b2 := by simpa using congrArg Addr.block g2
          exact absurd e1.symm (k7 id b2 hid (hat b2 cap2 g1))
  · intro v sz' hv
    obtain ⟨k', hk', hkl', _, _, _, hform⟩ := h.vecNow hd hv
    rw [hk] at hk'; obtain rfl := Option.some.inj hk'
    rcases hform with ⟨_, he0, A, rfl⟩ | ⟨b, cap, cur, hkb, rfl, hcur, hcs, hcV, hcap, _, _⟩
    · subst he0
      cases A with
      | none => exact .slnil
      | some a => exact .sl a 0 [] sz (fun _ _ => undef) (by simp) (by simp) (by simp) (by simp)
    · have hk3 : ∀ (i : Nat) (x : List D) (j : Nat) (d : D), es[i]? = some x → x[j]? = some d → i * sz + j < es.length * sz ∧ es.flatten[i * sz + j]? = some d := fun i x j d h1 h2 => by
        have := flat_of es hes i j x d h1 h2
        exact ⟨by have := (List.getElem?_eq_some_iff.1 this).1; rwa [hfl] at this, this⟩
      have hmul : es.length * sz ≤ cap * sz := Nat.mul_le_mul_right _ hcap
      refine .sl _ cap es sz (fun i j => cur.getD (i * sz + j) undef) hcap hes (fun i x j d h1 h2 => ?_) (fun i x j d h1 h2 => ?_)
      · obtain ⟨hl, _⟩ := hk3 i x j d h1 h2
        rw [add_own]
        simp only [c', hkb]
        rw [if_pos ⟨trivial, trivial, hl⟩, cell_of_row w _ _ cur e (0, 0) hcur, Array.getD_eq_getD_getElem?, Array.getElem?_eq_getElem (by omega)]
        rfl
      · obtain ⟨hl, h4⟩ := hk3 i x j d h1 h2
        have hg : cur[i * sz + j]? = some (cur[i * sz + j]'(by omega)) := Array.getElem?_eq_getElem (by omega)
        rw [Array.getD_eq_getD_getElem?, hg]
        exact (hcV _ _ _ hg h4).1.mono hle

/-- an own row's cells, to be appended somewhere -/
theorem Src.of_vec {B w0 c S tk w} (h : RelS B w0 c S tk w) {id sz : Nat} {es : List (List D)} {e : TypeId} (hd : S[id]? = some (.vec es e sz)) {x : Value} {sz' : Nat} (hx : V c x (.vec id es.length sz')) : Src c w x es sz := by
  obtain ⟨k, hk, hkl, hke, hks, hes, hform⟩ := h.vecNow hd hx
  rcases hform with ⟨hkb, rfl, A, rfl⟩ | ⟨b, cap, cur, hkb, rfl, hcur, hcs, hcV, hcap, hcmax, hpe⟩
  · exact .inl ⟨rfl, _, _, rfl⟩
  · have hmul : es.length * sz ≤ cap * sz := Nat.mul_le_mul_right _ hcap
    have e1 : cur.toList.length = cur.size := Array.length_toList
    have hg : ∀ (j : Nat) u, (cur.toList.take (es.length * sz))[j]? = some u → j < es.length * sz ∧ cur[j]? = some u := fun j u hu => by
      rw [List.getElem?_take] at hu
      split at hu
      · rename_i hj; exact ⟨hj, by simpa using hu⟩
      · cases hu
    refine .inr ⟨_, cap, cur.toList.take (es.length * sz), rfl, by rw [List.length_take]; omega, fun j u hu => ?_, fun j u d hu hd' => (hcV j u d (hg j u hu).2 hd').1⟩
    obtain ⟨hj, hu⟩ := hg j u hu
    refine ⟨by rw [add_own, cell_of_row w _ j cur e (0, 0) hcur]; exact hu, ?_⟩
    exact (hcV j u _ hu (List.getElem?_eq_getElem (by rw [flat_len es hes]; exact hj))).2

theorem chunks_flat (sz : Nat) : ∀ (n : Nat) (l : List D), n * sz ≤ l.length → (chunks sz n l).flatten = l.take (n * sz) ∧ ∀ x ∈ chunks sz n l, x.length = sz
  | 0, l, _ => by simp [chunks]
  | n + 1, l, h => by
    rw [Nat.succ_mul] at h
    obtain ⟨h1, h2⟩ := chunks_flat sz n (l.drop sz) (by rw [List.length_drop]; omega)
    refine ⟨?_, fun x hx => ?_⟩
    · simp only [chunks, List.flatten_cons, h1]
      rw [Nat.succ_mul, Nat.add_comm (n * sz) sz, List.take_add]
    · simp only [chunks, List.mem_cons] at hx
      rcases hx with rfl | hx
      · rw [List.length_take]; omega
      · exact h2 x hx

theorem Src.of_osl {B w0 c S tk w} (h : RelS B w0 c S tk w) {id off n sz : Nat} {cs : List D} (hd : S[id]? = some (.arr cs)) {x : Value} (hx : V c x (.osl id off n sz)) (hle : off + n * sz ≤ cs.length) :
    Src c w x (chunks sz n (cs.drop off)) sz := by
  obtain ⟨cur, T, hcur, hlen, hV⟩ := h.objF hd rfl
  obtain ⟨hf, hl⟩ := chunks_flat sz n (cs.drop off) (by rw [List.length_drop]; omega)
  have hcl := chunks_length sz n (cs.drop off)
  have e1 : cur.toList.length = cur.size := Array.length_toList
  cases hx with
  | osl _ _ _ _ cap _ _ _ =>
    have hg : ∀ (j : Nat) u, ((cur.toList.drop off).take (n * sz))[j]? = some u → j < n * sz ∧ cur[off + j]? = some u := fun j u hu => by
      rw [List.getElem?_take] at hu
      split at hu
      · rename_i hj
        rw [List.getElem?_drop] at hu
        exact ⟨hj, by simpa using hu⟩
      · cases hu
    refine .inr ⟨⟨c.μ id, off, none⟩, cap, (cur.toList.drop off).take (n * sz), by rw [hcl], by rw [List.length_take, List.length_drop, hcl]; omega, fun j u hu => ?_, fun j u d hu hd' => ?_⟩
    · obtain ⟨hj, hu⟩ := hg j u hu
      refine ⟨by rw [add_own', cell_of_row w _ _ cur T (0, 0) hcur]; exact hu, ?_⟩
      exact (hV _ u _ hu (List.getElem?_eq_getElem (by omega))).2
    · obtain ⟨hj, hu⟩ := hg j u hu
      rw [hf, List.getElem?_take, if_pos hj, List.getElem?_drop] at hd'
      exact (hV _ u d hu hd').1

end Go.KL
