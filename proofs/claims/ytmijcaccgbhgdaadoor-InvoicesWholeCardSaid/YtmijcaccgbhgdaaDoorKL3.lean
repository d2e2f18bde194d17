/- Append, freezing, loading, storing, as runs. -/
import Derived.Test.YtmijcaccgbhgdaaDoorKL2
set_option linter.unusedVariables false
namespace Go.KL
open Go Go.RowKit

theorem V.slForm {c : Cfg} {v : Value} {es : List (List D)} (h : V c v (.sl es)) : (v = .slice none 0 0 ∧ es = []) ∨ ∃ a cap, v = .slice (some a) es.length cap ∧ es.length ≤ cap := by
  cases h with
  | slnil => exact .inl ⟨rfl, rfl⟩
  | sl a cap es sz vs hcap _ _ _ => exact .inr ⟨a, cap, rfl, hcap⟩

theorem RelS.grow {P : Program} {B w0 c S tk w} (h : RelS B w0 c S tk w) {v x : Value} {es src : List (List D)} {t : Nat} {e : TypeId} {sz : Nat}
    (hv : V c v (.gsl es t)) (ht : tk[t]? = some (es.length, e, sz)) (hx : V c x (.sl src)) (hsrc : ∀ s ∈ src, s.length = sz)
    (T ty : TypeId) (i : TypeInfo) (z : Value) (hT : P.underlying T = some (.slice e)) (hi : P.info? e = some i) (hz : i.zero = some z) (hsz : i.size = sz)
    (hzs : z.cells.size = sz) (h63 : es.length + src.length ≤ maxLen) (hbytes : (es.length + src.length) * i.bytes ≤ 140737488355328) :
    ∃ v' w' c', (Builtin.append_ #[T, T] ty #[v, x]).run P w = .ok v' w' ∧ c.Le c' ∧ RelS B w0 c' S (tk.set t ((es ++ src).length, e, sz)) w' ∧ V c' v' (.gsl (es ++ src) t) := by
  subst hsz
  obtain ⟨htm, hform⟩ := hv.gslInv
  have hlenτ := (h.tok t _ ht).1
  simp only at hlenτ
  by_cases h0 : src = []
  · subst h0
    have hsame : tk.set t ((es ++ ([] : List (List D))).length, e, i.size) = tk := by
      rw [List.append_nil]
      obtain ⟨hlt, he⟩ := List.getElem?_eq_some_iff.1 ht
      rw [← he]; exact List.set_getElem_self hlt
    rw [List.append_nil] at hsame ⊢
    obtain ⟨A', c', rfl⟩ : ∃ A' c', x = .slice A' 0 c' := by
      rcases hx.slForm with ⟨rfl, _⟩ | ⟨a, cap, rfl, _⟩
      · exact ⟨_, _, rfl⟩
      · exact ⟨_, _, rfl⟩
    obtain ⟨A, n, cap, rfl, hn⟩ : ∃ A n cap, v = .slice A n cap ∧ n ≤ cap := by
      rcases hform with ⟨_, ⟨A, rfl⟩, _⟩ | ⟨_, b, cap, sz, rfl, hc, _⟩
      · exact ⟨_, _, _, rfl, Nat.le_refl _⟩
      · exact ⟨_, _, _, rfl, hc⟩
    exact ⟨_, w, c, run_append_empty T ty e i hT hi A n cap hn A' c', Cfg.Le.refl c, by rw [hsame]; exact h, hv⟩
  · have hpos : 0 < src.length := List.length_pos_iff.2 h0
    rcases hx.slForm with ⟨_, e0⟩ | ⟨a, cx, rfl, hcx⟩
    · exact absurd e0 h0
    obtain ⟨_, _, news, hnl, hnF, hnV⟩ := hx.cellsOf hsrc
    have hncell : ∀ j u, news[j]? = some u → w.cell? (a.add j) = some u := fun j u hu => (h.holds _ _ (hnF j u hu)).1
    have hn1 : ∀ u ∈ news, u.oneCell' = true := fun u hu => by
      obtain ⟨j, hj⟩ := List.getElem?_of_mem hu
      exact (h.holds _ _ (hnF j u hj)).2
    have h63' : es.length + src.length ≤ 9223372036854775807 := by simp only [maxLen] at h63; omega
    have hlen2 : (es ++ src).length = es.length + src.length := by simp
    have fresh : ∀ (olds : List Value) (old : Nat), old < es.length + src.length → olds.length = es.length * i.size → (∀ x ∈ es, x.length = i.size) →
        (∀ (j : Nat) u d, olds[j]? = some u → es.flatten[j]? = some d → V c u d ∧ u.oneCell' = true) →
        ∃ c', c.Le c' ∧ RelS B w0 c' S (tk.set t ((es ++ src).length, e, i.size)) (w.drew.alloc (.cells (olds.toArray ++ news.toArray ++ Builtin.zeroCells z.cells (grownCap w (es.length + src.length) old e - (es.length + src.length))) e)) ∧
          V c' (.slice (some ⟨w.heap.size, 0, none⟩) (es ++ src).length (grownCap w (es.length + src.length) old e)) (.gsl (es ++ src) t) := by
      intro olds old ho hol hes hoV
      have hge := grownCap_ge w (es.length + src.length) old e
      have hcm : grownCap w (es.length + src.length) old e ≤ maxLen := grownCap_le_maxLen w _ old e h63
      refine h.tokfresh ht _ _ (es ++ src) (by omega) ?_ (by omega) hcm ?_ ?_
      · simp only [Array.size_append, List.size_toArray, size_zeroCells, hzs, hol, hnl, ← Nat.add_mul]
        congr 1
        omega
      · intro x hx'
        rcases List.mem_append.1 hx' with h | h
        · exact hes x h
        · exact hsrc x h
      · intro j u d hu hd
        have hfl := flat_len es hes
        have hfl2 := flat_len src hsrc
        have hjl : j < es.length * i.size + src.length * i.size := by
          have := (List.getElem?_eq_some_iff.1 hd).1
          rw [List.flatten_append, List.length_append, hfl, hfl2] at this
          exact this
        have hu' : (olds ++ news)[j]? = some u := by
          rw [← hu, Array.getElem?_append_left (by simp only [Array.size_append, List.size_toArray, hol, hnl]; exact hjl)]
          simp
        rw [List.flatten_append] at hd
        by_cases hj : j < es.length * i.size
        · rw [List.getElem?_append_left (by omega)] at hu' hd
          exact hoV j u d hu' hd
        · rw [List.getElem?_append_right (by omega)] at hu' hd
          rw [hfl] at hd; rw [hol] at hu'
          exact ⟨hnV _ u d hu' hd, hn1 u (List.mem_of_getElem? hu')⟩
    rcases hform with ⟨rfl, ⟨A, rfl⟩, hb0⟩ | ⟨hpe, b, cap, sz, rfl, hcap, hcur, hes, hsl⟩
    · have hf := fresh [] 0 (by omega) (by simp) (by simp) (by simp)
      simp only [List.length_nil, Nat.zero_add, List.nil_append, Array.empty_append] at hf hbytes h63' ⊢
      obtain ⟨c', g1, g2, g3⟩ := hf
      cases A with
      | none => exact ⟨_, _, c', run_append_nil (P := P) w T ty e i z hT hi hz a src.length cx news hnl hncell hpos (by omega) (by omega), g1, g2, g3⟩
      | some a0 =>
        have hr := run_append_grow (P := P) w T ty e i z hT hi hz a0 0 0 [] (by simp) (by simp) a src.length cx news hnl hncell (by omega) (by omega) (growslice_fits (by omega) (by simpa using hbytes))
        simp only [Nat.zero_add, Array.empty_append] at hr
        exact ⟨_, _, c', hr, g1, g2, g3⟩
    · obtain ⟨hblk, hts⟩ := hcur (by omega)
      have hsz : sz = i.size := by
        have := (h.tok t _ ht).2.2.1
        simp only at this
        rw [← hts, this]
      subst hsz
      by_cases hroom : es.length + src.length ≤ cap
      · obtain ⟨cur, c', k1, k2, k3, k4, k5⟩ := h.tokroom ht hblk news src hnl hroom hpos hes hsrc hsl hnV hn1
        have hfit : es.length * i.size + news.length ≤ cur.size := by rw [hnl, k2, ← Nat.add_mul]; exact Nat.mul_le_mul_right _ hroom
        have hr := run_append_room (P := P) w T ty e i hT hi b es.length cap cur k1 a src.length cx news hnl hncell hn1 hroom hfit
        rw [← hlen2] at hr
        exact ⟨_, _, c', hr, k3, k4, k5⟩
      · obtain ⟨_, _, olds, hol, hoF, hoV⟩ := hsl.cellsOf hes
        have hocell : ∀ j u, olds[j]? = some u → w.cell? ((⟨b, 0, none⟩ : Addr).add j) = some u := fun j u hu => (h.holds _ _ (hoF j u hu)).1
        have hr := run_append_grow (P := P) w T ty e i z hT hi hz ⟨b, 0, none⟩ es.length cap olds hol hocell a src.length cx news hnl hncell (by omega) (by omega) (growslice_fits (by omega) hbytes)
        obtain ⟨c', g1, g2, g3⟩ := fresh olds cap (by omega) hol hes (fun j u d hu hd => ⟨hoV j u d hu hd, (h.holds _ _ (hoF j u hu)).2⟩)
        rw [← hlen2] at hr g2 g3
        exact ⟨_, _, c', hr, g1, g2, g3⟩

def chunks (sz : Nat) : Nat → List D → List (List D)
  | 0, _ => []
  | n + 1, l => l.take sz :: chunks sz n (l.drop sz)

theorem chunks_length (sz : Nat) : ∀ n l, (chunks sz n l).length = n
  | 0, _ => rfl
  | n + 1, l => by simp [chunks, chunks_length sz n]
theorem chunks_get (sz : Nat) : ∀ n l i e, (chunks sz n l)[i]? = some e → e = (l.drop (i * sz)).take sz
  | 0, _, i, e, h => by simp [chunks] at h
  | n + 1, l, 0, e, h => by simpa [chunks] using h.symm
  | n + 1, l, i + 1, e, h => by
    have := chunks_get sz n (l.drop sz) i e (by simpa [chunks] using h)
    rw [this, List.drop_drop, Nat.succ_mul, Nat.add_comm]

/-- an own block is held fast from now on -/
theorem RelS.freeze {B w0 c S tk w} (h : RelS B w0 c S tk w) {id : Nat} {cs : List D} (hd : S[id]? = some (.arr cs)) :
    ∃ c', c.Le c' ∧ RelS B w0 c' (S.set id .dead) tk w ∧
      (∀ v off n sz, V c v (.osl id off n sz) → off + n * sz ≤ cs.length → V c' v (.sl (chunks sz n (cs.drop off)))) ∧
      (∀ v off, V c v (.po id off) → V c' v (.pe cs off)) := by
  obtain ⟨cur, T, hcur, hlen, hV⟩ := h.obj id _ hd
  have hid : id < c.n := by rw [h.nS]; exact (List.getElem?_eq_some_iff.1 hd).1
  let c' : Cfg := { c with F := fun a => if a.block = c.μ id ∧ a.spot = none ∧ a.off < cs.length then cur[a.off]? else c.F a }
  have hsep := h.sep id _ hd (by simp)
  have hle : c.Le c' := ⟨fun a v ha => by
    simp only [c']
    rw [if_neg (fun hh => hsep a v ha hh.1)]; exact ha, Nat.le_refl _, fun _ _ => rfl, Nat.le_refl _, fun _ _ => .inl rfl⟩
  have hFnew : ∀ j, j < cs.length → c'.F ⟨c.μ id, j, none⟩ = cur[j]? := fun j hj => by simp only [c', true_and]; rw [if_pos hj]
  refine ⟨c', hle, ⟨h.hB, h.below, by simp [c', h.nS], h.mT, ?_, h.inj, h.base, ?_, ?_, ?_, h.tinj⟩, ?_, ?_⟩
  · intro a v ha
    simp only [c'] at ha
    split at ha
    · rename_i hc
      obtain ⟨b, off, spot⟩ := a
      simp only at hc ha
      obtain ⟨rfl, rfl, hlt⟩ := hc
      refine ⟨by rw [cell_of_row w _ off cur T (0, 0) hcur]; exact ha, ?_⟩
      exact (hV off v _ ha (List.getElem?_eq_getElem hlt)).2
    · exact h.holds a v ha
  · intro i o ho hnd a v ha
    by_cases hi : i = id
    · subst hi
      rw [List.getElem?_set_self (by rw [← h.nS]; exact hid)] at ho
      exact absurd (Option.some.inj ho).symm hnd
    · rw [List.getElem?_set_ne (by omega)] at ho
      simp only [c'] at ha
      show a.block ≠ c.μ i
      split at ha
      · rename_i hc
        rw [hc.1]
        exact fun e => hi (h.inj i id (by rw [h.nS]; exact (List.getElem?_eq_some_iff.1 ho).1) hid e.symm)
      · exact h.sep i o ho hnd a v ha
  · intro i o ho
    by_cases hi : i = id
    · subst hi
      rw [List.getElem?_set_self (by rw [← h.nS]; exact hid)] at ho
      obtain rfl := Option.some.inj ho
      trivial
    · rw [List.getElem?_set_ne (by omega)] at ho
      exact (h.obj i o ho).mono hle
  · intro t x hx
    obtain ⟨a1, a2, a3, a4⟩ := h.tok t x hx
    refine ⟨a1, a2, a3, ?_⟩
    have htm : t < c.m := by rw [h.mT]; exact (List.getElem?_eq_some_iff.1 hx).1
    show match (c.τ t).blk with | none => _ | some (b, cap) => _
    cases hb' : (c.τ t).blk with
    | none => simpa [hb'] using a4
    | some p =>
      obtain ⟨b, cap⟩ := p
      simp only [hb'] at a4 ⊢
      obtain ⟨k1, k2, k3, k4, k5, k6, k7⟩ := a4
      refine ⟨k1, k2, k3, k4, k5, fun off spot ho => ?_, k7⟩
      simp only [c']
      rw [if_neg (fun hh => k7 id hid hh.1.symm)]
      exact k6 off spot ho
  · intro v off n sz hv hfit
    cases hv with
    | osl _ _ _ _ cap _ hcap =>
      have hk : ∀ i e j (d : D), (chunks sz n (cs.drop off))[i]? = some e → e[j]? = some d → i < n ∧ j < sz ∧ off + (i * sz + j) < cs.length ∧ cs[off + (i * sz + j)]? = some d := by
        intro i e j d h1 h2
        have hin : i < n := by have := (List.getElem?_eq_some_iff.1 h1).1; rwa [chunks_length] at this
        have he := chunks_get sz n _ i e h1
        subst he
        have hj : j < sz := by have := (List.getElem?_eq_some_iff.1 h2).1; rw [List.length_take] at this; omega
        rw [List.getElem?_take, if_pos hj, List.getElem?_drop, List.getElem?_drop] at h2
        exact ⟨hin, hj, (List.getElem?_eq_some_iff.1 h2).1, h2⟩
      have hslen := chunks_length sz n (cs.drop off)
      have key : V c' (.slice (some ⟨c.μ id, off, none⟩) (chunks sz n (cs.drop off)).length cap) (.sl (chunks sz n (cs.drop off))) := by
        refine .sl _ cap _ sz (fun i j => cur.getD (off + (i * sz + j)) undef) (by rw [hslen]; exact hcap) (fun e he => ?_) (fun i e j d h1 h2 => ?_) (fun i e j d h1 h2 => ?_)
        · obtain ⟨i, hi⟩ := List.getElem?_of_mem he
          have hin : i < n := by have := (List.getElem?_eq_some_iff.1 hi).1; rwa [hslen] at this
          rw [chunks_get sz n _ i e hi, List.length_take, List.length_drop, List.length_drop]
          have : (i + 1) * sz ≤ n * sz := Nat.mul_le_mul_right _ hin
          rw [Nat.succ_mul] at this
          omega
        · obtain ⟨_, _, hl, _⟩ := hk i e j d h1 h2
          rw [add_own', hFnew _ hl, Array.getD_eq_getD_getElem?, Array.getElem?_eq_getElem (by omega)]
          rfl
        · obtain ⟨_, _, hl, h4⟩ := hk i e j d h1 h2
          have hg : cur[off + (i * sz + j)]? = some (cur[off + (i * sz + j)]'(by omega)) := Array.getElem?_eq_getElem (by omega)
          rw [Array.getD_eq_getD_getElem?, hg]
          exact (hV _ _ _ hg h4).1.mono hle
      rw [hslen] at key
      exact key
  · intro v off hv
    cases hv with
    | po _ _ _ =>
      have key : V c' (.pointer (some ((⟨c.μ id, 0, none⟩ : Addr).add off))) (.pe cs off) := by
        refine .pe ⟨c.μ id, 0, none⟩ cs off (fun j => cur.getD j undef) (fun j d h1 => ?_) (fun j d h1 => ?_)
        · have hl := (List.getElem?_eq_some_iff.1 h1).1
          rw [add_own, hFnew _ hl, Array.getD_eq_getD_getElem?, Array.getElem?_eq_getElem (by omega)]
          rfl
        · have hl := (List.getElem?_eq_some_iff.1 h1).1
          have hg : cur[j]? = some (cur[j]'(by omega)) := Array.getElem?_eq_getElem (by omega)
          rw [Array.getD_eq_getD_getElem?, hg]
          exact (hV _ _ _ hg h1).1.mono hle
      rw [add_own] at key
      exact key

end Go.KL
