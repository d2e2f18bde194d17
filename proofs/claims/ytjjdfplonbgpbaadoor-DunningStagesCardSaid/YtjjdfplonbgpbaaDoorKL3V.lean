/- Append to a full slice: a new row. -/
import Derived.Test.YtjjdfplonbgpbaaDoorKL3
set_option linter.unusedVariables false
set_option linter.unusedSimpArgs false
namespace Go.KL
open Go Go.RowKit

theorem V.fullForm {c : Cfg} {v : Value} {es : List (List D)} (h : V c v (.full es)) (h0 : es ≠ []) : ∃ a, v = .slice (some a) es.length es.length ∧ V c v (.sl es) := by
  have hs := h.rd (es := es) rfl
  cases h with
  | fullnil => exact absurd rfl h0
  | full a es sz vs _ _ _ => exact ⟨a, rfl, hs⟩
theorem V.toFull {c : Cfg} {v : Value} {a : Addr} {es : List (List D)} (h : V c v (.sl es)) (hv : v = .slice (some a) es.length es.length) : V c v (.full es) := by
  cases h with
  | slnil => cases hv
  | sl a' cap es sz vs hcap hsz hF hV =>
    simp only [Value.slice.injEq, Option.some.injEq, true_and] at hv
    obtain ⟨-, rfl⟩ := hv
    exact .full a' es sz vs hsz hF hV

theorem RelS.vgrowFull {P : Program} {B : Nat} {w0 : World} {c : Cfg} {S : List O} {tk : List (Nat × TypeId × Nat)} {w : World} (h : RelS B w0 c S tk w) {v x : Value} {es src : List (List D)} {e : TypeId} {sz : Nat}
    (hv : V c v (.full es)) (hpe : es ≠ []) (hx : Src c w x src sz) (hes : ∀ s ∈ es, s.length = sz) (hsrc : ∀ s ∈ src, s.length = sz) (h0 : src ≠ [])
    (T ty : TypeId) (i : TypeInfo) (z : Value) (hT : P.underlying T = some (.slice e)) (hi : P.info? e = some i) (hz : i.zero = some z) (hsz : i.size = sz)
    (hzs : z.cells.size = sz) (h63 : es.length + src.length ≤ maxLen) (hbytes : (es.length + src.length) * i.bytes ≤ 140737488355328) :
    ∃ v' w' c', (Builtin.append_ #[T, T] ty #[v, x]).run P w = .ok v' w' ∧ c.Le c' ∧ RelS B w0 c' (S ++ [.vec (es ++ src) e sz]) tk w' ∧ V c' v' (.vec S.length (es ++ src).length sz) := by
  subst hsz
  obtain ⟨a0, rfl, hsl⟩ := hv.fullForm hpe
  obtain ⟨c1, k1, k2, k3, k4⟩ := h.newvec e i.size
  have hnS := h.nS
  have hd : (S ++ [O.vec [] e i.size])[c.n]? = some (O.vec [] e i.size) := by rw [hnS]; simp
  obtain ⟨k, hk, hkl, hke, hks, -, hform⟩ := k4.vecNow hd (k3 none)
  have hkb : k.blk = none := by
    rcases hform with ⟨hb, -, -⟩ | ⟨b, cap, cur, -, -, -, -, -, -, -, hp⟩
    · exact hb
    · simp at hp
  have hpos : 0 < src.length := List.length_pos_iff.2 h0
  have hpos2 : 0 < es.length := List.length_pos_iff.2 hpe
  rcases hx with ⟨e0, _⟩ | ⟨a, cx, news, rfl, hnl, hnF, hnV⟩
  · exact absurd e0 h0
  have hncell : ∀ j u, news[j]? = some u → w.cell? (a.add j) = some u := fun j u hu => (hnF j u hu).1
  have hn1 : ∀ u ∈ news, u.oneCell' = true := fun u hu => by
    obtain ⟨j, hj⟩ := List.getElem?_of_mem hu
    exact (hnF j u hj).2
  have h63' : es.length + src.length ≤ 9223372036854775807 := by simp only [maxLen] at h63; omega
  have hlen2 : (es ++ src).length = es.length + src.length := by simp
  have hfl := flat_len es hes
  have hfl2 := flat_len src hsrc
  have hall : ∀ x ∈ es ++ src, x.length = i.size := fun x hx' => by
    rcases List.mem_append.1 hx' with h | h
    · exact hes x h
    · exact hsrc x h
  obtain ⟨_, _, olds, hol, hoF, hoV⟩ := hsl.cellsOf hes
  have hocell : ∀ j u, olds[j]? = some u → w.cell? (a0.add j) = some u := fun j u hu => (h.holds _ _ (hoF j u hu)).1
  have ho1 : ∀ (j : Nat) (u : Value), olds[j]? = some u → u.oneCell' = true := fun j u hu => (h.holds _ _ (hoF j u hu)).2
  have hr := run_append_grow (P := P) w T ty e i z hT hi hz a0 es.length es.length olds hol hocell a src.length cx news hnl hncell (by omega) (by omega) (growslice_fits (by omega) hbytes)
  have hge := grownCap_ge w (es.length + src.length) es.length e
  have hcm : grownCap w (es.length + src.length) es.length e ≤ maxLen := grownCap_le_maxLen w _ es.length e h63
  generalize hcap : grownCap w (es.length + src.length) es.length e = cap at hge hcm hr
  have says : ∀ (C : Array Value) (rest : List Value), C.toList = olds ++ news ++ rest → ∀ (j : Nat) u d, C[j]? = some u → (es ++ src).flatten[j]? = some d → V c u d ∧ u.oneCell' = true := by
    intro C rest hC j u d hu hd'
    have hjl : j < es.length * i.size + src.length * i.size := by
      have := (List.getElem?_eq_some_iff.1 hd').1
      rw [List.flatten_append, List.length_append, hfl, hfl2] at this
      exact this
    have hu' : (olds ++ news)[j]? = some u := by
      rw [← Array.getElem?_toList, hC, List.getElem?_append_left (by rw [List.length_append, hol, hnl]; exact hjl)] at hu
      exact hu
    rw [List.flatten_append] at hd'
    by_cases hj : j < es.length * i.size
    · rw [List.getElem?_append_left (by omega)] at hu' hd'
      exact ⟨hoV j u d hu' hd', ho1 j u hu'⟩
    · rw [List.getElem?_append_right (by omega)] at hu' hd'
      rw [hfl] at hd'; rw [hol] at hu'
      exact ⟨hnV _ u d hu' hd', hn1 u (List.mem_of_getElem? hu')⟩
  let C : Array Value := olds.toArray ++ news.toArray ++ Builtin.zeroCells z.cells (cap - (es.length + src.length))
  have hnew : (w.drew.alloc (.cells C e)).heap[w.heap.size]? = some (.cells C e (0, 0)) := heap_alloc_new w.drew _
  have hCs : C.size = cap * i.size := by
    simp only [C, Array.size_append, List.size_toArray, size_zeroCells, hzs, hol, hnl, ← Nat.add_mul]
    congr 1; omega
  obtain ⟨c', g1, g2, g3, g4⟩ := k4.vset hd hk ⟨(es ++ src).length, e, i.size, some (w.heap.size, cap)⟩ (.inr (by rw [hlen2, hkl]; simp only [List.length_nil]; omega)) (es ++ src) (w.drew.alloc (.cells C e)) rfl rfl rfl (by simp)
    (fun j hj _ => Below.heap_alloc w.drew _ j hj) (fun b cap0 hb => by
      simp only [Option.some.injEq, Prod.mk.injEq] at hb
      obtain ⟨rfl, rfl⟩ := hb
      exact ⟨by simp, .inr (Nat.le_refl _)⟩) (fun c' hle hν => ⟨_, hν, rfl, rfl, rfl, hall, ⟨⟨C, hnew, hCs, fun j u d hu hd' => by
        have := says C (Builtin.zeroCells z.cells (cap - (es.length + src.length))).toList (by simp [C]) j u d hu hd'
        exact ⟨this.1.mono (k1.trans hle), this.2⟩⟩, by rw [hlen2]; exact hge, hcm, by omega⟩⟩)
  have hset : (S ++ [O.vec [] e i.size]).set c.n (O.vec (es ++ src) e i.size) = S ++ [O.vec (es ++ src) e i.size] := by
    rw [hnS, List.set_append_right _ _ (Nat.le_refl _)]; simp
  rw [hset] at g4
  have hV : V c' (.slice (some ⟨w.heap.size, 0, none⟩) (es ++ src).length cap) (.vec c.n (es ++ src).length i.size) := .vec _ cap c.n _ _ _ (by rw [g3]; omega) g2 (fun _ => rfl) (by rw [hlen2]; exact hge) (.inr ⟨rfl, rfl, rfl⟩)
  refine ⟨_, _, c', hr, k1.trans g1, g4, ?_⟩
  rw [← hnS]
  rw [hlen2] at hV ⊢
  exact hV
end Go.KL
