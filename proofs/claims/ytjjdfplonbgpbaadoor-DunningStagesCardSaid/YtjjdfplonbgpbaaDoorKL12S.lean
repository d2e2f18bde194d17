/- A row of bytes as a string. -/
import Derived.Test.YtjjdfplonbgpbaaDoorKL12M
import Derived.Laws.BytesString
import Derived.Laws.Cells
set_option linter.unusedVariables false
set_option linter.unusedSimpArgs false
namespace Go.KL
open Go Go.RowKit

theorem u8L_map : ∀ {rows : List (List D)} {ns : List Int}, u8L rows = some ns → rows = ns.map fun n => [.int .u8 n]
  | [], ns, h => by simp [u8L] at h; subst h; rfl
  | r :: rs, ns, h => by
    unfold u8L at h
    split at h
    · rename_i he; cases he
    · rename_i n r' he
      obtain ⟨rfl, rfl⟩ : r = [.int .u8 n] ∧ rs = r' := by simpa using he
      simp only [Option.map_eq_some_iff] at h
      obtain ⟨ms, h1, rfl⟩ := h
      rw [u8L_map h1]; rfl
    · cases h
theorem srcD_rows {E : Env} {B : Nat} {w0 : World} {c : Cfg} {S : List O} {tk : List (Nat × TypeId × Nat)} {w : World} {sz : Nat} {x : Value} {d : D} {src : List (List D)} (hr : RelE E B w0 c S tk w) (hx : V c x d) (h : srcD S sz d = some src) (hs : ∀ s ∈ src, s.length = sz) : Src c w x src sz := by
  unfold srcD at h
  split at h
  · split at h
    · rename_i es e' sz' hes
      split at h
      · rename_i hc
        obtain rfl := Option.some.inj h
        obtain ⟨rfl, rfl⟩ := hc
        exact Src.of_vec hr.s hes hx
      · cases h
    · cases h
  · split at h
    · rename_i cs hcs
      split at h
      · rename_i hc
        obtain rfl := Option.some.inj h
        obtain ⟨rfl, hle⟩ := hc
        exact Src.of_osl hr.s hcs hx hle
      · cases h
    · cases h
  · exact Src.of_sl hr.s (hx.rd h) hs
theorem b2s_sound {E : Env} {P : Program} {B : Nat} {w0 : World} {c : Cfg} {S : List O} {tk : List (Nat × TypeId × Nat)} {w : World} {src dst e : TypeId} (hs : P.underlying src = some (.slice e)) (hd : P.underlying dst = some .string) (he : P.underlying e = some (.int .u8)) (hr : RelE E B w0 c S tk w) {v : Value} {d : D} (hv : V c v d)
    {rows : List (List D)} {ns : List Int} (h1 : srcD S 1 d = some rows) (h2 : u8L rows = some ns) : (convert src dst v).run P w = .ok (.string (bytesOf ns)) w := by
  have hrows := u8L_map h2
  have hs1 : ∀ s ∈ rows, s.length = 1 := fun s hs => by
    rw [hrows] at hs
    obtain ⟨n, -, rfl⟩ := List.mem_map.1 hs
    rfl
  have hx := srcD_rows hr hv h1 hs1
  have run : ∀ A k m, (convert src dst (.slice A k m)).run P w = (Conv.bytesToString (.slice A k m)).run P w := fun A k m => by
    simp only [convert, Sem.run_bind, run_underlying hs, run_underlying hd, run_underlying he, Result.andThen_ok]
  rcases hx with ⟨rfl, A, c', rfl⟩ | ⟨a, cx, news, rfl, hnl, hnF, hnV⟩
  · have : ns = [] := by cases ns with | nil => rfl | cons a b => simp at hrows
    subst this
    rw [run]
    cases A with
    | none => rfl
    | some a => exact run_bytesToString w a 0 c' [] (run_loadCells_list (P := P) (w := w) a [] (by simp))
  · have hl : rows.length = ns.length := by rw [hrows]; simp
    have hnews : news = ns.map (Value.int .u8) := by
      refine List.ext_getElem (by rw [hnl, hl]; simp) fun j g1 g2 => ?_
      have hj : j < ns.length := by simpa using g2
      have hfl : rows.flatten[j]? = some (.int .u8 ns[j]) := by
        have hf : ∀ l : List Int, (l.map fun n => [D.int .u8 n]).flatten = l.map (D.int .u8) := fun l => by
          induction l with
          | nil => rfl
          | cons a l ih => rw [List.map_cons, List.flatten_cons, ih]; rfl
        rw [hrows, hf, List.getElem?_map, List.getElem?_eq_getElem hj]; rfl
      have := hnV j _ _ (List.getElem?_eq_getElem g1) hfl
      rw [this.intInv]; simp
    rw [run, hl]
    refine run_bytesToString w a ns.length cx ns ?_
    have := run_loadCells_list (P := P) (w := w) a news fun j u hu => (hnF j u hu).1
    rw [hnl, hl, Nat.mul_one] at this
    rw [this, hnews]
end Go.KL
