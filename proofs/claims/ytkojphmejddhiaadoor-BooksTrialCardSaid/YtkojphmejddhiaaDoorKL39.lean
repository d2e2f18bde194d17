/- Bytes: a literal that grows, a row as a string. -/
import Derived.Test.YtkojphmejddhiaaDoorKL38
set_option linter.unusedVariables false
set_option linter.unusedSimpArgs false
namespace Go.KL
open Go Go.RowKit
section
variable {E : Env} {n0 m0 : Nat} {fr : Fr} {S J : List O} {T TK : Tks}
/-- append to a full row: a growing row of the walk's own -/
theorem gk_appf {T' e : TypeId} {sz bytes : Nat} {zs : List D} {x y : Opd} {es src : List (List D)} {K : FD → List O → List O → Tks → Tks → Prop} (hn : S.length = n0) (hm : T.length = m0) (hx : fev E fr x = .d (.full es)) (hne : es ≠ []) (hy : srcD (S ++ J) sz ((fev E fr y).to n0) = some src) (h0 : src ≠ [])
    (hes : ∀ s ∈ es, s.length = sz) (hs : ∀ s ∈ src, s.length = sz) (hl : es.length + src.length ≤ maxLen ∧ (es.length + src.length) * bytes ≤ 140737488355328)
    (hk : K (.d (.vec (n0 + J.length) (es ++ src).length sz)) S (J ++ [.vec (es ++ src) e sz]) T TK) : GK E n0 m0 (.app T' e sz bytes zs x y) fr S J T TK K := by
  refine ⟨?_⟩
  simp only [aop]
  rw [← fev_to y, hy]
  simp only
  rw [← fev_to x, hx]
  cases es with
  | nil => exact absurd rfl hne
  | cons a b => exact ⟨⟨h0, hes, hs, hl.1, hl.2⟩, S, J ++ [_], T, TK, by rw [List.append_assoc], rfl, hn, hm, (fzD_eq _ _).2 (by rw [List.length_append, hn]; exact hk)⟩
theorem u8L_of : ∀ ns : List Int, u8L (ns.map fun n => [.int .u8 n]) = some ns
  | [] => rfl
  | n :: ns => by simp [u8L, u8L_of ns]
/-- a row of bytes of the walk's own, as a string -/
theorem b2s_own {x : Opd} {k n : Nat} {e : TypeId} {ns : List Int} (hn : S.length = n0) (hx : ev E (frD n0 fr) x = .vec (n0 + k) n 1) (hJ : J[k]? = some (.vec (ns.map fun n => [.int .u8 n]) e 1)) (hl : ns.length = n) :
    pv E (frD n0 fr) (S ++ J) (.b2s x) = some (.str (bytesOf ns)) := by
  simp only [pv, hx, srcD, at_own hn hJ]
  simp [hl, u8L_of]
theorem b2s_full {x : Opd} {ns : List Int} (hx : ev E (frD n0 fr) x = .full (ns.map fun n => [.int .u8 n])) : pv E (frD n0 fr) (S ++ J) (.b2s x) = some (.str (bytesOf ns)) := by
  simp only [pv, hx, srcD, D.rd]
  simp [u8L_of]
end
end Go.KL
