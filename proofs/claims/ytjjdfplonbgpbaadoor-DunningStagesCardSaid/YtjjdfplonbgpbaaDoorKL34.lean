/- A call that turns an object of the walk's own into one that is as G says. -/
import Derived.Test.YtjjdfplonbgpbaaDoorKL33
set_option linter.unusedVariables false
set_option linter.unusedSimpArgs false
namespace Go.KL
open Go Go.RowKit
section
variable {E : Env} {n0 m0 : Nat} {fr : Fr} {S J : List O} {T TK : Tks}
theorem ckJE {f : FuncId} {ds ds' : List D} {K : FD → List O → List O → Tks → Tks → Prop} {G : D → O → Prop} {k : Nat} (hn : S.length = n0) (hm : T.length = m0)
    (h : ACalls E f ds' (S ++ J) (T ++ TK) (fun r S' tk' => ∃ o', G r o' ∧ S' = (S ++ J).set (n0 + k) o' ∧ tk' = T ++ TK)) (hs : SubL ds ds')
    (hk : ∀ r o', G r o' → fzD r fun r => K (.d r) S (J.set k o') T TK) : CK E n0 m0 f ds S J T TK K := by
  refine ckG (h.sub hs) ?_
  rintro r' S' tk' ⟨o', hG, rfl, rfl⟩
  exact ⟨S, J.set k o', T, TK, set_own hn, rfl, hn, hm, hk _ _ hG⟩
/-- a call that changes nothing, and answers as G says -/
theorem ckE {f : FuncId} {ds ds' : List D} {K : FD → List O → List O → Tks → Tks → Prop} {G : D → Prop} (hn : S.length = n0) (hm : T.length = m0)
    (h : ∀ S tk, ACalls E f ds' S tk (fun r S' tk' => G r ∧ S' = S ∧ tk' = tk)) (hs : SubL ds ds')
    (hk : ∀ r, G r → fzD r fun r => K (.d r) S J T TK) : CK E n0 m0 f ds S J T TK K := by
  refine ckG ((h (S ++ J) (T ++ TK)).sub hs) ?_
  rintro r' S' tk' ⟨hG, rfl, rfl⟩
  exact ⟨S, J, T, TK, rfl, rfl, hn, hm, hk _ hG⟩
theorem ixT {s : ByteArray} {y : Int} (h0 : 0 ≤ y) (h : y < s.size) : ixSD (.str s) (.int .u64 y) = some (.int .u8 (s[y.toNat]'(by omega)).toNat) := by
  simp [ixSD, h0, getElem?_pos s y.toNat (by omega)]
end
end Go.KL
