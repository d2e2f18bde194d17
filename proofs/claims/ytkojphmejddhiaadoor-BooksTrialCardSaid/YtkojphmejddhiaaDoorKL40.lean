/- a call that leaves new objects behind, of which G tells something -/
import Derived.Test.YtkojphmejddhiaaDoorKL39
set_option linter.unusedVariables false
set_option linter.unusedSectionVars false
namespace Go.KL
open Go Go.RowKit
section
variable {E : Env} {n0 m0 : Nat} {fr : Fr} {S J : List O} {T TK : Tks}
theorem ckNE {f : FuncId} {ds ds' : List D} {K : FD → List O → List O → Tks → Tks → Prop} {G : D → O → Prop} {Jn : O → List O} (hn : S.length = n0) (hm : T.length = m0)
    (h : ACalls E f ds' (S ++ J) (T ++ TK) (fun r S' tk' => ∃ o', G r o' ∧ S' = (S ++ J) ++ Jn o' ∧ tk' = T ++ TK)) (hs : SubL ds ds')
    (hk : ∀ r o', G r o' → fzD r fun r => K (.d r) S (J ++ Jn o') T TK) : CK E n0 m0 f ds S J T TK K := by
  refine ckG (h.sub hs) ?_
  rintro r' S' tk' ⟨o', hG, rfl, rfl⟩
  exact ⟨S, J ++ Jn o', T, TK, List.append_assoc .., rfl, hn, hm, hk _ _ hG⟩
end
end Go.KL
