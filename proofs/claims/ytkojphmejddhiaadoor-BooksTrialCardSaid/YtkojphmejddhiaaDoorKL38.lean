/- Loops that change older objects and older tokens. -/
import Derived.Test.YtkojphmejddhiaaDoorKL37
set_option linter.unusedVariables false
set_option linter.unusedSimpArgs false
namespace Go.KL
open Go Go.RowKit
structure FNextT (E : Env) (n0 m0 : Nat) {α : Type} (P : α → Prop) (μ : α → Nat) (gf : α → Fr) (gS gJ : α → List O) (gO gT : α → Tks) (a : α) (fr : Fr) (S J : List O) (T TK : Tks) : Prop where
  h : ∃ a', P a' ∧ μ a' < μ a ∧ S = gS a' ∧ T = gO a' ∧ FStep E n0 m0 fr J TK (gf a') (gJ a') (gT a')
theorem fnextT {E : Env} {n0 m0 : Nat} {α : Type} {P : α → Prop} {μ : α → Nat} {gf : α → Fr} {gS gJ : α → List O} {gO gT : α → Tks} {a : α} {S : List O} {T : Tks} {fr : Fr} {J : List O} {TK : Tks} (a' : α) (h1 : P a') (h2 : μ a' < μ a) (hS : S = gS a') (hT : T = gO a') (h3 : FStep E n0 m0 fr J TK (gf a') (gJ a') (gT a')) :
    FNextT E n0 m0 P μ gf gS gJ gO gT a fr S J T TK := ⟨a', h1, h2, hS, hT, h3⟩
def FRdT (E : Env) (n0 m0 : Nat) {α : Type} (P : α → Prop) (μ : α → Nat) (gf : α → Fr) (gS gJ : α → List O) (gO gT : α → Tks) (a : α) (Q : X → FK) : X → FK := fun x fr S J T TK => match x with
  | .nm => FNextT E n0 m0 P μ gf gS gJ gO gT a fr S J T TK
  | .ex id => Q (.ex id) fr S J T TK
  | .rt => Q .rt fr S J T TK
theorem floopT {E : Env} {n0 m0 : Nat} {W : Fr → List O → List O → Tks → Tks → (X → FK) → Prop} {fr : Fr} {S J : List O} {T TK : Tks} {Q : X → FK} {α : Type}
    (P : α → Prop) (μ : α → Nat) (gf : α → Fr) (gS gJ : α → List O) (gO gT : α → Tks) (hgS : ∀ a, P a → (gS a).length = n0 ∧ (gO a).length = m0 ∧ OSc n0 m0 (gS a)) (a0 : α) (hP : P a0) (hS0 : S = gS a0) (hT0 : T = gO a0) (h0 : FStep E n0 m0 fr J TK (gf a0) (gJ a0) (gT a0))
    (hb : ∀ a, P a → W (gf a) (gS a) (gJ a) (gO a) (gT a) (FRdT E n0 m0 P μ gf gS gJ gO gT a Q)) : FLoop E n0 m0 W fr S J T TK Q := by
  subst hS0; subst hT0
  refine ⟨fun n fr S' J T' TK => ∃ a, P a ∧ μ a = n ∧ fr = gf a ∧ S' = gS a ∧ J = gJ a ∧ T' = gO a ∧ TK = gT a, μ a0, gf a0, gS a0, gJ a0, gO a0, gT a0, h0.h _ _ (hgS a0 hP).1 (hgS a0 hP).2.1 (hgS a0 hP).2.2, ⟨a0, hP, rfl, rfl, rfl, rfl, rfl, rfl⟩, ?_⟩
  rintro n fr S' J T' TK ⟨a, ha, rfl, rfl, rfl, rfl, rfl, rfl⟩
  refine ⟨⟨(hgS a ha).1, (hgS a ha).2.1⟩, _, hb a ha, fun fr S' J T' TK h => ?_, fun id fr S' J T' TK h => h, fun fr S' J T' TK h => h⟩
  obtain ⟨a', h1, h2, rfl, rfl, h3⟩ := h.h
  exact ⟨μ a', gf a', _, gJ a', _, gT a', h2, h3.h _ _ (hgS a' h1).1 (hgS a' h1).2.1 (hgS a' h1).2.2, a', h1, rfl, rfl, rfl, rfl, rfl, rfl⟩
end Go.KL
