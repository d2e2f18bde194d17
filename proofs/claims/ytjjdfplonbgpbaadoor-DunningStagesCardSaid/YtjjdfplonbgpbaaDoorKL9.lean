/- Pure steps are sound. -/
import Derived.Test.YtjjdfplonbgpbaaDoorKL8
set_option linter.unusedVariables false
set_option linter.unusedSimpArgs false
namespace Go.KL
open Go Go.RowKit

section
variable {E : Env} {B : Nat} {w0 : World} {c : Cfg} {S : List O} {tk : List (Nat × TypeId × Nat)} {w : World} {a : Act} {fr : List (Nat × D)}

def plainV : Value → Prop
  | .bool _ | .agg _ | .pointer _ | .slice _ _ _ | .map _ | .func _ _ _ | .nilFunc => True
  | _ => False

theorem eqD_plain {q : EqK} {v u : Value} {x y : D} {b : Bool} (hv : V c v x) (hu : V c u y) (h : eqD q x y = some b) (h1 : ∀ k n, x ≠ .int k n) (h2 : ∀ s, x ≠ .str s) : plainV v := by
  cases q <;> simp only [eqD, reduceCtorEq] at h
  · cases x <;> cases y <;> simp only [eqLeaf, reduceCtorEq] at h
    rw [hv.boolInv]; trivial
  · cases x <;> cases y <;> simp only [eqAgg, reduceCtorEq] at h
    obtain ⟨cs, rfl, _⟩ := hv.aggInv; trivial
  · unfold eqPtr at h
    split at h
    · rw [hv.nilpInv]; trivial
    · rw [hv.nilpInv]; trivial
    · split at h
      · rename_i hp; obtain ⟨ad, rfl⟩ := isPtr_V hv hp; trivial
      · cases h
    · cases h
  · unfold eqSl at h
    split at h
    · rw [hv.nilslInv]; trivial
    · obtain ⟨a, n, m, rfl⟩ := hv.slCons; trivial
    · cases h
  · unfold eqMap at h
    split at h
    · rw [hv.nilmapInv]; trivial
    · rw [hv.nilmapInv]; trivial
    · rw [hv.mapInv.1]; trivial
    · cases h
  · unfold eqFn at h
    split at h
    · rw [hv.nilfnInv]; trivial
    · rw [hv.nilfnInv]; trivial
    · obtain ⟨cs, rfl, _⟩ := hv.fnInv; trivial
    · rw [hv.nilfnInv]; trivial
    · obtain ⟨fs, cs, rfl, _⟩ := hv.bmInv; trivial
    · cases h

theorem bin_run {P : Program} {T : TypeId} {op : BinOp} {q : EqK} (hq : (op = .eql ∨ op = .neq) → eqK P T = some q) (ox oy : Operand) {v u : Value} {x y d : D} (hv : V c v x) (hu : V c u y) (h : binD op q x y = some d) :
    ∃ r, ((do eqGuard op T ox oy v u; binOp op T v u) : Sem Value).run P w = .ok r w ∧ V c r d := by
  have guardEasy : ∀ v u, (match v, u with | .nilIface, .nilIface => False | .agg _, .agg _ => False | _, _ => True) → (eqGuard op T ox oy v u).run P w = .ok () w := by
    intro v u hm
    unfold eqGuard
    cases op <;> simp
    all_goals (cases v <;> cases u <;> simp at hm ⊢)
  unfold binD at h
  split at h
  · rename_i k n k' m
    obtain rfl := hv.intInv
    obtain rfl := hu.intInv
    have hg := guardEasy (.int k n) (.int k' m) trivial
    simp only [Sem.run_bind, hg, Result.andThen_ok]
    split at h
    · split at h
      · cases h
      · rename_i hn
        obtain rfl := Option.some.inj h
        exact ⟨_, by simp [binOp, Op.shift, hn], .int _ _⟩
    · split at h
      · cases h
      · rename_i hn
        obtain rfl := Option.some.inj h
        exact ⟨_, by simp [binOp, Op.shift, hn], .int _ _⟩
    · rename_i h1 h2
      split at h
      · rename_i hkk
        subst hkk
        exact intBin_run op k n m T ⟨h1, h2⟩ h
      · cases h
  · rename_i s t
    obtain rfl := hv.strInv
    obtain rfl := hu.strInv
    have hg := guardEasy (.string s) (.string t) trivial
    simp only [Sem.run_bind, hg, Result.andThen_ok]
    exact strBin_run op s t T h
  · have key : ∀ b, eqD q x y = some b → (op = .eql ∨ op = .neq) → (∀ k n, x ≠ .int k n) → (∀ s, x ≠ .str s) →
        ∃ r, ((do eqGuard op T ox oy v u; binOp op T v u) : Sem Value).run P w = .ok r w ∧ V c r (.bool (if op matches .eql then b else !b)) := by
      intro b hb hop hx1 hx2
      obtain ⟨h1, h2⟩ := eqD_run (w := w) (hq hop) hv hu hb
      have hpl := eqD_plain hv hu hb hx1 hx2
      simp only [Sem.run_bind, h2, Result.andThen_ok]
      rcases hop with rfl | rfl
      · refine ⟨.bool b, ?_, .bool _⟩
        cases v <;> first
          | exact hpl.elim
          | simp only [binOp, Sem.run_bind, h1, Result.andThen_ok, Sem.run_pure]
      · refine ⟨.bool (!b), ?_, .bool _⟩
        cases v <;> first
          | exact hpl.elim
          | simp only [binOp, Sem.run_bind, h1, Result.andThen_ok, Sem.run_pure]
    have hx : ∀ b, eqD q x y = some b → (∀ k n, x ≠ .int k n) ∧ (∀ s, x ≠ .str s) := by
      intro b hb
      constructor
      · rintro k n rfl
        cases q <;> cases y <;> simp [eqD, eqLeaf, eqAgg, eqPtr, eqSl, eqMap, eqFn, isPtr] at hb
      · rintro s rfl
        cases q <;> cases y <;> simp [eqD, eqLeaf, eqAgg, eqPtr, eqSl, eqMap, eqFn, isPtr] at hb
    split at h
    · simp only [Option.map_eq_some_iff] at h
      obtain ⟨b, hb, rfl⟩ := h
      obtain ⟨k1, k2⟩ := hx b hb
      simpa using key b hb (.inl rfl) k1 k2
    · simp only [Option.map_eq_some_iff] at h
      obtain ⟨b, hb, rfl⟩ := h
      obtain ⟨k1, k2⟩ := hx b hb
      simpa using key b hb (.inr rfl) k1 k2
    · cases h

end
end Go.KL
