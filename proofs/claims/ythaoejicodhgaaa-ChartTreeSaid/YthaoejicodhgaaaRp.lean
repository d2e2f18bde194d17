/- what every row without laid variables wants -/
import Derived.Test.YthaoejicodhgaaaBase
import Derived.Test.YthaoejicodhgaaaKL29
import Derived.Test.YthaoejicodhgaaaRows
import Derived.Test.YthaoejicodhgaaaChc
set_option linter.unusedVariables false
set_option linter.unusedSimpArgs false
set_option maxRecDepth 100000
set_option maxHeartbeats 4000000
namespace Go.KL.Ythaoejicodhgaaa
open Go Go.KL Go.RowKit Go.Proofs Go.Proofs.Ythaoejicodhgaaa Go.ChangeShapes Go.WideShapes

theorem ownP : ownKnob Try.prog.godebug = none := by kernel_rfl
theorem laidOutP : laidOutB Try.prog = true := by kernel_rfl
theorem gokP (W : World) : GRel E0 (cfgW W) := fun g e he => by cases he
theorem noX {p : World → Tape → Input → Prop} {q1 q2 q3 q4 : World → Tape → Input → Prop} {A B : World → Tape → Input → Prop}
    (h : ∃ w t i, q1 w t i ∧ q2 w t i ∧ q3 w t i ∧ q4 w t i ∧ ((A w t i ∧ True) ∧ B w t i) ∧ p w t i) : ∃ w t i, q1 w t i ∧ q2 w t i ∧ q3 w t i ∧ q4 w t i ∧ (A w t i ∧ B w t i) ∧ p w t i := by
  obtain ⟨w, t, i, a, b, c, d, ⟨⟨e, _⟩, g⟩, h⟩ := h
  exact ⟨w, t, i, a, b, c, d, ⟨e, g⟩, h⟩
end Go.KL.Ythaoejicodhgaaa

/- charts: how an account and an act are read -/
set_option linter.unusedVariables false
set_option linter.unusedSimpArgs false
set_option maxRecDepth 100000
namespace Go.KL.Ythaoejicodhgaaa
open Go Go.KL Go.RowKit Go.Proofs

def shAc2 : Sh := .agg [.int .i64, .int .i64, .int .u8, .str, .bool]
theorem ok_ac2 {H : Type} {d : DataW H} (h : shAc2.ok d) : ∃ a : Ac, True ∧ shAc2.cells d = a.cs := by
  obtain ⟨parts, rfl, d1, _, rfl, ⟨n1, rfl, w1⟩, d2, _, rfl, ⟨n2, rfl, w2⟩, d3, _, rfl, ⟨n3, rfl, w3⟩, d4, _, rfl, ⟨s4, rfl, w4⟩, d5, _, rfl, ⟨b5, rfl⟩, rfl⟩ := h
  exact ⟨⟨n1, n2, n3, ⟨s4.toArray⟩, b5⟩, trivial, rfl⟩
def shAct : Sh := .agg [.bool, shAc2]
theorem ok_act {H : Type} {d : DataW H} (h : shAct.ok d) : ∃ a : Act, True ∧ shAct.cells d = a.cs := by
  obtain ⟨parts, rfl, d1, _, rfl, ⟨b1, rfl⟩, d2, _, rfl, h2, rfl⟩ := h
  obtain ⟨a, _, hc⟩ := ok_ac2 h2
  refine ⟨⟨b1, a⟩, trivial, ?_⟩
  show Sh.cells .bool _ ++ (shAc2.cells d2 ++ []) = _
  rw [hc]; rfl
end Go.KL.Ythaoejicodhgaaa
