/- Proved: ChartStandard of chapter 19 answers true for every account, and its argument reads afterwards as it did before. No condition. -/
import Derived.Test.YthaoejicodhgaaaChb
import Derived.Test.YthaoejicodhgaaaKL29
import Derived.Test.YthaoejicodhgaaaRows
set_option linter.unusedVariables false
set_option linter.unusedSimpArgs false
set_option maxRecDepth 100000
set_option maxHeartbeats 4000000
namespace Go.KL.Ythaoejicodhgaaa
open Go Go.KL Go.RowKit Go.Proofs Go.Proofs.Ythaoejicodhgaaa Go.ChangeShapes Go.WideShapes

theorem own : ownKnob Try.prog.godebug = none := by kernel_rfl
theorem laidOut : laidOutB Try.prog = true := by kernel_rfl
theorem gokN (W : World) : GRel E0 (cfgW W) := fun g e he => by cases he
theorem noX {p : World → Tape → Input → Prop} {q1 q2 q3 q4 : World → Tape → Input → Prop} {A B : World → Tape → Input → Prop}
    (h : ∃ w t i, q1 w t i ∧ q2 w t i ∧ q3 w t i ∧ q4 w t i ∧ ((A w t i ∧ True) ∧ B w t i) ∧ p w t i) : ∃ w t i, q1 w t i ∧ q2 w t i ∧ q3 w t i ∧ q4 w t i ∧ (A w t i ∧ B w t i) ∧ p w t i := by
  obtain ⟨w, t, i, a, b, c, d, ⟨⟨e, _⟩, g⟩, h⟩ := h
  exact ⟨w, t, i, a, b, c, d, ⟨e, g⟩, h⟩

def shAc : Sh := .agg [.int .i64, .int .i64, .int .u8, .str, .bool]
theorem shapeAc : (shape Try.prog 30 27) = some shAc := by kernel_rfl
structure Ac.R (a : Ac) : Prop where
  code : I64 a.code
  up : I64 a.up
  cl : 0 ≤ a.cl ∧ a.cl < 256
  nm : a.nm.size ≤ maxLen
theorem ok_ac {H : Type} {d : DataW H} (h : shAc.ok d) : ∃ a : Ac, a.R ∧ shAc.cells d = a.cs := by
  obtain ⟨parts, rfl, d1, _, rfl, ⟨n1, rfl, w1⟩, d2, _, rfl, ⟨n2, rfl, w2⟩, d3, _, rfl, ⟨n3, rfl, w3⟩, d4, _, rfl, ⟨s4, rfl, w4⟩, d5, _, rfl, ⟨b5, rfl⟩, rfl⟩ := h
  exact ⟨⟨n1, n2, n3, ⟨s4.toArray⟩, b5⟩, ⟨ok_i64 w1, ok_i64 w2, ok_u8 w3, w4⟩, rfl⟩

def zeroAc : Value := .agg #[.int .i64 0, .int .i64 0, .int .u8 0, .string ⟨#[]⟩, .bool false]

theorem standard_lifted (os : Os) (started : os.Started) (H : Type) (enc : TypeId × Value → H) :
    ReturnsInHanded {} Try.checked os 5 .any (Rows.chartStandardSpec.pre6 enc Try.prog Try.f5 [] false)
      (Rows.chartStandardSpec.post enc Try.prog Try.f5 false true false false) := by
  refine returnsInHanded_of_change (C := Try.checked) own started (by kernel_rfl) Try.func5
    (noX (ChangeSpec.witness_at (enc := enc) (C := Try.checked) (os := os) (X := fun _ _ => True) false (World.holding Try.prog os ⟨#[], #[], []⟩) #[zeroAc] 8 rfl (by kernel_rfl) (by kernel_rfl) (by kernel_rfl) (by kernel_rfl) (by kernel_rfl) trivial)) ?_
  intro W base args ds gs before hval0 hW _ _
  have hval : ∀ (j : Nat) t v, Try.f5.params[j]? = some t → args[j]? = some v → Value.okWide Try.prog W .any base t v := hval0
  have hW' := hW
  obtain ⟨p, q, hA0, hV0, rfl, hfz, hnd⟩ := hW
  have hA : DataW.TrodAll enc Try.prog W 0 (fun _ => true) true Try.f5.params.toList args.toList ds p := hA0
  rw [Try.params5] at hA hval
  obtain ⟨v0, d0, rfl, rfl, h0⟩ := trodAll_one hA
  obtain ⟨c0, rfl, _⟩ := okWide_struct Try.underlying27 (hval 0 27 v0 rfl rfl)
  obtain ⟨fuel, h0'⟩ := h0
  obtain ⟨k1, k2, _⟩ := shOk Try.prog enc W (fun _ => true) true 30 27 _ shapeAc fuel _ _ _ h0'
  obtain ⟨a, ha, hcs⟩ := ok_ac k2
  rw [hcs] at k1
  refine (lift (chartStandard a) (gokN W) (VL.mk1 (arg_agg k1))).mono fun e W' ⟨he, hb⟩ => ?_
  refine ⟨_, he, post_true laidOut ?_ (tb := 4) (by kernel_rfl) Try.underlying4 rfl ?_ hW' hb⟩
  · rw [Try.params5]; intro t ht; simp at ht; rcases ht with rfl; exact ⟨by kernel_rfl, of_decide_eq_true (by kernel_rfl)⟩
  · rfl

theorem standard_holds : Rows.ChartStandardSaid :=
  OpenClaim.holds_of_wide 5 Try.f5 rfl rfl rfl rfl rfl rfl rfl ⟨rfl, rfl, rfl, rfl, rfl⟩ rfl rfl rfl rfl rfl (by kernel_rfl) Try.func5 (by kernel_rfl)
    (of_decide_eq_true (by kernel_rfl)) (by unfold Func.isWrapper; rw [if_neg (of_decide_eq_false (by kernel_rfl))]; exact ⟨rfl, rfl⟩)
    (fun os started H enc _ => standard_lifted os started H enc)
end Go.KL.Ythaoejicodhgaaa
namespace Go.Proofs.Ythaoejicodhgaaa
open Go Go.KL Go.RowKit Go.Proofs Go.KL.Ythaoejicodhgaaa
theorem chartStandard_holds : Rows.ChartStandardSaid := standard_holds
#print axioms chartStandard_holds
end Go.Proofs.Ythaoejicodhgaaa
