/- the row of InvoicesWhole -/
import Derived.Test.YtmijcaccgbhgdaaDoorLaw24c
import Derived.Test.YtmijcaccgbhgdaaDoorRow24
set_option linter.unusedVariables false
set_option linter.unusedSimpArgs false
set_option maxRecDepth 100000
set_option maxHeartbeats 4000000
namespace Go.KL.YtmijcaccgbhgdaaDoor
open Go Go.KL Go.RowKit Go.Proofs Go.Proofs.YtmijcaccgbhgdaaDoor Go.ChangeShapes Go.WideShapes

def shAct : Sh := .agg [.int .u8, .int .i64]
theorem shape57 : (shape Tryd.prog 31 57) = some (.sl shAct) := by kernel_rfl
theorem ok_act {H : Type} {d : DataW H} (h : shAct.ok d) : ∃ x : Act, x.R ∧ shAct.cells d = x.cs := by
  obtain ⟨parts, rfl, d1, _, rfl, ⟨n1, rfl, w1⟩, d2, _, rfl, ⟨n2, rfl, w2⟩, rfl⟩ := h
  exact ⟨⟨n1, n2⟩, ⟨ok_u8 w1, ok_i64 w2⟩, rfl⟩

theorem whole_lifted (os : Os) (started : os.Started) (H : Type) (enc : TypeId × Value → H) :
    ReturnsInHanded {} Tryd.checked os 6 .any (fun w args => (Rows.invoicesWholeSpec.pre enc Tryd.prog Tryd.f6 [] false w args ∧ laidMetH Tryd.prog Rows.invoicesWholeRow.laid w) ∧ sizedMet enc Tryd.prog Tryd.f6 (OpenSpec.ofChange Rows.invoicesWholeSpec) false w args)
      (Rows.invoicesWholeSpec.post enc Tryd.prog Tryd.f6 false true false false) := by
  refine returnsInHanded_of_change_and (C := Tryd.checked) (X := fun w _ => laidMetH Tryd.prog Rows.invoicesWholeRow.laid w) (fun _ _ _ hh h => h.of_heap hh) own started (by kernel_rfl) Tryd.func6
    (ChangeSpec.witness_at (enc := enc) (C := Tryd.checked) (os := os) (X := fun w _ => laidMetH Tryd.prog Rows.invoicesWholeRow.laid w) false (laidWorld os) #[zeroInv, .slice none 0 0] 8 rfl (by kernel_rfl) (by kernel_rfl) (by kernel_rfl) (by kernel_rfl) (by kernel_rfl) (laidWorld_met os _)) ?_
  intro W base args ds gs before hval0 hW _ _ hL _
  have hval : ∀ (j : Nat) t v, Tryd.f6.params[j]? = some t → args[j]? = some v → Value.okWide Tryd.prog W .any base t v := hval0
  have hW' := hW
  obtain ⟨p, q, hA0, hV0, rfl, hfz, hnd⟩ := hW
  have hA : DataW.TrodAll enc Tryd.prog W 0 (fun _ => true) true Tryd.f6.params.toList args.toList ds p := hA0
  rw [Tryd.params6] at hA hval
  obtain ⟨v0, v1, d0, d1, p0, p1, rfl, rfl, rfl, h0, h1⟩ := trodAll_two hA
  obtain ⟨c0, rfl, _⟩ := okWide_struct Tryd.underlying24 (hval 0 24 v0 rfl rfl)
  obtain ⟨a1, len1, cap1, rfl⟩ := okWide_slice Tryd.underlying57 (hval 1 57 v1 rfl rfl)
  obtain ⟨fuel, h0'⟩ := h0
  obtain ⟨k1, k2, _⟩ := shOk Tryd.prog enc W (fun _ => true) true 30 24 _ shape24 fuel _ _ _ h0'
  obtain ⟨x, hx, hcs⟩ := ok_inv k2
  rw [hcs] at k1
  obtain ⟨fuel1, h1'⟩ := h1
  obtain ⟨j1, j2, _⟩ := shOk Tryd.prog enc W (fun _ => true) true 31 57 _ shape57 fuel1 _ _ _ h1'
  obtain ⟨l, hlR, hll, hlcs⟩ := ok_sl (R := Act.R) (C := Act.cs) (fun d h => ok_act h) j2
  rw [hlcs] at j1
  refine (lift (Whole x hx l hlR) (gok hL) (VL.mk2 (arg_agg k1) (arg_one j1))).mono fun e W' ⟨he, hb⟩ => ?_
  refine ⟨_, he, post_true laidOut ?_ (tb := 4) (by kernel_rfl) Tryd.underlying4 rfl ?_ hW' hb⟩
  · rw [Tryd.params6]; intro t ht; simp at ht; rcases ht with rfl | rfl <;> exact ⟨by kernel_rfl, of_decide_eq_true (by kernel_rfl)⟩
  · rfl

theorem whole_holds : Rows.InvoicesWholeSaid :=
  OpenClaim.holds_of_wide 6 Tryd.f6 rfl rfl rfl rfl rfl rfl rfl ⟨rfl, rfl, rfl, rfl, rfl⟩ rfl rfl rfl rfl rfl (by kernel_rfl) Tryd.func6 (by kernel_rfl)
    (of_decide_eq_true (by kernel_rfl)) (by unfold Func.isWrapper; rw [if_neg (of_decide_eq_false (by kernel_rfl))]; exact ⟨rfl, rfl⟩)
    (fun os started H enc _ => whole_lifted os started H enc)

end Go.KL.YtmijcaccgbhgdaaDoor
