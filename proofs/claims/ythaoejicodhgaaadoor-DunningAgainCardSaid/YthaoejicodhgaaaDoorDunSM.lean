/- the row of DunningAgain -/
import Derived.Test.YthaoejicodhgaaaDoorDunRM
import Derived.Test.YthaoejicodhgaaaDoorDun2
set_option linter.unusedVariables false
set_option linter.unusedSimpArgs false
set_option maxRecDepth 100000
set_option maxHeartbeats 4000000
namespace Go.KL.YthaoejicodhgaaaDoor.U
open Go Go.KL Go.RowKit Go.Proofs Go.Proofs.YthaoejicodhgaaaDoor Go.ChangeShapes Go.WideShapes

theorem again_lifted (os : Os) (started : os.Started) (H : Type) (enc : TypeId × Value → H) :
    ReturnsInHanded {} Tryd.checked os 4 .any (fun w args => (Rows.dunningAgainSpec.pre enc Tryd.prog Tryd.f4 [] false w args ∧ laidMetH Tryd.prog Rows.dunningAgainRow.laid w) ∧ sizedMet enc Tryd.prog Tryd.f4 (OpenSpec.ofChange Rows.dunningAgainSpec) false w args)
      (Rows.dunningAgainSpec.post enc Tryd.prog Tryd.f4 false true false false) := by
  refine returnsInHanded_of_change_and (C := Tryd.checked) (X := fun w _ => laidMetH Tryd.prog Rows.dunningAgainRow.laid w) (fun _ _ _ hh h => h.of_heap hh) own started (by kernel_rfl) Tryd.func4
    (ChangeSpec.witness_at (enc := enc) (C := Tryd.checked) (os := os) (X := fun w _ => laidMetH Tryd.prog Rows.dunningAgainRow.laid w) false (laidWorld os) #[zeroAsked, .int .i64 0] 8 rfl (by kernel_rfl) (by kernel_rfl) (by kernel_rfl) (by kernel_rfl) (by kernel_rfl) (laidWorld_met os _)) ?_
  intro W base args ds gs before hval0 hW _ _ hL _
  have hval : ∀ (j : Nat) t v, Tryd.f4.params[j]? = some t → args[j]? = some v → Value.okWide Tryd.prog W .any base t v := hval0
  have hW' := hW
  obtain ⟨p, q, hA0, hV0, rfl, hfz, hnd⟩ := hW
  have hA : DataW.TrodAll enc Tryd.prog W 0 (fun _ => true) true Tryd.f4.params.toList args.toList ds p := hA0
  rw [Tryd.params4] at hA hval
  obtain ⟨v0, v1, d0, d1, p0, p1, rfl, rfl, rfl, h0, h1⟩ := trodAll_two hA
  obtain ⟨c0, rfl, _⟩ := okWide_struct Tryd.underlying28 (hval 0 28 v0 rfl rfl)
  obtain ⟨n, rfl, rfl, rfl, wn⟩ := open_int Tryd.underlying3 (hval 1 3 v1 rfl rfl) h1
  obtain ⟨fuel, h0'⟩ := h0
  obtain ⟨k1, k2, _⟩ := shOk Tryd.prog enc W (fun _ => true) true 40 28 _ shapeAsked fuel _ _ _ h0'
  obtain ⟨po, duns, l, day, hp, hd, hl, hday, hcs⟩ := ok_asked k2
  rw [hcs] at k1
  refine (lift (Again po duns l day n hp.1 hp.2 hl hd hday (ok_i64 wn)) (gok hL) (VL.mk2 (arg_agg k1) (.int _ _))).mono fun e W' ⟨he, hb⟩ => ?_
  refine ⟨_, he, post_true laidOut ?_ (tb := 4) (by kernel_rfl) Tryd.underlying4 rfl ?_ hW' hb⟩
  · rw [Tryd.params4]; intro t ht; simp at ht; rcases ht with rfl | rfl <;> exact ⟨by kernel_rfl, of_decide_eq_true (by kernel_rfl)⟩
  · rfl

theorem again_holds : Rows.DunningAgainSaid :=
  OpenClaim.holds_of_wide 4 Tryd.f4 rfl rfl rfl rfl rfl rfl rfl ⟨rfl, rfl, rfl, rfl, rfl⟩ rfl rfl rfl rfl rfl (by kernel_rfl) Tryd.func4 (by kernel_rfl)
    (of_decide_eq_true (by kernel_rfl)) (by unfold Func.isWrapper; rw [if_neg (of_decide_eq_false (by kernel_rfl))]; exact ⟨rfl, rfl⟩)
    (fun os started H enc _ => again_lifted os started H enc)
end Go.KL.YthaoejicodhgaaaDoor.U
