/- Proved: JournalLeaves of chapter 20 answers true for every entry and accounts, and its arguments read afterwards as they did before. No condition. -/
import Derived.Test.YtogpeefldehnkaaJq
import Derived.Test.YtogpeefldehnkaaJg
set_option linter.unusedVariables false
set_option linter.unusedSimpArgs false
set_option maxRecDepth 100000
set_option maxHeartbeats 4000000
namespace Go.KL.Ytogpeefldehnkaa
open Go Go.KL Go.RowKit Go.Proofs Go.Proofs.Ytogpeefldehnkaa Go.ChangeShapes Go.WideShapes

theorem shapeJournalLeaves0 : (shape Try.prog 40 39) = some shEnt := by kernel_rfl
theorem shapeJournalLeaves1 : (shape Try.prog 40 40) = some (.sl shAcJ) := by kernel_rfl

theorem journalLeaves_lifted (os : Os) (started : os.Started) (H : Type) (enc : TypeId × Value → H) :
    ReturnsInHanded {} Try.checked os 5 .any (Rows.journalLeavesSpec.pre6 enc Try.prog Try.f5 [] false)
      (Rows.journalLeavesSpec.post enc Try.prog Try.f5 false true false false) := by
  refine returnsInHanded_of_change (C := Try.checked) ownP started (by kernel_rfl) Try.func5
    (noX (ChangeSpec.witness_at (enc := enc) (C := Try.checked) (os := os) (X := fun _ _ => True) false (World.holding Try.prog os ⟨#[], #[], []⟩) #[.agg #[.int .i64 0, .int .u8 0, .int .u64 0, .slice none 0 0], .slice none 0 0] 8 rfl (by kernel_rfl) (by kernel_rfl) (by kernel_rfl) (by kernel_rfl) (by kernel_rfl) trivial)) ?_
  intro W base args ds gs before hval0 hW _ _
  have hval : ∀ (j : Nat) t v, Try.f5.params[j]? = some t → args[j]? = some v → Value.okWide Try.prog W .any base t v := hval0
  have hW' := hW
  obtain ⟨p, q, hA0, hV0, rfl, hfz, hnd⟩ := hW
  have hA : DataW.TrodAll enc Try.prog W 0 (fun _ => true) true Try.f5.params.toList args.toList ds p := hA0
  rw [Try.params5] at hA hval
  obtain ⟨v0, v1, d0, d1, p0, p1, rfl, rfl, rfl, h0, h1⟩ := trodAll_two hA
  obtain ⟨c0, rfl, _⟩ := okWide_struct Try.underlying39 (hval 0 39 v0 rfl rfl)
  obtain ⟨fuel0, h0'⟩ := h0
  obtain ⟨j0, k0, _⟩ := shOk Try.prog enc W (fun _ => true) true 40 39 _ shapeJournalLeaves0 fuel0 _ _ _ h0'
  obtain ⟨ent0, hR0, hcs0⟩ := ok_ent k0
  rw [hcs0] at j0
  obtain ⟨a1, len1, cap1, rfl⟩ := okWide_slice Try.underlying40 (hval 1 40 v1 rfl rfl)
  obtain ⟨fuel1, h1'⟩ := h1
  obtain ⟨j1, k1, _⟩ := shOk Try.prog enc W (fun _ => true) true 40 40 _ shapeJournalLeaves1 fuel1 _ _ _ h1'
  obtain ⟨l1, hR1, hl1, hcs1⟩ := ok_sl (R := (fun _ => True)) (C := Go.KL.Ytogpeefldehnkaa.Ac.cs) (fun d h => ok_acJ h) k1
  rw [hcs1] at j1
  refine (lift (J.journalLeaves ent0 hR0 l1) (gokP W) (VL.mk2 (arg_agg j0) (arg_one j1))).mono fun e W' ⟨he, hb⟩ => ?_
  refine ⟨_, he, post_true laidOutP ?_ (tb := 4) (by kernel_rfl) Try.underlying4 rfl ?_ hW' hb⟩
  · rw [Try.params5]; intro t ht; simp at ht; rcases ht with rfl | rfl <;> exact ⟨by kernel_rfl, of_decide_eq_true (by kernel_rfl)⟩
  · rfl

end Go.KL.Ytogpeefldehnkaa
namespace Go.Proofs.Ytogpeefldehnkaa
open Go Go.KL Go.RowKit Go.Proofs Go.KL.Ytogpeefldehnkaa
theorem journalLeaves_in : (Rows.journalLeavesRow.inPlace == Try.checked.prog.inPlace 5) = true := by kernel_rfl
theorem journalLeaves_un : (Rows.journalLeavesRow.unfollowed == Try.checked.prog.unfollowed 5) = true := by kernel_rfl
theorem journalLeaves_rc : (Rows.journalLeavesRow.recurses == Try.checked.prog.recurses 5) = true := by kernel_rfl
theorem journalLeaves_nm : (Rows.journalLeavesRow.named == Try.checked.prog.varsNamed 5) = true := by kernel_rfl
theorem journalLeaves_cl : joinedFacts Try.checked.prog 5 Try.f5 Rows.journalLeavesSpec Rows.journalLeavesRow = true := by
  unfold joinedFacts
  rw [journalLeaves_in, journalLeaves_un, journalLeaves_rc, journalLeaves_nm]
  kernel_rfl
theorem journalLeaves_holds : Rows.JournalLeavesSaid :=
  OpenClaim.holds_of_wide 5 Try.f5 rfl rfl rfl rfl rfl rfl rfl ⟨rfl, rfl, rfl, rfl, rfl⟩ rfl rfl rfl rfl rfl (by kernel_rfl) Try.func5 journalLeaves_cl
    (of_decide_eq_true (by kernel_rfl)) (by unfold Func.isWrapper; rw [if_neg (of_decide_eq_false (by kernel_rfl))]; exact ⟨rfl, rfl⟩)
    (fun os started H enc _ => journalLeaves_lifted os started H enc)
#print axioms journalLeaves_holds
end Go.Proofs.Ytogpeefldehnkaa

