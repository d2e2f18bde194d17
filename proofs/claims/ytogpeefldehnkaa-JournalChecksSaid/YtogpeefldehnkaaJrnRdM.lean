/- Proved: JournalChecks of chapter 20 answers true for every entry, accounts and day, and its argument reads afterwards as it did before. No condition. -/
import Derived.Test.YtogpeefldehnkaaJo
import Derived.Test.YtogpeefldehnkaaJg
set_option linter.unusedVariables false
set_option linter.unusedSimpArgs false
set_option maxRecDepth 100000
set_option maxHeartbeats 4000000
namespace Go.KL.Ytogpeefldehnkaa
open Go Go.KL Go.RowKit Go.Proofs Go.Proofs.Ytogpeefldehnkaa Go.ChangeShapes Go.WideShapes

theorem shapeJournalChecks0 : (shape Try.prog 40 67) = some shAskJ := by kernel_rfl

theorem journalChecks_lifted (os : Os) (started : os.Started) (H : Type) (enc : TypeId × Value → H) :
    ReturnsInHanded {} Try.checked os 8 .any (Rows.journalChecksSpec.pre6 enc Try.prog Try.f8 [] false)
      (Rows.journalChecksSpec.post enc Try.prog Try.f8 false true false false) := by
  refine returnsInHanded_of_change (C := Try.checked) ownP started (by kernel_rfl) Try.func8
    (noX (ChangeSpec.witness_at (enc := enc) (C := Try.checked) (os := os) (X := fun _ _ => True) false (World.holding Try.prog os ⟨#[], #[], []⟩) #[.agg #[.int .i64 0, .int .u8 0, .int .u64 0, .slice none 0 0, .slice none 0 0, .bool false, .int .i64 0]] 8 rfl (by kernel_rfl) (by kernel_rfl) (by kernel_rfl) (by kernel_rfl) (by kernel_rfl) trivial)) ?_
  intro W base args ds gs before hval0 hW _ _
  have hval : ∀ (j : Nat) t v, Try.f8.params[j]? = some t → args[j]? = some v → Value.okWide Try.prog W .any base t v := hval0
  have hW' := hW
  obtain ⟨p, q, hA0, hV0, rfl, hfz, hnd⟩ := hW
  have hA : DataW.TrodAll enc Try.prog W 0 (fun _ => true) true Try.f8.params.toList args.toList ds p := hA0
  rw [Try.params8] at hA hval
  obtain ⟨v0, d0, rfl, rfl, h0⟩ := trodAll_one hA
  obtain ⟨c0, rfl, _⟩ := okWide_struct Try.underlying67 (hval 0 67 v0 rfl rfl)
  obtain ⟨fuel0, h0'⟩ := h0
  obtain ⟨j0, k0, _⟩ := shOk Try.prog enc W (fun _ => true) true 40 67 _ shapeJournalChecks0 fuel0 _ _ _ h0'
  obtain ⟨ent0, more0, sh0, day0, hR0, hD0, hcs0⟩ := ok_askJ k0
  rw [hcs0] at j0
  refine (lift (J.journalChecks ent0 hR0 more0 sh0 day0) (gokP W) (VL.mk1 (arg_agg j0))).mono fun e W' ⟨he, hb⟩ => ?_
  refine ⟨_, he, post_true laidOutP ?_ (tb := 4) (by kernel_rfl) Try.underlying4 rfl ?_ hW' hb⟩
  · rw [Try.params8]; intro t ht; simp at ht; rcases ht with rfl <;> exact ⟨by kernel_rfl, of_decide_eq_true (by kernel_rfl)⟩
  · rfl

end Go.KL.Ytogpeefldehnkaa
namespace Go.Proofs.Ytogpeefldehnkaa
open Go Go.KL Go.RowKit Go.Proofs Go.KL.Ytogpeefldehnkaa
theorem journalChecks_in : (Rows.journalChecksRow.inPlace == Try.checked.prog.inPlace 8) = true := by kernel_rfl
theorem journalChecks_un : (Rows.journalChecksRow.unfollowed == Try.checked.prog.unfollowed 8) = true := by kernel_rfl
theorem journalChecks_rc : (Rows.journalChecksRow.recurses == Try.checked.prog.recurses 8) = true := by kernel_rfl
theorem journalChecks_nm : (Rows.journalChecksRow.named == Try.checked.prog.varsNamed 8) = true := by kernel_rfl
theorem journalChecks_cl : joinedFacts Try.checked.prog 8 Try.f8 Rows.journalChecksSpec Rows.journalChecksRow = true := by
  unfold joinedFacts
  rw [journalChecks_in, journalChecks_un, journalChecks_rc, journalChecks_nm]
  kernel_rfl
theorem journalChecks_holds : Rows.JournalChecksSaid :=
  OpenClaim.holds_of_wide 8 Try.f8 rfl rfl rfl rfl rfl rfl rfl ⟨rfl, rfl, rfl, rfl, rfl⟩ rfl rfl rfl rfl rfl (by kernel_rfl) Try.func8 journalChecks_cl
    (of_decide_eq_true (by kernel_rfl)) (by unfold Func.isWrapper; rw [if_neg (of_decide_eq_false (by kernel_rfl))]; exact ⟨rfl, rfl⟩)
    (fun os started H enc _ => journalChecks_lifted os started H enc)
#print axioms journalChecks_holds
end Go.Proofs.Ytogpeefldehnkaa

