/- Proved: JournalTurns of chapter 20 answers true for every entry and every day, and its arguments read afterwards as they did before. No condition. -/
import Derived.Test.YtogpeefldehnkaaJm
import Derived.Test.YtogpeefldehnkaaJg
set_option linter.unusedVariables false
set_option linter.unusedSimpArgs false
set_option maxRecDepth 100000
set_option maxHeartbeats 4000000
namespace Go.KL.Ytogpeefldehnkaa
open Go Go.KL Go.RowKit Go.Proofs Go.Proofs.Ytogpeefldehnkaa Go.ChangeShapes Go.WideShapes

theorem shapeJournalTurns0 : (shape Try.prog 40 39) = some shEnt := by kernel_rfl

theorem journalTurns_lifted (os : Os) (started : os.Started) (H : Type) (enc : TypeId × Value → H) :
    ReturnsInHanded {} Try.checked os 6 .any (Rows.journalTurnsSpec.pre6 enc Try.prog Try.f6 [] false)
      (Rows.journalTurnsSpec.post enc Try.prog Try.f6 false true false false) := by
  refine returnsInHanded_of_change (C := Try.checked) ownP started (by kernel_rfl) Try.func6
    (noX (ChangeSpec.witness_at (enc := enc) (C := Try.checked) (os := os) (X := fun _ _ => True) false (World.holding Try.prog os ⟨#[], #[], []⟩) #[.agg #[.int .i64 0, .int .u8 0, .int .u64 0, .slice none 0 0], .int .i64 0] 8 rfl (by kernel_rfl) (by kernel_rfl) (by kernel_rfl) (by kernel_rfl) (by kernel_rfl) trivial)) ?_
  intro W base args ds gs before hval0 hW _ _
  have hval : ∀ (j : Nat) t v, Try.f6.params[j]? = some t → args[j]? = some v → Value.okWide Try.prog W .any base t v := hval0
  have hW' := hW
  obtain ⟨p, q, hA0, hV0, rfl, hfz, hnd⟩ := hW
  have hA : DataW.TrodAll enc Try.prog W 0 (fun _ => true) true Try.f6.params.toList args.toList ds p := hA0
  rw [Try.params6] at hA hval
  obtain ⟨v0, v1, d0, d1, p0, p1, rfl, rfl, rfl, h0, h1⟩ := trodAll_two hA
  obtain ⟨c0, rfl, _⟩ := okWide_struct Try.underlying39 (hval 0 39 v0 rfl rfl)
  obtain ⟨fuel0, h0'⟩ := h0
  obtain ⟨j0, k0, _⟩ := shOk Try.prog enc W (fun _ => true) true 40 39 _ shapeJournalTurns0 fuel0 _ _ _ h0'
  obtain ⟨ent0, hR0, hcs0⟩ := ok_ent k0
  rw [hcs0] at j0
  obtain ⟨n1, rfl, rfl, rfl, w1⟩ := open_int Try.underlying3 (hval 1 3 v1 rfl rfl) h1
  refine (lift (J.journalTurns ent0 hR0 n1 (ok_i64 w1)) (gokP W) (VL.mk2 (arg_agg j0) (.int _ _))).mono fun e W' ⟨he, hb⟩ => ?_
  refine ⟨_, he, post_true laidOutP ?_ (tb := 4) (by kernel_rfl) Try.underlying4 rfl ?_ hW' hb⟩
  · rw [Try.params6]; intro t ht; simp at ht; rcases ht with rfl | rfl <;> exact ⟨by kernel_rfl, of_decide_eq_true (by kernel_rfl)⟩
  · rfl

end Go.KL.Ytogpeefldehnkaa
namespace Go.Proofs.Ytogpeefldehnkaa
open Go Go.KL Go.RowKit Go.Proofs Go.KL.Ytogpeefldehnkaa
theorem journalTurns_in : (Rows.journalTurnsRow.inPlace == Try.checked.prog.inPlace 6) = true := by kernel_rfl
theorem journalTurns_un : (Rows.journalTurnsRow.unfollowed == Try.checked.prog.unfollowed 6) = true := by kernel_rfl
theorem journalTurns_rc : (Rows.journalTurnsRow.recurses == Try.checked.prog.recurses 6) = true := by kernel_rfl
theorem journalTurns_nm : (Rows.journalTurnsRow.named == Try.checked.prog.varsNamed 6) = true := by kernel_rfl
theorem journalTurns_cl : joinedFacts Try.checked.prog 6 Try.f6 Rows.journalTurnsSpec Rows.journalTurnsRow = true := by
  unfold joinedFacts
  rw [journalTurns_in, journalTurns_un, journalTurns_rc, journalTurns_nm]
  kernel_rfl
theorem journalTurns_holds : Rows.JournalTurnsSaid :=
  OpenClaim.holds_of_wide 6 Try.f6 rfl rfl rfl rfl rfl rfl rfl ⟨rfl, rfl, rfl, rfl, rfl⟩ rfl rfl rfl rfl rfl (by kernel_rfl) Try.func6 journalTurns_cl
    (of_decide_eq_true (by kernel_rfl)) (by unfold Func.isWrapper; rw [if_neg (of_decide_eq_false (by kernel_rfl))]; exact ⟨rfl, rfl⟩)
    (fun os started H enc _ => journalTurns_lifted os started H enc)
#print axioms journalTurns_holds
end Go.Proofs.Ytogpeefldehnkaa

