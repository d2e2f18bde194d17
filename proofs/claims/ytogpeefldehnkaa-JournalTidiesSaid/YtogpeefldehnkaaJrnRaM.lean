/- Proved: JournalTidies of chapter 20 answers true for every list of lines, and its argument reads afterwards as it did before. No condition. -/
import Derived.Test.YtogpeefldehnkaaJm
import Derived.Test.YtogpeefldehnkaaJg
set_option linter.unusedVariables false
set_option linter.unusedSimpArgs false
set_option maxRecDepth 100000
set_option maxHeartbeats 4000000
namespace Go.KL.Ytogpeefldehnkaa
open Go Go.KL Go.RowKit Go.Proofs Go.Proofs.Ytogpeefldehnkaa Go.ChangeShapes Go.WideShapes

theorem shapeJournalTidies0 : (shape Try.prog 40 22) = some (.sl shLn) := by kernel_rfl

theorem journalTidies_lifted (os : Os) (started : os.Started) (H : Type) (enc : TypeId × Value → H) :
    ReturnsInHanded {} Try.checked os 3 .any (Rows.journalTidiesSpec.pre6 enc Try.prog Try.f3 [] false)
      (Rows.journalTidiesSpec.post enc Try.prog Try.f3 false true false false) := by
  refine returnsInHanded_of_change (C := Try.checked) ownP started (by kernel_rfl) Try.func3
    (noX (ChangeSpec.witness_at (enc := enc) (C := Try.checked) (os := os) (X := fun _ _ => True) false (World.holding Try.prog os ⟨#[], #[], []⟩) #[.slice none 0 0] 8 rfl (by kernel_rfl) (by kernel_rfl) (by kernel_rfl) (by kernel_rfl) (by kernel_rfl) trivial)) ?_
  intro W base args ds gs before hval0 hW _ _
  have hval : ∀ (j : Nat) t v, Try.f3.params[j]? = some t → args[j]? = some v → Value.okWide Try.prog W .any base t v := hval0
  have hW' := hW
  obtain ⟨p, q, hA0, hV0, rfl, hfz, hnd⟩ := hW
  have hA : DataW.TrodAll enc Try.prog W 0 (fun _ => true) true Try.f3.params.toList args.toList ds p := hA0
  rw [Try.params3] at hA hval
  obtain ⟨v0, d0, rfl, rfl, h0⟩ := trodAll_one hA
  obtain ⟨a0, len0, cap0, rfl⟩ := okWide_slice Try.underlying22 (hval 0 22 v0 rfl rfl)
  obtain ⟨fuel0, h0'⟩ := h0
  obtain ⟨j0, k0, _⟩ := shOk Try.prog enc W (fun _ => true) true 40 22 _ shapeJournalTidies0 fuel0 _ _ _ h0'
  obtain ⟨l0, hR0, hl0, hcs0⟩ := ok_sl (R := (fun x : Ln => x.R)) (C := Ln.cs) (fun d h => ok_ln h) k0
  rw [hcs0] at j0
  refine (lift (J.journalTidies l0 hR0) (gokP W) (VL.mk1 (arg_one j0))).mono fun e W' ⟨he, hb⟩ => ?_
  refine ⟨_, he, post_true laidOutP ?_ (tb := 4) (by kernel_rfl) Try.underlying4 rfl ?_ hW' hb⟩
  · rw [Try.params3]; intro t ht; simp at ht; rcases ht with rfl <;> exact ⟨by kernel_rfl, of_decide_eq_true (by kernel_rfl)⟩
  · rfl

end Go.KL.Ytogpeefldehnkaa
namespace Go.Proofs.Ytogpeefldehnkaa
open Go Go.KL Go.RowKit Go.Proofs Go.KL.Ytogpeefldehnkaa
theorem journalTidies_in : (Rows.journalTidiesRow.inPlace == Try.checked.prog.inPlace 3) = true := by kernel_rfl
theorem journalTidies_un : (Rows.journalTidiesRow.unfollowed == Try.checked.prog.unfollowed 3) = true := by kernel_rfl
theorem journalTidies_rc : (Rows.journalTidiesRow.recurses == Try.checked.prog.recurses 3) = true := by kernel_rfl
theorem journalTidies_nm : (Rows.journalTidiesRow.named == Try.checked.prog.varsNamed 3) = true := by kernel_rfl
theorem journalTidies_cl : joinedFacts Try.checked.prog 3 Try.f3 Rows.journalTidiesSpec Rows.journalTidiesRow = true := by
  unfold joinedFacts
  rw [journalTidies_in, journalTidies_un, journalTidies_rc, journalTidies_nm]
  kernel_rfl
theorem journalTidies_holds : Rows.JournalTidiesSaid :=
  OpenClaim.holds_of_wide 3 Try.f3 rfl rfl rfl rfl rfl rfl rfl ⟨rfl, rfl, rfl, rfl, rfl⟩ rfl rfl rfl rfl rfl (by kernel_rfl) Try.func3 journalTidies_cl
    (of_decide_eq_true (by kernel_rfl)) (by unfold Func.isWrapper; rw [if_neg (of_decide_eq_false (by kernel_rfl))]; exact ⟨rfl, rfl⟩)
    (fun os started H enc _ => journalTidies_lifted os started H enc)
#print axioms journalTidies_holds
end Go.Proofs.Ytogpeefldehnkaa

