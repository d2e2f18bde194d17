/- Proved: NotesWhole of chapter 25 answers true for every list of invoices and every credit, and its arguments read afterwards as they did before. No condition. -/
import Derived.Test.YtgdidchpignbpaaNd
import Derived.Test.YtgdidchpignbpaaNg
set_option linter.unusedVariables false
set_option linter.unusedSimpArgs false
set_option maxRecDepth 100000
set_option maxHeartbeats 4000000
namespace Go.KL.Ytgdidchpignbpaa
open Go Go.KL Go.RowKit Go.Proofs Go.Proofs.Ytgdidchpignbpaa Go.ChangeShapes Go.WideShapes

theorem shapeNotesWhole0 : (shape Try.prog 40 46) = some (.sl shInv) := by kernel_rfl

theorem notesWhole_lifted (os : Os) (started : os.Started) (H : Type) (enc : TypeId × Value → H) :
    ReturnsInHanded {} Try.checked os 5 .any (Rows.notesWholeSpec.pre6 enc Try.prog Try.f5 [] false)
      (Rows.notesWholeSpec.post enc Try.prog Try.f5 false true false false) := by
  refine returnsInHanded_of_change (C := Try.checked) ownP started (by kernel_rfl) Try.func5
    (noX (ChangeSpec.witness_at (enc := enc) (C := Try.checked) (os := os) (X := fun _ _ => True) false (World.holding Try.prog os ⟨#[], #[], []⟩) #[.slice none 0 0, .int .i64 0] 8 rfl (by kernel_rfl) (by kernel_rfl) (by kernel_rfl) (by kernel_rfl) (by kernel_rfl) trivial)) ?_
  intro W base args ds gs before hval0 hW _ _
  have hval : ∀ (j : Nat) t v, Try.f5.params[j]? = some t → args[j]? = some v → Value.okWide Try.prog W .any base t v := hval0
  have hW' := hW
  obtain ⟨p, q, hA0, hV0, rfl, hfz, hnd⟩ := hW
  have hA : DataW.TrodAll enc Try.prog W 0 (fun _ => true) true Try.f5.params.toList args.toList ds p := hA0
  rw [Try.params5] at hA hval
  obtain ⟨v0, v1, d0, d1, p0, p1, rfl, rfl, rfl, h0, h1⟩ := trodAll_two hA
  obtain ⟨a0, len0, cap0, rfl⟩ := okWide_slice Try.underlying46 (hval 0 46 v0 rfl rfl)
  obtain ⟨fuel0, h0'⟩ := h0
  obtain ⟨j0, k0, _⟩ := shOk Try.prog enc W (fun _ => true) true 40 46 _ shapeNotesWhole0 fuel0 _ _ _ h0'
  obtain ⟨l0, hR0, hl0, hcs0⟩ := ok_sl (R := Iv.R) (C := Iv.cs) (fun d h => ok_inv h) k0
  rw [hcs0] at j0
  obtain ⟨n1, rfl, rfl, rfl, w1⟩ := open_int Try.underlying2 (hval 1 2 v1 rfl rfl) h1
  refine (lift (notesWhole l0 hR0 n1 (ok_i64 w1)) (gokP W) (VL.mk2 (arg_one j0) (.int _ _))).mono fun e W' ⟨he, hb⟩ => ?_
  refine ⟨_, he, post_true laidOutP ?_ (tb := 4) (by kernel_rfl) Try.underlying4 rfl ?_ hW' hb⟩
  · rw [Try.params5]; intro t ht; simp at ht; rcases ht with rfl | rfl <;> exact ⟨by kernel_rfl, of_decide_eq_true (by kernel_rfl)⟩
  · rfl

end Go.KL.Ytgdidchpignbpaa
namespace Go.Proofs.Ytgdidchpignbpaa
open Go Go.KL Go.RowKit Go.Proofs Go.KL.Ytgdidchpignbpaa
theorem notesWhole_in : (Rows.notesWholeRow.inPlace == Try.checked.prog.inPlace 5) = true := by kernel_rfl
theorem notesWhole_un : (Rows.notesWholeRow.unfollowed == Try.checked.prog.unfollowed 5) = true := by kernel_rfl
theorem notesWhole_rc : (Rows.notesWholeRow.recurses == Try.checked.prog.recurses 5) = true := by kernel_rfl
theorem notesWhole_nm : (Rows.notesWholeRow.named == Try.checked.prog.varsNamed 5) = true := by kernel_rfl
theorem notesWhole_cl : joinedFacts Try.checked.prog 5 Try.f5 Rows.notesWholeSpec Rows.notesWholeRow = true := by
  unfold joinedFacts
  rw [notesWhole_in, notesWhole_un, notesWhole_rc, notesWhole_nm]
  kernel_rfl
theorem notesWhole_holds : Rows.NotesWholeSaid :=
  OpenClaim.holds_of_wide 5 Try.f5 rfl rfl rfl rfl rfl rfl rfl ⟨rfl, rfl, rfl, rfl, rfl⟩ rfl rfl rfl rfl rfl (by kernel_rfl) Try.func5 notesWhole_cl
    (of_decide_eq_true (by kernel_rfl)) (by unfold Func.isWrapper; rw [if_neg (of_decide_eq_false (by kernel_rfl))]; exact ⟨rfl, rfl⟩)
    (fun os started H enc _ => notesWhole_lifted os started H enc)
#print axioms notesWhole_holds
end Go.Proofs.Ytgdidchpignbpaa

