/- Proved: NotesBalance of chapter 25 answers true for every note, invoice and deferred sum, and its argument reads afterwards as it did before. No condition. -/
import Derived.Test.YtgdidchpignbpaaNd
import Derived.Test.YtgdidchpignbpaaNf
set_option linter.unusedVariables false
set_option linter.unusedSimpArgs false
set_option maxRecDepth 100000
set_option maxHeartbeats 4000000
namespace Go.KL.Ytgdidchpignbpaa
open Go Go.KL Go.RowKit Go.Proofs Go.Proofs.Ytgdidchpignbpaa Go.ChangeShapes Go.WideShapes

theorem shapeNotesBalance0 : (shape Try.prog 40 28) = some shAsk := by kernel_rfl

theorem notesBalance_lifted (os : Os) (started : os.Started) (H : Type) (enc : TypeId × Value → H) :
    ReturnsInHanded {} Try.checked os 6 .any (Rows.notesBalanceSpec.pre6 enc Try.prog Try.f6 [] false)
      (Rows.notesBalanceSpec.post enc Try.prog Try.f6 false true false false) := by
  refine returnsInHanded_of_change (C := Try.checked) ownP started (by kernel_rfl) Try.func6
    (noX (ChangeSpec.witness_at (enc := enc) (C := Try.checked) (os := os) (X := fun _ _ => True) false (World.holding Try.prog os ⟨#[], #[], []⟩) #[.agg #[.int .u64 0, .int .u64 0, .int .i64 0, .int .i64 0, .string ⟨#[]⟩, .int .u64 0, .int .u64 0, .int .u64 0, .int .i64 0, .int .i64 0, .int .i64 0, .int .i64 0, .int .i64 0, .int .i64 0, .int .i64 0, .int .i64 0, .int .i64 0]] 8 rfl (by kernel_rfl) (by kernel_rfl) (by kernel_rfl) (by kernel_rfl) (by kernel_rfl) trivial)) ?_
  intro W base args ds gs before hval0 hW _ _
  have hval : ∀ (j : Nat) t v, Try.f6.params[j]? = some t → args[j]? = some v → Value.okWide Try.prog W .any base t v := hval0
  have hW' := hW
  obtain ⟨p, q, hA0, hV0, rfl, hfz, hnd⟩ := hW
  have hA : DataW.TrodAll enc Try.prog W 0 (fun _ => true) true Try.f6.params.toList args.toList ds p := hA0
  rw [Try.params6] at hA hval
  obtain ⟨v0, d0, rfl, rfl, h0⟩ := trodAll_one hA
  obtain ⟨c0, rfl, _⟩ := okWide_struct Try.underlying28 (hval 0 28 v0 rfl rfl)
  obtain ⟨fuel0, h0'⟩ := h0
  obtain ⟨j0, k0, _⟩ := shOk Try.prog enc W (fun _ => true) true 40 28 _ shapeNotesBalance0 fuel0 _ _ _ h0'
  obtain ⟨n0, x0, df0, hn0, hx0, hd0, hcs0⟩ := ok_ask k0
  rw [hcs0] at j0
  refine (lift (notesBalance n0 hn0 x0 hx0 df0 hd0) (gokP W) (VL.mk1 (arg_agg j0))).mono fun e W' ⟨he, hb⟩ => ?_
  refine ⟨_, he, post_true laidOutP ?_ (tb := 4) (by kernel_rfl) Try.underlying4 rfl ?_ hW' hb⟩
  · rw [Try.params6]; intro t ht; simp at ht; rcases ht with rfl <;> exact ⟨by kernel_rfl, of_decide_eq_true (by kernel_rfl)⟩
  · rfl

end Go.KL.Ytgdidchpignbpaa
namespace Go.Proofs.Ytgdidchpignbpaa
open Go Go.KL Go.RowKit Go.Proofs Go.KL.Ytgdidchpignbpaa
theorem notesBalance_in : (Rows.notesBalanceRow.inPlace == Try.checked.prog.inPlace 6) = true := by kernel_rfl
theorem notesBalance_un : (Rows.notesBalanceRow.unfollowed == Try.checked.prog.unfollowed 6) = true := by kernel_rfl
theorem notesBalance_rc : (Rows.notesBalanceRow.recurses == Try.checked.prog.recurses 6) = true := by kernel_rfl
theorem notesBalance_nm : (Rows.notesBalanceRow.named == Try.checked.prog.varsNamed 6) = true := by kernel_rfl
theorem notesBalance_cl : joinedFacts Try.checked.prog 6 Try.f6 Rows.notesBalanceSpec Rows.notesBalanceRow = true := by
  unfold joinedFacts
  rw [notesBalance_in, notesBalance_un, notesBalance_rc, notesBalance_nm]
  kernel_rfl
theorem notesBalance_holds : Rows.NotesBalanceSaid :=
  OpenClaim.holds_of_wide 6 Try.f6 rfl rfl rfl rfl rfl rfl rfl ⟨rfl, rfl, rfl, rfl, rfl⟩ rfl rfl rfl rfl rfl (by kernel_rfl) Try.func6 notesBalance_cl
    (of_decide_eq_true (by kernel_rfl)) (by unfold Func.isWrapper; rw [if_neg (of_decide_eq_false (by kernel_rfl))]; exact ⟨rfl, rfl⟩)
    (fun os started H enc _ => notesBalance_lifted os started H enc)
#print axioms notesBalance_holds
end Go.Proofs.Ytgdidchpignbpaa

