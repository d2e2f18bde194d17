/- Proved: JournalOrder of chapter 20 answers true for every list of lines and every turn, and its arguments read afterwards as they did before. No condition. -/
import Derived.Test.YtogpeefldehnkaaJn
import Derived.Test.YtogpeefldehnkaaJg
set_option linter.unusedVariables false
set_option linter.unusedSimpArgs false
set_option maxRecDepth 100000
set_option maxHeartbeats 4000000
namespace Go.KL.Ytogpeefldehnkaa
open Go Go.KL Go.RowKit Go.Proofs Go.Proofs.Ytogpeefldehnkaa Go.ChangeShapes Go.WideShapes

theorem shapeJournalOrder0 : (shape Try.prog 40 22) = some (.sl shLn) := by kernel_rfl

theorem journalOrder_lifted (os : Os) (started : os.Started) (H : Type) (enc : TypeId × Value → H) :
    ReturnsInHanded {} Try.checked os 4 .any (Rows.journalOrderSpec.pre6 enc Try.prog Try.f4 [] false)
      (Rows.journalOrderSpec.post enc Try.prog Try.f4 false true false false) := by
  refine returnsInHanded_of_change (C := Try.checked) ownP started (by kernel_rfl) Try.func4
    (noX (ChangeSpec.witness_at (enc := enc) (C := Try.checked) (os := os) (X := fun _ _ => True) false (World.holding Try.prog os ⟨#[], #[], []⟩) #[.slice none 0 0, .int .i64 0] 8 rfl (by kernel_rfl) (by kernel_rfl) (by kernel_rfl) (by kernel_rfl) (by kernel_rfl) trivial)) ?_
  intro W base args ds gs before hval0 hW _ _
  have hval : ∀ (j : Nat) t v, Try.f4.params[j]? = some t → args[j]? = some v → Value.okWide Try.prog W .any base t v := hval0
  have hW' := hW
  obtain ⟨p, q, hA0, hV0, rfl, hfz, hnd⟩ := hW
  have hA : DataW.TrodAll enc Try.prog W 0 (fun _ => true) true Try.f4.params.toList args.toList ds p := hA0
  rw [Try.params4] at hA hval
  obtain ⟨v0, v1, d0, d1, p0, p1, rfl, rfl, rfl, h0, h1⟩ := trodAll_two hA
  obtain ⟨a0, len0, cap0, rfl⟩ := okWide_slice Try.underlying22 (hval 0 22 v0 rfl rfl)
  obtain ⟨fuel0, h0'⟩ := h0
  obtain ⟨j0, k0, _⟩ := shOk Try.prog enc W (fun _ => true) true 40 22 _ shapeJournalOrder0 fuel0 _ _ _ h0'
  obtain ⟨l0, hR0, hl0, hcs0⟩ := ok_sl (R := (fun x : Ln => x.R)) (C := Ln.cs) (fun d h => ok_ln h) k0
  rw [hcs0] at j0
  obtain ⟨n1, rfl, rfl, rfl, w1⟩ := open_int Try.underlying3 (hval 1 3 v1 rfl rfl) h1
  refine (lift (J.journalOrder l0 hR0 n1 (ok_i64 w1)) (gokP W) (VL.mk2 (arg_one j0) (.int _ _))).mono fun e W' ⟨he, hb⟩ => ?_
  refine ⟨_, he, post_true laidOutP ?_ (tb := 4) (by kernel_rfl) Try.underlying4 rfl ?_ hW' hb⟩
  · rw [Try.params4]; intro t ht; simp at ht; rcases ht with rfl | rfl <;> exact ⟨by kernel_rfl, of_decide_eq_true (by kernel_rfl)⟩
  · rfl

end Go.KL.Ytogpeefldehnkaa
namespace Go.Proofs.Ytogpeefldehnkaa
open Go Go.KL Go.RowKit Go.Proofs Go.KL.Ytogpeefldehnkaa
theorem journalOrder_in : (Rows.journalOrderRow.inPlace == Try.checked.prog.inPlace 4) = true := by kernel_rfl
theorem journalOrder_un : (Rows.journalOrderRow.unfollowed == Try.checked.prog.unfollowed 4) = true := by kernel_rfl
theorem journalOrder_rc : (Rows.journalOrderRow.recurses == Try.checked.prog.recurses 4) = true := by kernel_rfl
theorem journalOrder_nm : (Rows.journalOrderRow.named == Try.checked.prog.varsNamed 4) = true := by kernel_rfl
theorem journalOrder_cl : joinedFacts Try.checked.prog 4 Try.f4 Rows.journalOrderSpec Rows.journalOrderRow = true := by
  unfold joinedFacts
  rw [journalOrder_in, journalOrder_un, journalOrder_rc, journalOrder_nm]
  kernel_rfl
theorem journalOrder_holds : Rows.JournalOrderSaid :=
  OpenClaim.holds_of_wide 4 Try.f4 rfl rfl rfl rfl rfl rfl rfl ⟨rfl, rfl, rfl, rfl, rfl⟩ rfl rfl rfl rfl rfl (by kernel_rfl) Try.func4 journalOrder_cl
    (of_decide_eq_true (by kernel_rfl)) (by unfold Func.isWrapper; rw [if_neg (of_decide_eq_false (by kernel_rfl))]; exact ⟨rfl, rfl⟩)
    (fun os started H enc _ => journalOrder_lifted os started H enc)
#print axioms journalOrder_holds
end Go.Proofs.Ytogpeefldehnkaa

