/- Proved: BooksTell of chapter 21 answers true for every list of acts, and its argument reads afterwards as it did before. No condition; the package variable civil.ahead is tied to the program's text. -/
import Derived.Test.YtkojphmejddhiaaGreatDoorBf
import Derived.Test.YtkojphmejddhiaaGreatDoorCards
import Derived.SevenTiedAt
set_option linter.unusedVariables false
set_option linter.unusedSimpArgs false
set_option maxRecDepth 100000
set_option maxHeartbeats 4000000
namespace Go.KL.YtkojphmejddhiaaGreatDoor.J
open Go Go.KL Go.RowKit Go.Proofs Go.Proofs.YtkojphmejddhiaaGreatDoor Go.ChangeShapes Go.WideShapes Go.KL.YtkojphmejddhiaaGreatDoor

theorem shapeBooksTell0 : (shape Tryz.prog 40 22) = some (.sl shAtB) := by kernel_rfl
theorem booksTell_lifted (os : Os) (started : os.Started) (H : Type) (enc : TypeId × Value → H) :
    ReturnsInHanded {} Tryz.checked os 3 .any (fun w args => (Rows.booksTellSpec.pre enc Tryz.prog Tryz.f3 [] false w args ∧ laidMetH Tryz.prog Rows.booksTellRow.laid w) ∧ sizedMet enc Tryz.prog Tryz.f3 (OpenSpec.ofChange Rows.booksTellSpec) false w args)
      (Rows.booksTellSpec.post enc Tryz.prog Tryz.f3 false true false false) := by
  refine returnsInHanded_of_change_and (C := Tryz.checked) (X := fun w _ => laidMetH Tryz.prog Rows.booksTellRow.laid w) (fun _ _ _ hh h => h.of_heap hh) own started (by kernel_rfl) Tryz.func3
    (ChangeSpec.witness_at (enc := enc) (C := Tryz.checked) (os := os) (X := fun w _ => laidMetH Tryz.prog Rows.booksTellRow.laid w) false (laidWorld os) #[.slice none 0 0] 8 rfl (by kernel_rfl) (by kernel_rfl) (by kernel_rfl) (by kernel_rfl) (by kernel_rfl) (laidWorld_met os _)) ?_
  intro W base args ds gs before hval0 hW _ _ hL _
  have hval : ∀ (j : Nat) t v, Tryz.f3.params[j]? = some t → args[j]? = some v → Value.okWide Tryz.prog W .any base t v := hval0
  have hW' := hW
  obtain ⟨p, q, hA0, hV0, rfl, hfz, hnd⟩ := hW
  have hA : DataW.TrodAll enc Tryz.prog W 0 (fun _ => true) true Tryz.f3.params.toList args.toList ds p := hA0
  rw [Tryz.params3] at hA hval
  obtain ⟨v0, d0, rfl, rfl, h0⟩ := trodAll_one hA
  obtain ⟨a0, len0, cap0, rfl⟩ := okWide_slice Tryz.underlying22 (hval 0 22 v0 rfl rfl)
  obtain ⟨fuel0, h0'⟩ := h0
  obtain ⟨j0, k0, _⟩ := shOk Tryz.prog enc W (fun _ => true) true 40 22 _ shapeBooksTell0 fuel0 _ _ _ h0'
  obtain ⟨l0, hR0, hl0, hcs0⟩ := ok_sl (R := (fun x : At => x.R)) (C := At.cs) (fun d h => ok_at h) k0
  rw [hcs0] at j0
  refine (lift (booksTell l0 hR0 hl0) (gok hL) (VL.mk1 (arg_one j0))).mono fun e W' ⟨he, hb⟩ => ?_
  refine ⟨_, he, post_true laidOut ?_ (tb := 4) (by kernel_rfl) Tryz.underlying4 rfl ?_ hW' hb⟩
  · rw [Tryz.params3]; intro t ht; simp at ht; rcases ht with rfl <;> exact ⟨by kernel_rfl, of_decide_eq_true (by kernel_rfl)⟩
  · rfl

theorem booksTell_in : (Rows.booksTellRow.inPlace == Tryz.checked.prog.inPlace 3) = true := by kernel_rfl
theorem booksTell_un : (Rows.booksTellRow.unfollowed == Tryz.checked.prog.unfollowed 3) = true := by kernel_rfl
theorem booksTell_rc : (Rows.booksTellRow.recurses == Tryz.checked.prog.recurses 3) = true := by kernel_rfl
theorem booksTell_nm : (Rows.booksTellRow.named == Tryz.checked.prog.varsNamed 3) = true := by kernel_rfl
theorem booksTell_cl : joinedFacts Tryz.checked.prog 3 Tryz.f3 Rows.booksTellSpec Rows.booksTellRow = true := by
  unfold joinedFacts
  rw [booksTell_in, booksTell_un, booksTell_rc, booksTell_nm]
  kernel_rfl
theorem booksTell_holds : Rows.BooksTellSaid :=
  OpenClaim.holds_of_wide 3 Tryz.f3 rfl rfl rfl rfl rfl rfl rfl ⟨rfl, rfl, rfl, rfl, rfl⟩ rfl rfl rfl rfl rfl (by kernel_rfl) Tryz.func3 booksTell_cl
    (of_decide_eq_true (by kernel_rfl)) (by unfold Func.isWrapper; rw [if_neg (of_decide_eq_false (by kernel_rfl))]; exact ⟨rfl, rfl⟩)
    (fun os started H enc _ => booksTell_lifted os started H enc)
end Go.KL.YtkojphmejddhiaaGreatDoor.J
namespace Go.Proofs.YtkojphmejddhiaaGreatDoor
open Go Go.KL Go.RowKit Go.Proofs Go.KL.YtkojphmejddhiaaGreatDoor

theorem booksTell_card : Rows.BooksTellCardSaid :=
  Claim7.holds_tied_plain_at .later [] [.data] true (true, "3cac00f44f7fc2a28a1f2d15fd011c02a84a51a374b6ca88dac859b30f229d04") false
    J.booksTell_holds (fun _ h => by cases h) (by kernel_rfl) (fun _ h => by cases h) booksTell_row_tie rfl ⟨rfl, rfl⟩ (by kernel_rfl) rfl
    (fun f fn hf hfn => by
      obtain rfl : f = 3 := Option.some.inj ((show Tryz.prog.funcNamed "quittance/quittancelaw21.BooksTell" = some 3 by kernel_rfl).symm.trans hf) |>.symm
      obtain rfl : fn = Tryz.f3 := (Option.some.inj (Tryz.func3.symm.trans hfn)).symm
      exact ⟨by kernel_rfl, fun j t ht => by
        rw [Tryz.params3] at ht
        have h3 : t ∈ [22] := by
          have := Array.mem_of_getElem? ht
          simpa using this
        have h4 : (([22] : List Nat).all fun t => !Tryz.prog.wantsStandIn t) = true := by kernel_rfl
        have h5 : Tryz.prog.wantsStandIn t = false := by simpa using List.all_eq_true.1 h4 t h3
        exact h5⟩)
    (by kernel_rfl)
#print axioms booksTell_card

end Go.Proofs.YtkojphmejddhiaaGreatDoor
