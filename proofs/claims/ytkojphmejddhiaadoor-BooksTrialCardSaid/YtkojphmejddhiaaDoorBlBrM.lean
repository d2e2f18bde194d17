/- Proved: BooksTrial of chapter 21 answers true for every list of acts, and its argument reads afterwards as it did before. No condition; the package variable civil.ahead is tied to the program's text. -/
import Derived.Test.YtkojphmejddhiaaDoorBf
import Derived.Test.YtkojphmejddhiaaDoorCards
import Derived.SevenTiedAt
set_option linter.unusedVariables false
set_option linter.unusedSimpArgs false
set_option maxRecDepth 100000
set_option maxHeartbeats 4000000
namespace Go.KL.YtkojphmejddhiaaDoor.J
open Go Go.KL Go.RowKit Go.Proofs Go.Proofs.YtkojphmejddhiaaDoor Go.ChangeShapes Go.WideShapes Go.KL.YtkojphmejddhiaaDoor

theorem shapeBooksTrial0 : (shape Tryd.prog 40 22) = some (.sl shAtB) := by kernel_rfl
theorem booksTrial_lifted (os : Os) (started : os.Started) (H : Type) (enc : TypeId × Value → H) :
    ReturnsInHanded {} Tryd.checked os 4 .any (fun w args => (Rows.booksTrialSpec.pre enc Tryd.prog Tryd.f4 [] false w args ∧ laidMetH Tryd.prog Rows.booksTrialRow.laid w) ∧ sizedMet enc Tryd.prog Tryd.f4 (OpenSpec.ofChange Rows.booksTrialSpec) false w args)
      (Rows.booksTrialSpec.post enc Tryd.prog Tryd.f4 false true false false) := by
  refine returnsInHanded_of_change_and (C := Tryd.checked) (X := fun w _ => laidMetH Tryd.prog Rows.booksTrialRow.laid w) (fun _ _ _ hh h => h.of_heap hh) own started (by kernel_rfl) Tryd.func4
    (ChangeSpec.witness_at (enc := enc) (C := Tryd.checked) (os := os) (X := fun w _ => laidMetH Tryd.prog Rows.booksTrialRow.laid w) false (laidWorld os) #[.slice none 0 0] 8 rfl (by kernel_rfl) (by kernel_rfl) (by kernel_rfl) (by kernel_rfl) (by kernel_rfl) (laidWorld_met os _)) ?_
  intro W base args ds gs before hval0 hW _ _ hL _
  have hval : ∀ (j : Nat) t v, Tryd.f4.params[j]? = some t → args[j]? = some v → Value.okWide Tryd.prog W .any base t v := hval0
  have hW' := hW
  obtain ⟨p, q, hA0, hV0, rfl, hfz, hnd⟩ := hW
  have hA : DataW.TrodAll enc Tryd.prog W 0 (fun _ => true) true Tryd.f4.params.toList args.toList ds p := hA0
  rw [Tryd.params4] at hA hval
  obtain ⟨v0, d0, rfl, rfl, h0⟩ := trodAll_one hA
  obtain ⟨a0, len0, cap0, rfl⟩ := okWide_slice Tryd.underlying22 (hval 0 22 v0 rfl rfl)
  obtain ⟨fuel0, h0'⟩ := h0
  obtain ⟨j0, k0, _⟩ := shOk Tryd.prog enc W (fun _ => true) true 40 22 _ shapeBooksTrial0 fuel0 _ _ _ h0'
  obtain ⟨l0, hR0, hl0, hcs0⟩ := ok_sl (R := (fun x : At => x.R)) (C := At.cs) (fun d h => ok_at h) k0
  rw [hcs0] at j0
  refine (lift (booksTrial l0 hR0 hl0) (gok hL) (VL.mk1 (arg_one j0))).mono fun e W' ⟨he, hb⟩ => ?_
  refine ⟨_, he, post_true laidOut ?_ (tb := 4) (by kernel_rfl) Tryd.underlying4 rfl ?_ hW' hb⟩
  · rw [Tryd.params4]; intro t ht; simp at ht; rcases ht with rfl <;> exact ⟨by kernel_rfl, of_decide_eq_true (by kernel_rfl)⟩
  · rfl

theorem booksTrial_in : (Rows.booksTrialRow.inPlace == Tryd.checked.prog.inPlace 4) = true := by kernel_rfl
theorem booksTrial_un : (Rows.booksTrialRow.unfollowed == Tryd.checked.prog.unfollowed 4) = true := by kernel_rfl
theorem booksTrial_rc : (Rows.booksTrialRow.recurses == Tryd.checked.prog.recurses 4) = true := by kernel_rfl
theorem booksTrial_nm : (Rows.booksTrialRow.named == Tryd.checked.prog.varsNamed 4) = true := by kernel_rfl
theorem booksTrial_cl : joinedFacts Tryd.checked.prog 4 Tryd.f4 Rows.booksTrialSpec Rows.booksTrialRow = true := by
  unfold joinedFacts
  rw [booksTrial_in, booksTrial_un, booksTrial_rc, booksTrial_nm]
  kernel_rfl
theorem booksTrial_holds : Rows.BooksTrialSaid :=
  OpenClaim.holds_of_wide 4 Tryd.f4 rfl rfl rfl rfl rfl rfl rfl ⟨rfl, rfl, rfl, rfl, rfl⟩ rfl rfl rfl rfl rfl (by kernel_rfl) Tryd.func4 booksTrial_cl
    (of_decide_eq_true (by kernel_rfl)) (by unfold Func.isWrapper; rw [if_neg (of_decide_eq_false (by kernel_rfl))]; exact ⟨rfl, rfl⟩)
    (fun os started H enc _ => booksTrial_lifted os started H enc)
end Go.KL.YtkojphmejddhiaaDoor.J
namespace Go.Proofs.YtkojphmejddhiaaDoor
open Go Go.KL Go.RowKit Go.Proofs Go.KL.YtkojphmejddhiaaDoor

theorem booksTrial_card : Rows.BooksTrialCardSaid :=
  Claim7.holds_tied_plain_at .later [] [.data] true (true, "e4cd5c10d594df372f17155441af14edc44b3b7a94b5224de4f704c3ba501bce") false
    J.booksTrial_holds (fun _ h => by cases h) (by kernel_rfl) (fun _ h => by cases h) booksTrial_row_tie rfl ⟨rfl, rfl⟩ (by kernel_rfl) rfl
    (fun f fn hf hfn => by
      obtain rfl : f = 4 := Option.some.inj ((show Tryd.prog.funcNamed "quittance/quittancelaw21.BooksTrial" = some 4 by kernel_rfl).symm.trans hf) |>.symm
      obtain rfl : fn = Tryd.f4 := (Option.some.inj (Tryd.func4.symm.trans hfn)).symm
      exact ⟨by kernel_rfl, fun j t ht => by
        rw [Tryd.params4] at ht
        have h3 : t ∈ [22] := by
          have := Array.mem_of_getElem? ht
          simpa using this
        have h4 : (([22] : List Nat).all fun t => !Tryd.prog.wantsStandIn t) = true := by kernel_rfl
        have h5 : Tryd.prog.wantsStandIn t = false := by simpa using List.all_eq_true.1 h4 t h3
        exact h5⟩)
    (by kernel_rfl)
#print axioms booksTrial_card

end Go.Proofs.YtkojphmejddhiaaDoor
