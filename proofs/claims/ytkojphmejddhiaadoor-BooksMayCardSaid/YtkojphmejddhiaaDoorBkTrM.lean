/- Proved: BooksMay of chapter 21 answers true for every list of acts and entries, and its arguments read afterwards as they did before. No condition; the package variable civil.ahead is tied to the program's text. -/
import Derived.Test.YtkojphmejddhiaaDoorBf
import Derived.Test.YtkojphmejddhiaaDoorCards
import Derived.SevenTiedAt
set_option linter.unusedVariables false
set_option linter.unusedSimpArgs false
set_option maxRecDepth 100000
set_option maxHeartbeats 4000000
namespace Go.KL.YtkojphmejddhiaaDoor.J
open Go Go.KL Go.RowKit Go.Proofs Go.Proofs.YtkojphmejddhiaaDoor Go.ChangeShapes Go.WideShapes Go.KL.YtkojphmejddhiaaDoor

theorem shapeBooksMay0 : (shape Tryd.prog 40 22) = some (.sl shAtB) := by kernel_rfl
theorem shapeBooksMay1 : (shape Tryd.prog 40 63) = some (.sl shEnt) := by kernel_rfl
theorem booksMay_lifted (os : Os) (started : os.Started) (H : Type) (enc : TypeId × Value → H) :
    ReturnsInHanded {} Tryd.checked os 6 .any (fun w args => (Rows.booksMaySpec.pre enc Tryd.prog Tryd.f6 [] false w args ∧ laidMetH Tryd.prog Rows.booksMayRow.laid w) ∧ sizedMet enc Tryd.prog Tryd.f6 (OpenSpec.ofChange Rows.booksMaySpec) false w args)
      (Rows.booksMaySpec.post enc Tryd.prog Tryd.f6 false true false false) := by
  refine returnsInHanded_of_change_and (C := Tryd.checked) (X := fun w _ => laidMetH Tryd.prog Rows.booksMayRow.laid w) (fun _ _ _ hh h => h.of_heap hh) own started (by kernel_rfl) Tryd.func6
    (ChangeSpec.witness_at (enc := enc) (C := Tryd.checked) (os := os) (X := fun w _ => laidMetH Tryd.prog Rows.booksMayRow.laid w) false (laidWorld os) #[.slice none 0 0, .slice none 0 0] 8 rfl (by kernel_rfl) (by kernel_rfl) (by kernel_rfl) (by kernel_rfl) (by kernel_rfl) (laidWorld_met os _)) ?_
  intro W base args ds gs before hval0 hW _ _ hL _
  have hval : ∀ (j : Nat) t v, Tryd.f6.params[j]? = some t → args[j]? = some v → Value.okWide Tryd.prog W .any base t v := hval0
  have hW' := hW
  obtain ⟨p, q, hA0, hV0, rfl, hfz, hnd⟩ := hW
  have hA : DataW.TrodAll enc Tryd.prog W 0 (fun _ => true) true Tryd.f6.params.toList args.toList ds p := hA0
  rw [Tryd.params6] at hA hval
  obtain ⟨v0, v1, d0, d1, p0, p1, rfl, rfl, rfl, h0, h1⟩ := trodAll_two hA
  obtain ⟨a0, len0, cap0, rfl⟩ := okWide_slice Tryd.underlying22 (hval 0 22 v0 rfl rfl)
  obtain ⟨fuel0, h0'⟩ := h0
  obtain ⟨j0, k0, _⟩ := shOk Tryd.prog enc W (fun _ => true) true 40 22 _ shapeBooksMay0 fuel0 _ _ _ h0'
  obtain ⟨l0, hR0, hl0, hcs0⟩ := ok_sl (R := (fun x : At => x.R)) (C := At.cs) (fun d h => ok_at h) k0
  rw [hcs0] at j0
  obtain ⟨a1, len1, cap1, rfl⟩ := okWide_slice Tryd.underlying63 (hval 1 63 v1 rfl rfl)
  obtain ⟨fuel1, h1'⟩ := h1
  obtain ⟨j1, k1, _⟩ := shOk Tryd.prog enc W (fun _ => true) true 40 63 _ shapeBooksMay1 fuel1 _ _ _ h1'
  obtain ⟨l1, hR1, hl1, hcs1⟩ := ok_sl (R := (fun e : Go.KL.YtkojphmejddhiaaDoor.J.Ent => e.R)) (C := entC) (fun d h => ok_ent h) k1
  rw [hcs1] at j1
  refine (lift (booksMay l0 hR0 hl0 l1 hR1) (gok hL) (VL.mk2 (arg_one j0) (arg_one j1))).mono fun e W' ⟨he, hb⟩ => ?_
  refine ⟨_, he, post_true laidOut ?_ (tb := 4) (by kernel_rfl) Tryd.underlying4 rfl ?_ hW' hb⟩
  · rw [Tryd.params6]; intro t ht; simp at ht; rcases ht with rfl | rfl <;> exact ⟨by kernel_rfl, of_decide_eq_true (by kernel_rfl)⟩
  · rfl

theorem booksMay_in : (Rows.booksMayRow.inPlace == Tryd.checked.prog.inPlace 6) = true := by kernel_rfl
theorem booksMay_un : (Rows.booksMayRow.unfollowed == Tryd.checked.prog.unfollowed 6) = true := by kernel_rfl
theorem booksMay_rc : (Rows.booksMayRow.recurses == Tryd.checked.prog.recurses 6) = true := by kernel_rfl
theorem booksMay_nm : (Rows.booksMayRow.named == Tryd.checked.prog.varsNamed 6) = true := by kernel_rfl
theorem booksMay_cl : joinedFacts Tryd.checked.prog 6 Tryd.f6 Rows.booksMaySpec Rows.booksMayRow = true := by
  unfold joinedFacts
  rw [booksMay_in, booksMay_un, booksMay_rc, booksMay_nm]
  kernel_rfl
theorem booksMay_holds : Rows.BooksMaySaid :=
  OpenClaim.holds_of_wide 6 Tryd.f6 rfl rfl rfl rfl rfl rfl rfl ⟨rfl, rfl, rfl, rfl, rfl⟩ rfl rfl rfl rfl rfl (by kernel_rfl) Tryd.func6 booksMay_cl
    (of_decide_eq_true (by kernel_rfl)) (by unfold Func.isWrapper; rw [if_neg (of_decide_eq_false (by kernel_rfl))]; exact ⟨rfl, rfl⟩)
    (fun os started H enc _ => booksMay_lifted os started H enc)
end Go.KL.YtkojphmejddhiaaDoor.J
namespace Go.Proofs.YtkojphmejddhiaaDoor
open Go Go.KL Go.RowKit Go.Proofs Go.KL.YtkojphmejddhiaaDoor

theorem booksMay_card : Rows.BooksMayCardSaid :=
  Claim7.holds_tied_plain_at .later [] [.data] true (true, "e4cd5c10d594df372f17155441af14edc44b3b7a94b5224de4f704c3ba501bce") false
    J.booksMay_holds (fun _ h => by cases h) (by kernel_rfl) (fun _ h => by cases h) booksMay_row_tie rfl ⟨rfl, rfl⟩ (by kernel_rfl) rfl
    (fun f fn hf hfn => by
      obtain rfl : f = 6 := Option.some.inj ((show Tryd.prog.funcNamed "quittance/quittancelaw21.BooksMay" = some 6 by kernel_rfl).symm.trans hf) |>.symm
      obtain rfl : fn = Tryd.f6 := (Option.some.inj (Tryd.func6.symm.trans hfn)).symm
      exact ⟨by kernel_rfl, fun j t ht => by
        rw [Tryd.params6] at ht
        have h3 : t ∈ [22, 63] := by
          have := Array.mem_of_getElem? ht
          simpa using this
        have h4 : (([22, 63] : List Nat).all fun t => !Tryd.prog.wantsStandIn t) = true := by kernel_rfl
        have h5 : Tryd.prog.wantsStandIn t = false := by simpa using List.all_eq_true.1 h4 t h3
        exact h5⟩)
    (by kernel_rfl)
#print axioms booksMay_card

end Go.Proofs.YtkojphmejddhiaaDoor
