/- Proved: BooksNone of chapter 21 answers true for every entry and month, and its arguments read afterwards as they did before. No condition; the package variable civil.ahead is tied to the program's text. -/
import Derived.Test.YtkojphmejddhiaaDoorBf
import Derived.Test.YtkojphmejddhiaaDoorBe
import Derived.Test.YtkojphmejddhiaaDoorCards
import Derived.SevenTiedAt
set_option linter.unusedVariables false
set_option linter.unusedSimpArgs false
set_option maxRecDepth 100000
set_option maxHeartbeats 4000000
namespace Go.KL.YtkojphmejddhiaaDoor.J
open Go Go.KL Go.RowKit Go.Proofs Go.Proofs.YtkojphmejddhiaaDoor Go.ChangeShapes Go.WideShapes Go.KL.YtkojphmejddhiaaDoor

theorem shapeN0 : (shape Tryd.prog 40 32) = some shEnt := by kernel_rfl
theorem none_lifted (os : Os) (started : os.Started) (H : Type) (enc : TypeId × Value → H) :
    ReturnsInHanded {} Tryd.checked os 7 .any (fun w args => (Rows.booksNoneSpec.pre enc Tryd.prog Tryd.f7 [] false w args ∧ laidMetH Tryd.prog Rows.booksNoneRow.laid w) ∧ sizedMet enc Tryd.prog Tryd.f7 (OpenSpec.ofChange Rows.booksNoneSpec) false w args)
      (Rows.booksNoneSpec.post enc Tryd.prog Tryd.f7 false true false false) := by
  refine returnsInHanded_of_change_and (C := Tryd.checked) (X := fun w _ => laidMetH Tryd.prog Rows.booksNoneRow.laid w) (fun _ _ _ hh h => h.of_heap hh) own started (by kernel_rfl) Tryd.func7
    (ChangeSpec.witness_at (enc := enc) (C := Tryd.checked) (os := os) (X := fun w _ => laidMetH Tryd.prog Rows.booksNoneRow.laid w) false (laidWorld os) #[.agg #[.int .i64 0, .int .u8 0, .int .u64 0, .slice none 0 0], .int .i64 0] 8 rfl (by kernel_rfl) (by kernel_rfl) (by kernel_rfl) (by kernel_rfl) (by kernel_rfl) (laidWorld_met os _)) ?_
  intro W base args ds gs before hval0 hW _ _ hL _
  have hval : ∀ (j : Nat) t v, Tryd.f7.params[j]? = some t → args[j]? = some v → Value.okWide Tryd.prog W .any base t v := hval0
  have hW' := hW
  obtain ⟨p, q, hA0, hV0, rfl, hfz, hnd⟩ := hW
  have hA : DataW.TrodAll enc Tryd.prog W 0 (fun _ => true) true Tryd.f7.params.toList args.toList ds p := hA0
  rw [Tryd.params7] at hA hval
  obtain ⟨v0, v1, d0, d1, p0, p1, rfl, rfl, rfl, h0, h1⟩ := trodAll_two hA
  obtain ⟨c0, rfl, _⟩ := okWide_struct Tryd.underlying32 (hval 0 32 v0 rfl rfl)
  obtain ⟨fuel0, h0'⟩ := h0
  obtain ⟨j0, k0, _⟩ := shOk Tryd.prog enc W (fun _ => true) true 40 32 _ shapeN0 fuel0 _ _ _ h0'
  obtain ⟨ent0, hR0, hcs0⟩ := ok_ent k0
  rw [hcs0] at j0
  obtain ⟨n1, rfl, rfl, rfl, w1⟩ := open_int Tryd.underlying3 (hval 1 3 v1 rfl rfl) h1
  refine (lift (booksNone ent0 n1) (gok hL) (VL.mk2 (arg_agg j0) (.int _ _))).mono fun e W' ⟨he, hb⟩ => ?_
  refine ⟨_, he, post_true laidOut ?_ (tb := 4) (by kernel_rfl) Tryd.underlying4 rfl ?_ hW' hb⟩
  · rw [Tryd.params7]; intro t ht; simp at ht; rcases ht with rfl | rfl <;> exact ⟨by kernel_rfl, of_decide_eq_true (by kernel_rfl)⟩
  · rfl

theorem none_holds : Rows.BooksNoneSaid :=
  OpenClaim.holds_of_wide 7 Tryd.f7 rfl rfl rfl rfl rfl rfl rfl ⟨rfl, rfl, rfl, rfl, rfl⟩ rfl rfl rfl rfl rfl (by kernel_rfl) Tryd.func7 (by kernel_rfl)
    (of_decide_eq_true (by kernel_rfl)) (by unfold Func.isWrapper; rw [if_neg (of_decide_eq_false (by kernel_rfl))]; exact ⟨rfl, rfl⟩)
    (fun os started H enc _ => none_lifted os started H enc)
end Go.KL.YtkojphmejddhiaaDoor.J
namespace Go.Proofs.YtkojphmejddhiaaDoor
open Go Go.KL Go.RowKit Go.Proofs Go.KL.YtkojphmejddhiaaDoor

theorem booksNone_card : Rows.BooksNoneCardSaid :=
  Claim7.holds_tied_plain_at .later [] [.data] true (true, "e4cd5c10d594df372f17155441af14edc44b3b7a94b5224de4f704c3ba501bce") false
    J.none_holds (fun _ h => by cases h) (by kernel_rfl) (fun _ h => by cases h) booksNone_row_tie rfl ⟨rfl, rfl⟩ (by kernel_rfl) rfl
    (fun f fn hf hfn => by
      obtain rfl : f = 7 := Option.some.inj ((show Tryd.prog.funcNamed "quittance/quittancelaw21.BooksNone" = some 7 by kernel_rfl).symm.trans hf) |>.symm
      obtain rfl : fn = Tryd.f7 := (Option.some.inj (Tryd.func7.symm.trans hfn)).symm
      exact ⟨by kernel_rfl, fun j t ht => by
        rw [Tryd.params7] at ht
        have h3 : t ∈ [32, 3] := by
          have := Array.mem_of_getElem? ht
          simpa using this
        have h4 : (([32, 3] : List Nat).all fun t => !Tryd.prog.wantsStandIn t) = true := by kernel_rfl
        have h5 : Tryd.prog.wantsStandIn t = false := by simpa using List.all_eq_true.1 h4 t h3
        exact h5⟩)
    (by kernel_rfl)
#print axioms booksNone_card

end Go.Proofs.YtkojphmejddhiaaDoor
