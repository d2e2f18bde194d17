/- Proved: BooksStay of chapter 21 answers true for every list of acts, account and month, and its arguments read afterwards as they did before. No condition; the package variable civil.ahead is tied to the program's text. -/
import Derived.Test.YtkojphmejddhiaaDoorBf
import Derived.Test.YtkojphmejddhiaaDoorCards
import Derived.SevenTiedAt
set_option linter.unusedVariables false
set_option linter.unusedSimpArgs false
set_option maxRecDepth 100000
set_option maxHeartbeats 4000000
namespace Go.KL.YtkojphmejddhiaaDoor.J
open Go Go.KL Go.RowKit Go.Proofs Go.Proofs.YtkojphmejddhiaaDoor Go.ChangeShapes Go.WideShapes Go.KL.YtkojphmejddhiaaDoor

theorem shapeBooksStay0 : (shape Tryd.prog 40 22) = some (.sl shAtB) := by kernel_rfl
theorem booksStay_lifted (os : Os) (started : os.Started) (H : Type) (enc : TypeId × Value → H) :
    ReturnsInHanded {} Tryd.checked os 3 .any (fun w args => (Rows.booksStaySpec.pre enc Tryd.prog Tryd.f3 [] false w args ∧ laidMetH Tryd.prog Rows.booksStayRow.laid w) ∧ sizedMet enc Tryd.prog Tryd.f3 (OpenSpec.ofChange Rows.booksStaySpec) false w args)
      (Rows.booksStaySpec.post enc Tryd.prog Tryd.f3 false true false false) := by
  refine returnsInHanded_of_change_and (C := Tryd.checked) (X := fun w _ => laidMetH Tryd.prog Rows.booksStayRow.laid w) (fun _ _ _ hh h => h.of_heap hh) own started (by kernel_rfl) Tryd.func3
    (ChangeSpec.witness_at (enc := enc) (C := Tryd.checked) (os := os) (X := fun w _ => laidMetH Tryd.prog Rows.booksStayRow.laid w) false (laidWorld os) #[.slice none 0 0, .int .i64 0, .int .i64 0] 8 rfl (by kernel_rfl) (by kernel_rfl) (by kernel_rfl) (by kernel_rfl) (by kernel_rfl) (laidWorld_met os _)) ?_
  intro W base args ds gs before hval0 hW _ _ hL _
  have hval : ∀ (j : Nat) t v, Tryd.f3.params[j]? = some t → args[j]? = some v → Value.okWide Tryd.prog W .any base t v := hval0
  have hW' := hW
  obtain ⟨p, q, hA0, hV0, rfl, hfz, hnd⟩ := hW
  have hA : DataW.TrodAll enc Tryd.prog W 0 (fun _ => true) true Tryd.f3.params.toList args.toList ds p := hA0
  rw [Tryd.params3] at hA hval
  obtain ⟨v0, v1, v2, d0, d1, d2, p0, p1, p2, rfl, rfl, rfl, h0, h1, h2⟩ := trodAll_three hA
  obtain ⟨a0, len0, cap0, rfl⟩ := okWide_slice Tryd.underlying22 (hval 0 22 v0 rfl rfl)
  obtain ⟨fuel0, h0'⟩ := h0
  obtain ⟨j0, k0, _⟩ := shOk Tryd.prog enc W (fun _ => true) true 40 22 _ shapeBooksStay0 fuel0 _ _ _ h0'
  obtain ⟨l0, hR0, hl0, hcs0⟩ := ok_sl (R := (fun x : At => x.R)) (C := At.cs) (fun d h => ok_at h) k0
  rw [hcs0] at j0
  obtain ⟨n1, rfl, rfl, rfl, w1⟩ := open_int Tryd.underlying3 (hval 1 3 v1 rfl rfl) h1
  obtain ⟨n2, rfl, rfl, rfl, w2⟩ := open_int Tryd.underlying3 (hval 2 3 v2 rfl rfl) h2
  refine (lift (booksStay l0 hR0 hl0 n1 n2 (ok_i64 w2)) (gok hL) (VL.mk3 (arg_one j0) (.int _ _) (.int _ _))).mono fun e W' ⟨he, hb⟩ => ?_
  refine ⟨_, he, post_true laidOut ?_ (tb := 4) (by kernel_rfl) Tryd.underlying4 rfl ?_ hW' hb⟩
  · rw [Tryd.params3]; intro t ht; simp at ht; rcases ht with rfl | rfl | rfl <;> exact ⟨by kernel_rfl, of_decide_eq_true (by kernel_rfl)⟩
  · rfl

theorem booksStay_in : (Rows.booksStayRow.inPlace == Tryd.checked.prog.inPlace 3) = true := by kernel_rfl
theorem booksStay_un : (Rows.booksStayRow.unfollowed == Tryd.checked.prog.unfollowed 3) = true := by kernel_rfl
theorem booksStay_rc : (Rows.booksStayRow.recurses == Tryd.checked.prog.recurses 3) = true := by kernel_rfl
theorem booksStay_nm : (Rows.booksStayRow.named == Tryd.checked.prog.varsNamed 3) = true := by kernel_rfl
theorem booksStay_cl : joinedFacts Tryd.checked.prog 3 Tryd.f3 Rows.booksStaySpec Rows.booksStayRow = true := by
  unfold joinedFacts
  rw [booksStay_in, booksStay_un, booksStay_rc, booksStay_nm]
  kernel_rfl
theorem booksStay_holds : Rows.BooksStaySaid :=
  OpenClaim.holds_of_wide 3 Tryd.f3 rfl rfl rfl rfl rfl rfl rfl ⟨rfl, rfl, rfl, rfl, rfl⟩ rfl rfl rfl rfl rfl (by kernel_rfl) Tryd.func3 booksStay_cl
    (of_decide_eq_true (by kernel_rfl)) (by unfold Func.isWrapper; rw [if_neg (of_decide_eq_false (by kernel_rfl))]; exact ⟨rfl, rfl⟩)
    (fun os started H enc _ => booksStay_lifted os started H enc)
end Go.KL.YtkojphmejddhiaaDoor.J
namespace Go.Proofs.YtkojphmejddhiaaDoor
open Go Go.KL Go.RowKit Go.Proofs Go.KL.YtkojphmejddhiaaDoor

theorem booksStay_card : Rows.BooksStayCardSaid :=
  Claim7.holds_tied_plain_at .later [] [.data] true (true, "e4cd5c10d594df372f17155441af14edc44b3b7a94b5224de4f704c3ba501bce") false
    J.booksStay_holds (fun _ h => by cases h) (by kernel_rfl) (fun _ h => by cases h) booksStay_row_tie rfl ⟨rfl, rfl⟩ (by kernel_rfl) rfl
    (fun f fn hf hfn => by
      obtain rfl : f = 3 := Option.some.inj ((show Tryd.prog.funcNamed "quittance/quittancelaw21.BooksStay" = some 3 by kernel_rfl).symm.trans hf) |>.symm
      obtain rfl : fn = Tryd.f3 := (Option.some.inj (Tryd.func3.symm.trans hfn)).symm
      exact ⟨by kernel_rfl, fun j t ht => by
        rw [Tryd.params3] at ht
        have h3 : t ∈ [22, 3, 3] := by
          have := Array.mem_of_getElem? ht
          simpa using this
        have h4 : (([22, 3, 3] : List Nat).all fun t => !Tryd.prog.wantsStandIn t) = true := by kernel_rfl
        have h5 : Tryd.prog.wantsStandIn t = false := by simpa using List.all_eq_true.1 h4 t h3
        exact h5⟩)
    (by kernel_rfl)
#print axioms booksStay_card

end Go.Proofs.YtkojphmejddhiaaDoor
