/- Proved: BooksBack of chapter 21 answers true for every list of acts, entry and day, and its arguments read afterwards as they did before. No condition; the package variable civil.ahead is tied to the program's text. -/
import Derived.Test.YtkojphmejddhiaaDoorBf
import Derived.Test.YtkojphmejddhiaaDoorCards
import Derived.SevenTiedAt
set_option linter.unusedVariables false
set_option linter.unusedSimpArgs false
set_option maxRecDepth 100000
set_option maxHeartbeats 4000000
namespace Go.KL.YtkojphmejddhiaaDoor.J
open Go Go.KL Go.RowKit Go.Proofs Go.Proofs.YtkojphmejddhiaaDoor Go.ChangeShapes Go.WideShapes Go.KL.YtkojphmejddhiaaDoor

theorem shapeBooksBack0 : (shape Tryd.prog 40 22) = some (.sl shAtB) := by kernel_rfl
theorem shapeBooksBack1 : (shape Tryd.prog 40 32) = some shEnt := by kernel_rfl
theorem booksBack_lifted (os : Os) (started : os.Started) (H : Type) (enc : TypeId × Value → H) :
    ReturnsInHanded {} Tryd.checked os 5 .any (fun w args => (Rows.booksBackSpec.pre enc Tryd.prog Tryd.f5 [] false w args ∧ laidMetH Tryd.prog Rows.booksBackRow.laid w) ∧ sizedMet enc Tryd.prog Tryd.f5 (OpenSpec.ofChange Rows.booksBackSpec) false w args)
      (Rows.booksBackSpec.post enc Tryd.prog Tryd.f5 false true false false) := by
  refine returnsInHanded_of_change_and (C := Tryd.checked) (X := fun w _ => laidMetH Tryd.prog Rows.booksBackRow.laid w) (fun _ _ _ hh h => h.of_heap hh) own started (by kernel_rfl) Tryd.func5
    (ChangeSpec.witness_at (enc := enc) (C := Tryd.checked) (os := os) (X := fun w _ => laidMetH Tryd.prog Rows.booksBackRow.laid w) false (laidWorld os) #[.slice none 0 0, .agg #[.int .i64 0, .int .u8 0, .int .u64 0, .slice none 0 0], .int .i64 0] 8 rfl (by kernel_rfl) (by kernel_rfl) (by kernel_rfl) (by kernel_rfl) (by kernel_rfl) (laidWorld_met os _)) ?_
  intro W base args ds gs before hval0 hW _ _ hL _
  have hval : ∀ (j : Nat) t v, Tryd.f5.params[j]? = some t → args[j]? = some v → Value.okWide Tryd.prog W .any base t v := hval0
  have hW' := hW
  obtain ⟨p, q, hA0, hV0, rfl, hfz, hnd⟩ := hW
  have hA : DataW.TrodAll enc Tryd.prog W 0 (fun _ => true) true Tryd.f5.params.toList args.toList ds p := hA0
  rw [Tryd.params5] at hA hval
  obtain ⟨v0, v1, v2, d0, d1, d2, p0, p1, p2, rfl, rfl, rfl, h0, h1, h2⟩ := trodAll_three hA
  obtain ⟨a0, len0, cap0, rfl⟩ := okWide_slice Tryd.underlying22 (hval 0 22 v0 rfl rfl)
  obtain ⟨fuel0, h0'⟩ := h0
  obtain ⟨j0, k0, _⟩ := shOk Tryd.prog enc W (fun _ => true) true 40 22 _ shapeBooksBack0 fuel0 _ _ _ h0'
  obtain ⟨l0, hR0, hl0, hcs0⟩ := ok_sl (R := (fun x : At => x.R)) (C := At.cs) (fun d h => ok_at h) k0
  rw [hcs0] at j0
  obtain ⟨c1, rfl, _⟩ := okWide_struct Tryd.underlying32 (hval 1 32 v1 rfl rfl)
  obtain ⟨fuel1, h1'⟩ := h1
  obtain ⟨j1, k1, _⟩ := shOk Tryd.prog enc W (fun _ => true) true 40 32 _ shapeBooksBack1 fuel1 _ _ _ h1'
  obtain ⟨ent1, hR1, hcs1⟩ := ok_ent k1
  rw [hcs1] at j1
  obtain ⟨n2, rfl, rfl, rfl, w2⟩ := open_int Tryd.underlying3 (hval 2 3 v2 rfl rfl) h2
  refine (lift (booksBack l0 hR0 hl0 ent1 hR1 n2 (ok_i64 w2)) (gok hL) (VL.mk3 (arg_one j0) (arg_agg j1) (.int _ _))).mono fun e W' ⟨he, hb⟩ => ?_
  refine ⟨_, he, post_true laidOut ?_ (tb := 4) (by kernel_rfl) Tryd.underlying4 rfl ?_ hW' hb⟩
  · rw [Tryd.params5]; intro t ht; simp at ht; rcases ht with rfl | rfl | rfl <;> exact ⟨by kernel_rfl, of_decide_eq_true (by kernel_rfl)⟩
  · rfl

theorem booksBack_in : (Rows.booksBackRow.inPlace == Tryd.checked.prog.inPlace 5) = true := by kernel_rfl
theorem booksBack_un : (Rows.booksBackRow.unfollowed == Tryd.checked.prog.unfollowed 5) = true := by kernel_rfl
theorem booksBack_rc : (Rows.booksBackRow.recurses == Tryd.checked.prog.recurses 5) = true := by kernel_rfl
theorem booksBack_nm : (Rows.booksBackRow.named == Tryd.checked.prog.varsNamed 5) = true := by kernel_rfl
theorem booksBack_cl : joinedFacts Tryd.checked.prog 5 Tryd.f5 Rows.booksBackSpec Rows.booksBackRow = true := by
  unfold joinedFacts
  rw [booksBack_in, booksBack_un, booksBack_rc, booksBack_nm]
  kernel_rfl
theorem booksBack_holds : Rows.BooksBackSaid :=
  OpenClaim.holds_of_wide 5 Tryd.f5 rfl rfl rfl rfl rfl rfl rfl ⟨rfl, rfl, rfl, rfl, rfl⟩ rfl rfl rfl rfl rfl (by kernel_rfl) Tryd.func5 booksBack_cl
    (of_decide_eq_true (by kernel_rfl)) (by unfold Func.isWrapper; rw [if_neg (of_decide_eq_false (by kernel_rfl))]; exact ⟨rfl, rfl⟩)
    (fun os started H enc _ => booksBack_lifted os started H enc)
end Go.KL.YtkojphmejddhiaaDoor.J
namespace Go.Proofs.YtkojphmejddhiaaDoor
open Go Go.KL Go.RowKit Go.Proofs Go.KL.YtkojphmejddhiaaDoor

theorem booksBack_card : Rows.BooksBackCardSaid :=
  Claim7.holds_tied_plain_at .later [] [.data] true (true, "e4cd5c10d594df372f17155441af14edc44b3b7a94b5224de4f704c3ba501bce") false
    J.booksBack_holds (fun _ h => by cases h) (by kernel_rfl) (fun _ h => by cases h) booksBack_row_tie rfl ⟨rfl, rfl⟩ (by kernel_rfl) rfl
    (fun f fn hf hfn => by
      obtain rfl : f = 5 := Option.some.inj ((show Tryd.prog.funcNamed "quittance/quittancelaw21.BooksBack" = some 5 by kernel_rfl).symm.trans hf) |>.symm
      obtain rfl : fn = Tryd.f5 := (Option.some.inj (Tryd.func5.symm.trans hfn)).symm
      exact ⟨by kernel_rfl, fun j t ht => by
        rw [Tryd.params5] at ht
        have h3 : t ∈ [22, 32, 3] := by
          have := Array.mem_of_getElem? ht
          simpa using this
        have h4 : (([22, 32, 3] : List Nat).all fun t => !Tryd.prog.wantsStandIn t) = true := by kernel_rfl
        have h5 : Tryd.prog.wantsStandIn t = false := by simpa using List.all_eq_true.1 h4 t h3
        exact h5⟩)
    (by kernel_rfl)
#print axioms booksBack_card

end Go.Proofs.YtkojphmejddhiaaDoor
