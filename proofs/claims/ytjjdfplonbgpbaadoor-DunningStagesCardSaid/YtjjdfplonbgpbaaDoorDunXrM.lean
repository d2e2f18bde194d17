/- Proved: DunningStages of chapter 27 answers true for every policy, day and invoice, and its arguments read afterwards as they did before. No condition; the package variable invoices.bounds is tied to the program's text. -/
import Derived.Test.YtjjdfplonbgpbaaDoorDe
import Derived.Test.YtjjdfplonbgpbaaDoorCards
import Derived.SevenTiedAt
set_option linter.unusedVariables false
set_option linter.unusedSimpArgs false
set_option maxRecDepth 100000
set_option maxHeartbeats 4000000
namespace Go.KL.YtjjdfplonbgpbaaDoor.U
open Go Go.KL Go.RowKit Go.Proofs Go.Proofs.YtjjdfplonbgpbaaDoor Go.ChangeShapes Go.WideShapes Go.KL.YtjjdfplonbgpbaaDoor

theorem shapeDunningStages0 : (shape Tryd.prog 40 24) = some shPo := by kernel_rfl
theorem shapeDunningStages2 : (shape Tryd.prog 40 27) = some shInv := by kernel_rfl
theorem dunningStages_lifted (os : Os) (started : os.Started) (H : Type) (enc : TypeId × Value → H) :
    ReturnsInHanded {} Tryd.checked os 3 .any (fun w args => (Rows.dunningStagesSpec.pre enc Tryd.prog Tryd.f3 [] false w args ∧ laidMetH Tryd.prog Rows.dunningStagesRow.laid w) ∧ sizedMet enc Tryd.prog Tryd.f3 (OpenSpec.ofChange Rows.dunningStagesSpec) false w args)
      (Rows.dunningStagesSpec.post enc Tryd.prog Tryd.f3 false true false false) := by
  refine returnsInHanded_of_change_and (C := Tryd.checked) (X := fun w _ => laidMetH Tryd.prog Rows.dunningStagesRow.laid w) (fun _ _ _ hh h => h.of_heap hh) own started (by kernel_rfl) Tryd.func3
    (ChangeSpec.witness_at (enc := enc) (C := Tryd.checked) (os := os) (X := fun w _ => laidMetH Tryd.prog Rows.dunningStagesRow.laid w) false (laidWorld os) #[.agg #[.slice none 0 0, .int .i64 0], .int .i64 0, .agg #[.int .u64 0, .int .u64 0, .int .u64 0, .int .i64 0, .int .i64 0, .int .i64 0, .int .i64 0, .int .i64 0, .int .i64 0, .int .i64 0, .int .i64 0]] 8 rfl (by kernel_rfl) (by kernel_rfl) (by kernel_rfl) (by kernel_rfl) (by kernel_rfl) (laidWorld_met os _)) ?_
  intro W base args ds gs before hval0 hW _ _ hL _
  have hval : ∀ (j : Nat) t v, Tryd.f3.params[j]? = some t → args[j]? = some v → Value.okWide Tryd.prog W .any base t v := hval0
  have hW' := hW
  obtain ⟨p, q, hA0, hV0, rfl, hfz, hnd⟩ := hW
  have hA : DataW.TrodAll enc Tryd.prog W 0 (fun _ => true) true Tryd.f3.params.toList args.toList ds p := hA0
  rw [Tryd.params3] at hA hval
  obtain ⟨v0, v1, v2, d0, d1, d2, p0, p1, p2, rfl, rfl, rfl, h0, h1, h2⟩ := trodAll_three hA
  obtain ⟨c0, rfl, _⟩ := okWide_struct Tryd.underlying24 (hval 0 24 v0 rfl rfl)
  obtain ⟨fuel0, h0'⟩ := h0
  obtain ⟨j0, k0, _⟩ := shOk Tryd.prog enc W (fun _ => true) true 40 24 _ shapeDunningStages0 fuel0 _ _ _ h0'
  obtain ⟨po0, hR0, hcs0⟩ := ok_po k0
  rw [hcs0] at j0
  obtain ⟨n1, rfl, rfl, rfl, w1⟩ := open_int Tryd.underlying3 (hval 1 3 v1 rfl rfl) h1
  obtain ⟨c2, rfl, _⟩ := okWide_struct Tryd.underlying27 (hval 2 27 v2 rfl rfl)
  obtain ⟨fuel2, h2'⟩ := h2
  obtain ⟨j2, k2, _⟩ := shOk Tryd.prog enc W (fun _ => true) true 40 27 _ shapeDunningStages2 fuel2 _ _ _ h2'
  obtain ⟨iv2, hR2, hcs2⟩ := ok_inv k2
  rw [hcs2] at j2
  refine (lift (Stages po0 hR0.1 hR0.2 n1 (ok_i64 w1) iv2 hR2) (gok hL) (VL.mk3 (arg_agg j0) (.int _ _) (arg_agg j2))).mono fun e W' ⟨he, hb⟩ => ?_
  refine ⟨_, he, post_true laidOut ?_ (tb := 4) (by kernel_rfl) Tryd.underlying4 rfl ?_ hW' hb⟩
  · rw [Tryd.params3]; intro t ht; simp at ht; rcases ht with rfl | rfl | rfl <;> exact ⟨by kernel_rfl, of_decide_eq_true (by kernel_rfl)⟩
  · rfl

theorem dunningStages_in : (Rows.dunningStagesRow.inPlace == Tryd.checked.prog.inPlace 3) = true := by kernel_rfl
theorem dunningStages_un : (Rows.dunningStagesRow.unfollowed == Tryd.checked.prog.unfollowed 3) = true := by kernel_rfl
theorem dunningStages_rc : (Rows.dunningStagesRow.recurses == Tryd.checked.prog.recurses 3) = true := by kernel_rfl
theorem dunningStages_nm : (Rows.dunningStagesRow.named == Tryd.checked.prog.varsNamed 3) = true := by kernel_rfl
theorem dunningStages_cl : joinedFacts Tryd.checked.prog 3 Tryd.f3 Rows.dunningStagesSpec Rows.dunningStagesRow = true := by
  unfold joinedFacts
  rw [dunningStages_in, dunningStages_un, dunningStages_rc, dunningStages_nm]
  kernel_rfl
theorem dunningStages_holds : Rows.DunningStagesSaid :=
  OpenClaim.holds_of_wide 3 Tryd.f3 rfl rfl rfl rfl rfl rfl rfl ⟨rfl, rfl, rfl, rfl, rfl⟩ rfl rfl rfl rfl rfl (by kernel_rfl) Tryd.func3 dunningStages_cl
    (of_decide_eq_true (by kernel_rfl)) (by unfold Func.isWrapper; rw [if_neg (of_decide_eq_false (by kernel_rfl))]; exact ⟨rfl, rfl⟩)
    (fun os started H enc _ => dunningStages_lifted os started H enc)
end Go.KL.YtjjdfplonbgpbaaDoor.U
namespace Go.Proofs.YtjjdfplonbgpbaaDoor
open Go Go.KL Go.RowKit Go.Proofs Go.KL.YtjjdfplonbgpbaaDoor

theorem dunningStages_card : Rows.DunningStagesCardSaid :=
  Claim7.holds_tied_plain_at .later [] [.data] true (true, "ed5b27ea53225101cf1eab6646044eb72b25b68ab243eee10f4fd006ebd46bcb") false
    U.dunningStages_holds (fun _ h => by cases h) (by kernel_rfl) (fun _ h => by cases h) dunningStages_row_tie rfl ⟨rfl, rfl⟩ (by kernel_rfl) rfl
    (fun f fn hf hfn => by
      obtain rfl : f = 3 := Option.some.inj ((show Tryd.prog.funcNamed "quittance/quittancelaw27.DunningStages" = some 3 by kernel_rfl).symm.trans hf) |>.symm
      obtain rfl : fn = Tryd.f3 := (Option.some.inj (Tryd.func3.symm.trans hfn)).symm
      exact ⟨by kernel_rfl, fun j t ht => by
        rw [Tryd.params3] at ht
        have h3 : t ∈ [24, 3, 27] := by
          have := Array.mem_of_getElem? ht
          simpa using this
        have h4 : (([24, 3, 27] : List Nat).all fun t => !Tryd.prog.wantsStandIn t) = true := by kernel_rfl
        have h5 : Tryd.prog.wantsStandIn t = false := by simpa using List.all_eq_true.1 h4 t h3
        exact h5⟩)
    (by kernel_rfl)
#print axioms dunningStages_card

end Go.Proofs.YtjjdfplonbgpbaaDoor
