/- Proved: DunningAgain of chapter 27 answers true for every policy, list of duns, list of invoices and two days, and its arguments read afterwards as they did before. No condition; the package variable invoices.bounds is tied to the program's text. -/
import Derived.Test.YthaoejicodhgaaaDoorDunSM
import Derived.Test.YthaoejicodhgaaaDoorCards
import Derived.SevenTiedAt
set_option linter.unusedVariables false
set_option linter.unusedSimpArgs false
set_option maxRecDepth 100000
set_option maxHeartbeats 4000000
namespace Go.Proofs.YthaoejicodhgaaaDoor
open Go Go.KL Go.RowKit Go.Proofs Go.KL.YthaoejicodhgaaaDoor

theorem dunningAgain_card : Rows.DunningAgainCardSaid :=
  Claim7.holds_tied_plain_at .later [] [.data] true (true, "c0be21fe664df53f1cf17f1ae434a1883490ed72d087f48dad55768eaedeaf12") false
    U.again_holds (fun _ h => by cases h) (by kernel_rfl) (fun _ h => by cases h) dunningAgain_row_tie rfl ⟨rfl, rfl⟩ (by kernel_rfl) rfl
    (fun f fn hf hfn => by
      obtain rfl : f = 4 := Option.some.inj ((show Tryd.prog.funcNamed "quittance/quittancelaw27.DunningAgain" = some 4 by kernel_rfl).symm.trans hf) |>.symm
      obtain rfl : fn = Tryd.f4 := (Option.some.inj (Tryd.func4.symm.trans hfn)).symm
      exact ⟨by kernel_rfl, fun j t ht => by
        rw [Tryd.params4] at ht
        have h3 : t ∈ [28, 3] := by
          have := Array.mem_of_getElem? ht
          simpa using this
        have h4 : (([28, 3] : List Nat).all fun t => !Tryd.prog.wantsStandIn t) = true := by kernel_rfl
        have h5 : Tryd.prog.wantsStandIn t = false := by simpa using List.all_eq_true.1 h4 t h3
        exact h5⟩)
    (by kernel_rfl)
#print axioms dunningAgain_card

end Go.Proofs.YthaoejicodhgaaaDoor
