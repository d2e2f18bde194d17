/- Proved: InvoicesWhole of chapter 24 answers true for every invoice and every list of acts, and its arguments read afterwards as they did before. No condition; the package variable invoices.bounds is tied to the program's text. -/
import Derived.Test.YtmijcaccgbhgdaaDoorRow24c
import Derived.Test.YtmijcaccgbhgdaaDoorCards
import Derived.SevenTiedAt
set_option linter.unusedVariables false
set_option linter.unusedSimpArgs false
set_option maxRecDepth 100000
set_option maxHeartbeats 4000000
namespace Go.Proofs.YtmijcaccgbhgdaaDoor
open Go Go.KL Go.RowKit Go.Proofs Go.KL.YtmijcaccgbhgdaaDoor

theorem invoicesWhole_card : Rows.InvoicesWholeCardSaid :=
  Claim7.holds_tied_plain_at .later [] [.data] true (true, "7c7d7f6c11de8e4e06870d46f6a11b03c1d2a6d649c9186d0776e0529b8c5441") false
    whole_holds (fun _ h => by cases h) (by kernel_rfl) (fun _ h => by cases h) invoicesWhole_row_tie rfl ⟨rfl, rfl⟩ (by kernel_rfl) rfl
    (fun f fn hf hfn => by
      obtain rfl : f = 6 := Option.some.inj ((show Tryd.prog.funcNamed "quittance/quittancelaw24.InvoicesWhole" = some 6 by kernel_rfl).symm.trans hf) |>.symm
      obtain rfl : fn = Tryd.f6 := (Option.some.inj (Tryd.func6.symm.trans hfn)).symm
      exact ⟨by kernel_rfl, fun j t ht => by
        rw [Tryd.params6] at ht
        have h3 : t ∈ [24, 57] := by
          have := Array.mem_of_getElem? ht
          simpa using this
        have h4 : (([24, 57] : List Nat).all fun t => !Tryd.prog.wantsStandIn t) = true := by kernel_rfl
        have h5 : Tryd.prog.wantsStandIn t = false := by simpa using List.all_eq_true.1 h4 t h3
        exact h5⟩)
    (by kernel_rfl)
#print axioms invoicesWhole_card

end Go.Proofs.YtmijcaccgbhgdaaDoor
