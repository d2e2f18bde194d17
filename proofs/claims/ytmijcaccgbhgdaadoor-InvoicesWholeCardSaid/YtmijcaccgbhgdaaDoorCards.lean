/-
  DERIVED. GIVEN WITH THE SEED: THE CARDS: each row of YtmijcaccgbhgdaaDoorRows.lean that lists a variable, with what it lists TIED to the program's text (the seventh form; the later family's looks); each row that meets fmt, with fmt's text TOLD by the authors' own Lean function (tested against real Go, not proved from fmt's source: count such statements apart). THE CARD IS WHAT COUNTS. Prove the row's statement (the work); the ties are given (YtmijcaccgbhgdaaDoorTie.lean); close each card by the builder's one call (the guide's Derived/Test/ToyasCard.lean, 'card_holds'). Laid BY PROGRAM, IN A SANDBOX (cutbox-door.mjs). By AI agents, Wed Nov 11 2026. No macro, syntax, notation, axiom, sorry.
-/
import Derived.Test.YtmijcaccgbhgdaaDoorRows
import GoSem.ClaimSeven
namespace Go.Proofs.YtmijcaccgbhgdaaDoor
namespace Rows

/-- THE TIED CARD OF 'quittancelaw24.InvoicesAge'. -/
def invoicesAgeCard : Claim7 := { stood := { row := invoicesAgeRow, standIns := [], harness := (true, "7c7d7f6c11de8e4e06870d46f6a11b03c1d2a6d649c9186d0776e0529b8c5441"), looks := false }, kinds := [], alts := [], laidByText := true, laidKinds := [.data], laidTests := true, laidLooks := .later }
def InvoicesAgeCardSaid : Prop := Claim7.holds Tryd.pinned (.plain (OpenSpec.ofChange invoicesAgeSpec)) invoicesAgeCard

/-- THE TIED CARD OF 'quittancelaw24.InvoicesOlder'. -/
def invoicesOlderCard : Claim7 := { stood := { row := invoicesOlderRow, standIns := [], harness := (true, "7c7d7f6c11de8e4e06870d46f6a11b03c1d2a6d649c9186d0776e0529b8c5441"), looks := false }, kinds := [], alts := [], laidByText := true, laidKinds := [.data], laidTests := true, laidLooks := .later }
def InvoicesOlderCardSaid : Prop := Claim7.holds Tryd.pinned (.plain (OpenSpec.ofChange invoicesOlderSpec)) invoicesOlderCard

/-- THE TIED CARD OF 'quittancelaw24.InvoicesTell'. -/
def invoicesTellCard : Claim7 := { stood := { row := invoicesTellRow, standIns := [], harness := (true, "7c7d7f6c11de8e4e06870d46f6a11b03c1d2a6d649c9186d0776e0529b8c5441"), looks := false }, kinds := [], alts := [], laidByText := true, laidKinds := [.data], laidTests := true, laidLooks := .later }
def InvoicesTellCardSaid : Prop := Claim7.holds Tryd.pinned (.plain (OpenSpec.ofChange invoicesTellSpec)) invoicesTellCard

/-- THE TIED CARD OF 'quittancelaw24.InvoicesWhole'. -/
def invoicesWholeCard : Claim7 := { stood := { row := invoicesWholeRow, standIns := [], harness := (true, "7c7d7f6c11de8e4e06870d46f6a11b03c1d2a6d649c9186d0776e0529b8c5441"), looks := false }, kinds := [], alts := [], laidByText := true, laidKinds := [.data], laidTests := true, laidLooks := .later }
def InvoicesWholeCardSaid : Prop := Claim7.holds Tryd.pinned (.plain (OpenSpec.ofChange invoicesWholeSpec)) invoicesWholeCard

/-- THE SECOND FORM's CARD OF 'quittancelaw24.InvoicesAge'. -/
def invoicesAgeUptoCard : Claim7 := { stood := { row := invoicesAgeUptoRow, standIns := [], harness := (true, "7c7d7f6c11de8e4e06870d46f6a11b03c1d2a6d649c9186d0776e0529b8c5441"), looks := false }, kinds := [], alts := [], laidByText := true, laidKinds := [.data], laidTests := true, laidLooks := .later }
def InvoicesAgeUptoCardSaid : Prop := Claim7.holds Tryd.pinned (.plain (OpenSpec.upto invoicesAgeSpec)) invoicesAgeUptoCard

/-- THE SECOND FORM's CARD OF 'quittancelaw24.InvoicesOlder'. -/
def invoicesOlderUptoCard : Claim7 := { stood := { row := invoicesOlderUptoRow, standIns := [], harness := (true, "7c7d7f6c11de8e4e06870d46f6a11b03c1d2a6d649c9186d0776e0529b8c5441"), looks := false }, kinds := [], alts := [], laidByText := true, laidKinds := [.data], laidTests := true, laidLooks := .later }
def InvoicesOlderUptoCardSaid : Prop := Claim7.holds Tryd.pinned (.plain (OpenSpec.upto invoicesOlderSpec)) invoicesOlderUptoCard

/-- THE SECOND FORM's CARD OF 'quittancelaw24.InvoicesTell'. -/
def invoicesTellUptoCard : Claim7 := { stood := { row := invoicesTellUptoRow, standIns := [], harness := (true, "7c7d7f6c11de8e4e06870d46f6a11b03c1d2a6d649c9186d0776e0529b8c5441"), looks := false }, kinds := [], alts := [], laidByText := true, laidKinds := [.data], laidTests := true, laidLooks := .later }
def InvoicesTellUptoCardSaid : Prop := Claim7.holds Tryd.pinned (.plain (OpenSpec.upto invoicesTellSpec)) invoicesTellUptoCard

/-- THE SECOND FORM's CARD OF 'quittancelaw24.InvoicesWhole'. -/
def invoicesWholeUptoCard : Claim7 := { stood := { row := invoicesWholeUptoRow, standIns := [], harness := (true, "7c7d7f6c11de8e4e06870d46f6a11b03c1d2a6d649c9186d0776e0529b8c5441"), looks := false }, kinds := [], alts := [], laidByText := true, laidKinds := [.data], laidTests := true, laidLooks := .later }
def InvoicesWholeUptoCardSaid : Prop := Claim7.holds Tryd.pinned (.plain (OpenSpec.upto invoicesWholeSpec)) invoicesWholeUptoCard
end Rows
end Go.Proofs.YtmijcaccgbhgdaaDoor
