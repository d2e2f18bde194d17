/-
  DERIVED. GIVEN WITH THE SEED: THE CARDS: each row of YtkojphmejddhiaaGreatDoorRows.lean that lists a variable, with what it lists TIED to the program's text (the seventh form; the later family's looks); each row that meets fmt, with fmt's text TOLD by the authors' own Lean function (tested against real Go, not proved from fmt's source: count such statements apart). THE CARD IS WHAT COUNTS. Prove the row's statement (the work); the ties are given (YtkojphmejddhiaaGreatDoorTie.lean); close each card by the builder's one call (the guide's Derived/Test/ToyasCard.lean, 'card_holds'). Laid BY PROGRAM, IN A SANDBOX (cutbox-door.mjs). By AI agents, Wed Nov 11 2026. No macro, syntax, notation, axiom, sorry.
-/
import Derived.Test.YtkojphmejddhiaaGreatDoorRows
import GoSem.ClaimSeven
namespace Go.Proofs.YtkojphmejddhiaaGreatDoor
namespace Rows

/-- THE TIED CARD OF 'quittancelaw21.BooksTell'. -/
def booksTellCard : Claim7 := { stood := { row := booksTellRow, standIns := [], harness := (true, "3cac00f44f7fc2a28a1f2d15fd011c02a84a51a374b6ca88dac859b30f229d04"), looks := false }, kinds := [], alts := [], laidByText := true, laidKinds := [.data], laidTests := true, laidLooks := .later }
def BooksTellCardSaid : Prop := Claim7.holds Tryz.pinned (.plain (OpenSpec.ofChange booksTellSpec)) booksTellCard

/-- THE SECOND FORM's CARD OF 'quittancelaw21.BooksTell'. -/
def booksTellUptoCard : Claim7 := { stood := { row := booksTellUptoRow, standIns := [], harness := (true, "3cac00f44f7fc2a28a1f2d15fd011c02a84a51a374b6ca88dac859b30f229d04"), looks := false }, kinds := [], alts := [], laidByText := true, laidKinds := [.data], laidTests := true, laidLooks := .later }
def BooksTellUptoCardSaid : Prop := Claim7.holds Tryz.pinned (.plain (OpenSpec.upto booksTellSpec)) booksTellUptoCard
end Rows
end Go.Proofs.YtkojphmejddhiaaGreatDoor
