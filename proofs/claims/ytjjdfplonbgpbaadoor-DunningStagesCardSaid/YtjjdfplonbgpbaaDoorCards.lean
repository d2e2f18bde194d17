/-
  DERIVED. GIVEN WITH THE SEED: THE CARDS: each row of YtjjdfplonbgpbaaDoorRows.lean that lists a variable, with what it lists TIED to the program's text (the seventh form; the later family's looks); each row that meets fmt, with fmt's text TOLD by the authors' own Lean function (tested against real Go, not proved from fmt's source: count such statements apart). THE CARD IS WHAT COUNTS. Prove the row's statement (the work); the ties are given (YtjjdfplonbgpbaaDoorTie.lean); close each card by the builder's one call (the guide's Derived/Test/ToyasCard.lean, 'card_holds'). Laid BY PROGRAM, IN A SANDBOX (cutbox-door.mjs). By AI agents, Wed Nov 11 2026. No macro, syntax, notation, axiom, sorry.
-/
import Derived.Test.YtjjdfplonbgpbaaDoorRows
import GoSem.ClaimSeven
namespace Go.Proofs.YtjjdfplonbgpbaaDoor
namespace Rows

/-- THE TIED CARD OF 'quittancelaw27.DunningStages'. -/
def dunningStagesCard : Claim7 := { stood := { row := dunningStagesRow, standIns := [], harness := (true, "ed5b27ea53225101cf1eab6646044eb72b25b68ab243eee10f4fd006ebd46bcb"), looks := false }, kinds := [], alts := [], laidByText := true, laidKinds := [.data], laidTests := true, laidLooks := .later }
def DunningStagesCardSaid : Prop := Claim7.holds Tryd.pinned (.plain (OpenSpec.ofChange dunningStagesSpec)) dunningStagesCard

/-- THE SECOND FORM's CARD OF 'quittancelaw27.DunningStages'. -/
def dunningStagesUptoCard : Claim7 := { stood := { row := dunningStagesUptoRow, standIns := [], harness := (true, "ed5b27ea53225101cf1eab6646044eb72b25b68ab243eee10f4fd006ebd46bcb"), looks := false }, kinds := [], alts := [], laidByText := true, laidKinds := [.data], laidTests := true, laidLooks := .later }
def DunningStagesUptoCardSaid : Prop := Claim7.holds Tryd.pinned (.plain (OpenSpec.upto dunningStagesSpec)) dunningStagesUptoCard
end Rows
end Go.Proofs.YtjjdfplonbgpbaaDoor
