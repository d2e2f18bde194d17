/-
  DERIVED. GIVEN WITH THE SEED: THE CARDS: each row of YthaoejicodhgaaaDoorRows.lean that lists a variable, with what it lists TIED to the program's text (the seventh form; the later family's looks); each row that meets fmt, with fmt's text TOLD by the authors' own Lean function (tested against real Go, not proved from fmt's source: count such statements apart). THE CARD IS WHAT COUNTS. Prove the row's statement (the work); the ties are given (YthaoejicodhgaaaDoorTie.lean); close each card by the builder's one call (the guide's Derived/Test/ToyasCard.lean, 'card_holds'). Laid BY PROGRAM, IN A SANDBOX (cutbox-door.mjs). By AI agents, Wed Nov 11 2026. No macro, syntax, notation, axiom, sorry.
-/
import Derived.Test.YthaoejicodhgaaaDoorRows
import GoSem.ClaimSeven
namespace Go.Proofs.YthaoejicodhgaaaDoor
namespace Rows

/-- THE TIED CARD OF 'quittancelaw27.DunningRuns'. -/
def dunningRunsCard : Claim7 := { stood := { row := dunningRunsRow, standIns := [], harness := (true, "c0be21fe664df53f1cf17f1ae434a1883490ed72d087f48dad55768eaedeaf12"), looks := false }, kinds := [], alts := [], laidByText := true, laidKinds := [.data], laidTests := true, laidLooks := .later }
def DunningRunsCardSaid : Prop := Claim7.holds Tryd.pinned (.plain (OpenSpec.ofChange dunningRunsSpec)) dunningRunsCard

/-- THE TIED CARD OF 'quittancelaw27.DunningAgain'. -/
def dunningAgainCard : Claim7 := { stood := { row := dunningAgainRow, standIns := [], harness := (true, "c0be21fe664df53f1cf17f1ae434a1883490ed72d087f48dad55768eaedeaf12"), looks := false }, kinds := [], alts := [], laidByText := true, laidKinds := [.data], laidTests := true, laidLooks := .later }
def DunningAgainCardSaid : Prop := Claim7.holds Tryd.pinned (.plain (OpenSpec.ofChange dunningAgainSpec)) dunningAgainCard

/-- THE TIED CARD OF 'quittancelaw29.RevrecRuns'. -/
def revrecRunsCard : Claim7 := { stood := { row := revrecRunsRow, standIns := [], harness := (true, "c0be21fe664df53f1cf17f1ae434a1883490ed72d087f48dad55768eaedeaf12"), looks := false }, kinds := [], alts := [], laidByText := true, laidKinds := [.data], laidTests := true, laidLooks := .later }
def RevrecRunsCardSaid : Prop := Claim7.holds Tryd.pinned (.plain (OpenSpec.ofChange revrecRunsSpec)) revrecRunsCard

/-- THE TIED CARD OF 'quittancelaw29.RevrecOnce'. -/
def revrecOnceCard : Claim7 := { stood := { row := revrecOnceRow, standIns := [], harness := (true, "c0be21fe664df53f1cf17f1ae434a1883490ed72d087f48dad55768eaedeaf12"), looks := false }, kinds := [], alts := [], laidByText := true, laidKinds := [.data], laidTests := true, laidLooks := .later }
def RevrecOnceCardSaid : Prop := Claim7.holds Tryd.pinned (.plain (OpenSpec.ofChange revrecOnceSpec)) revrecOnceCard

/-- THE SECOND FORM's CARD OF 'quittancelaw27.DunningRuns'. -/
def dunningRunsUptoCard : Claim7 := { stood := { row := dunningRunsUptoRow, standIns := [], harness := (true, "c0be21fe664df53f1cf17f1ae434a1883490ed72d087f48dad55768eaedeaf12"), looks := false }, kinds := [], alts := [], laidByText := true, laidKinds := [.data], laidTests := true, laidLooks := .later }
def DunningRunsUptoCardSaid : Prop := Claim7.holds Tryd.pinned (.plain (OpenSpec.upto dunningRunsSpec)) dunningRunsUptoCard

/-- THE SECOND FORM's CARD OF 'quittancelaw27.DunningAgain'. -/
def dunningAgainUptoCard : Claim7 := { stood := { row := dunningAgainUptoRow, standIns := [], harness := (true, "c0be21fe664df53f1cf17f1ae434a1883490ed72d087f48dad55768eaedeaf12"), looks := false }, kinds := [], alts := [], laidByText := true, laidKinds := [.data], laidTests := true, laidLooks := .later }
def DunningAgainUptoCardSaid : Prop := Claim7.holds Tryd.pinned (.plain (OpenSpec.upto dunningAgainSpec)) dunningAgainUptoCard

/-- THE SECOND FORM's CARD OF 'quittancelaw29.RevrecRuns'. -/
def revrecRunsUptoCard : Claim7 := { stood := { row := revrecRunsUptoRow, standIns := [], harness := (true, "c0be21fe664df53f1cf17f1ae434a1883490ed72d087f48dad55768eaedeaf12"), looks := false }, kinds := [], alts := [], laidByText := true, laidKinds := [.data], laidTests := true, laidLooks := .later }
def RevrecRunsUptoCardSaid : Prop := Claim7.holds Tryd.pinned (.plain (OpenSpec.upto revrecRunsSpec)) revrecRunsUptoCard

/-- THE SECOND FORM's CARD OF 'quittancelaw29.RevrecOnce'. -/
def revrecOnceUptoCard : Claim7 := { stood := { row := revrecOnceUptoRow, standIns := [], harness := (true, "c0be21fe664df53f1cf17f1ae434a1883490ed72d087f48dad55768eaedeaf12"), looks := false }, kinds := [], alts := [], laidByText := true, laidKinds := [.data], laidTests := true, laidLooks := .later }
def RevrecOnceUptoCardSaid : Prop := Claim7.holds Tryd.pinned (.plain (OpenSpec.upto revrecOnceSpec)) revrecOnceUptoCard
end Rows
end Go.Proofs.YthaoejicodhgaaaDoor
