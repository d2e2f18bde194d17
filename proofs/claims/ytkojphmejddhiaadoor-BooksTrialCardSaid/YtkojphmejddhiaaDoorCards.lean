/-
  DERIVED. GIVEN WITH THE SEED: THE CARDS: each row of YtkojphmejddhiaaDoorRows.lean that lists a variable, with what it lists TIED to the program's text (the seventh form; the later family's looks); each row that meets fmt, with fmt's text TOLD by the authors' own Lean function (tested against real Go, not proved from fmt's source: count such statements apart). THE CARD IS WHAT COUNTS. Prove the row's statement (the work); the ties are given (YtkojphmejddhiaaDoorTie.lean); close each card by the builder's one call (the guide's Derived/Test/ToyasCard.lean, 'card_holds'). Laid BY PROGRAM, IN A SANDBOX (cutbox-door.mjs). By AI agents, Wed Nov 11 2026. No macro, syntax, notation, axiom, sorry.
-/
import Derived.Test.YtkojphmejddhiaaDoorRows
import GoSem.ClaimSeven
namespace Go.Proofs.YtkojphmejddhiaaDoor
namespace Rows

/-- THE TIED CARD OF 'quittancelaw21.BooksStay'. -/
def booksStayCard : Claim7 := { stood := { row := booksStayRow, standIns := [], harness := (true, "e4cd5c10d594df372f17155441af14edc44b3b7a94b5224de4f704c3ba501bce"), looks := false }, kinds := [], alts := [], laidByText := true, laidKinds := [.data], laidTests := true, laidLooks := .later }
def BooksStayCardSaid : Prop := Claim7.holds Tryd.pinned (.plain (OpenSpec.ofChange booksStaySpec)) booksStayCard

/-- THE TIED CARD OF 'quittancelaw21.BooksTrial'. -/
def booksTrialCard : Claim7 := { stood := { row := booksTrialRow, standIns := [], harness := (true, "e4cd5c10d594df372f17155441af14edc44b3b7a94b5224de4f704c3ba501bce"), looks := false }, kinds := [], alts := [], laidByText := true, laidKinds := [.data], laidTests := true, laidLooks := .later }
def BooksTrialCardSaid : Prop := Claim7.holds Tryd.pinned (.plain (OpenSpec.ofChange booksTrialSpec)) booksTrialCard

/-- THE TIED CARD OF 'quittancelaw21.BooksBack'. -/
def booksBackCard : Claim7 := { stood := { row := booksBackRow, standIns := [], harness := (true, "e4cd5c10d594df372f17155441af14edc44b3b7a94b5224de4f704c3ba501bce"), looks := false }, kinds := [], alts := [], laidByText := true, laidKinds := [.data], laidTests := true, laidLooks := .later }
def BooksBackCardSaid : Prop := Claim7.holds Tryd.pinned (.plain (OpenSpec.ofChange booksBackSpec)) booksBackCard

/-- THE TIED CARD OF 'quittancelaw21.BooksMay'. -/
def booksMayCard : Claim7 := { stood := { row := booksMayRow, standIns := [], harness := (true, "e4cd5c10d594df372f17155441af14edc44b3b7a94b5224de4f704c3ba501bce"), looks := false }, kinds := [], alts := [], laidByText := true, laidKinds := [.data], laidTests := true, laidLooks := .later }
def BooksMayCardSaid : Prop := Claim7.holds Tryd.pinned (.plain (OpenSpec.ofChange booksMaySpec)) booksMayCard

/-- THE TIED CARD OF 'quittancelaw21.BooksNone'. -/
def booksNoneCard : Claim7 := { stood := { row := booksNoneRow, standIns := [], harness := (true, "e4cd5c10d594df372f17155441af14edc44b3b7a94b5224de4f704c3ba501bce"), looks := false }, kinds := [], alts := [], laidByText := true, laidKinds := [.data], laidTests := true, laidLooks := .later }
def BooksNoneCardSaid : Prop := Claim7.holds Tryd.pinned (.plain (OpenSpec.ofChange booksNoneSpec)) booksNoneCard

/-- THE SECOND FORM's CARD OF 'quittancelaw21.BooksStay'. -/
def booksStayUptoCard : Claim7 := { stood := { row := booksStayUptoRow, standIns := [], harness := (true, "e4cd5c10d594df372f17155441af14edc44b3b7a94b5224de4f704c3ba501bce"), looks := false }, kinds := [], alts := [], laidByText := true, laidKinds := [.data], laidTests := true, laidLooks := .later }
def BooksStayUptoCardSaid : Prop := Claim7.holds Tryd.pinned (.plain (OpenSpec.upto booksStaySpec)) booksStayUptoCard

/-- THE SECOND FORM's CARD OF 'quittancelaw21.BooksTrial'. -/
def booksTrialUptoCard : Claim7 := { stood := { row := booksTrialUptoRow, standIns := [], harness := (true, "e4cd5c10d594df372f17155441af14edc44b3b7a94b5224de4f704c3ba501bce"), looks := false }, kinds := [], alts := [], laidByText := true, laidKinds := [.data], laidTests := true, laidLooks := .later }
def BooksTrialUptoCardSaid : Prop := Claim7.holds Tryd.pinned (.plain (OpenSpec.upto booksTrialSpec)) booksTrialUptoCard

/-- THE SECOND FORM's CARD OF 'quittancelaw21.BooksBack'. -/
def booksBackUptoCard : Claim7 := { stood := { row := booksBackUptoRow, standIns := [], harness := (true, "e4cd5c10d594df372f17155441af14edc44b3b7a94b5224de4f704c3ba501bce"), looks := false }, kinds := [], alts := [], laidByText := true, laidKinds := [.data], laidTests := true, laidLooks := .later }
def BooksBackUptoCardSaid : Prop := Claim7.holds Tryd.pinned (.plain (OpenSpec.upto booksBackSpec)) booksBackUptoCard

/-- THE SECOND FORM's CARD OF 'quittancelaw21.BooksMay'. -/
def booksMayUptoCard : Claim7 := { stood := { row := booksMayUptoRow, standIns := [], harness := (true, "e4cd5c10d594df372f17155441af14edc44b3b7a94b5224de4f704c3ba501bce"), looks := false }, kinds := [], alts := [], laidByText := true, laidKinds := [.data], laidTests := true, laidLooks := .later }
def BooksMayUptoCardSaid : Prop := Claim7.holds Tryd.pinned (.plain (OpenSpec.upto booksMaySpec)) booksMayUptoCard

/-- THE SECOND FORM's CARD OF 'quittancelaw21.BooksNone'. -/
def booksNoneUptoCard : Claim7 := { stood := { row := booksNoneUptoRow, standIns := [], harness := (true, "e4cd5c10d594df372f17155441af14edc44b3b7a94b5224de4f704c3ba501bce"), looks := false }, kinds := [], alts := [], laidByText := true, laidKinds := [.data], laidTests := true, laidLooks := .later }
def BooksNoneUptoCardSaid : Prop := Claim7.holds Tryd.pinned (.plain (OpenSpec.upto booksNoneSpec)) booksNoneUptoCard
end Rows
end Go.Proofs.YtkojphmejddhiaaDoor
