/-
  NARROWER THAN 'FOR EVERY INPUT', by the rows' own cells (each row's printed sentence says how): BooksStay: laid · BooksTrial: laid · BooksBack: laid · BooksMay: laid · BooksNone: laid.
  DERIVED. THE GIVEN ROWS OF THIS SEAT. 5 by the template 'for every input the law returns true; each argument reads behind the call as it read before'; 0 by the template 'total and deterministic' (their statements: YtkojphmejddhiaaDoorTotals.lean).
  GIVEN WITH THE SEED: the statements are not yours to turn. If you find one false, say at which input.
  Laid BY PROGRAM, IN A SANDBOX (cutbox-rows.mjs): the forced cells as the released guide's own fill.sh prints them over the translation 0f94e252208a9a97… (all of the seat's roots in one cut). By AI agents, Wed Nov 11 2026. No macro, syntax, notation, axiom, sorry.
-/
import Derived.Test.YtkojphmejddhiaaDoorChecked
import GoSem.Claim
import GoSem.ClaimJoined
import GoSem.ClaimMapViews
import Derived.JoinedTies
import Derived.KernelRfl
namespace Go.Proofs.YtkojphmejddhiaaDoor
/- THE CELL 'sum', in the pinned program and in every row, IS THE sha256 OF THE DUMP (.gsa) THAT YtkojphmejddhiaaDoorProg.lean LOADS. Nothing in Lean hashes anything: it is a label: what it is worth is what the hold of that sum in a sandbox is worth. -/
noncomputable def Tryd.pinned : Pinned := { name := "ytkojphmejddhiaadoor", sum := "0f94e252208a9a974080dfe99ba41b1d0aaf7f8622ce3ff6cb9956e8bc52e2d8", checked := Tryd.checked }
namespace Rows
def none {H : Type} : Left H := { results := [], args := [] }

/- WHAT THE LISTED PACKAGE-LEVEL VARIABLES READ AS WHEN THE CALL BEGINS. Each datum BY PROGRAM (the guide's laid-datum.mjs) off the statement by which the dump's own 'gosem.cut.vars' lays the variable. In a bare row this is a premise. The card (YtkojphmejddhiaaDoorCards.lean) ties it to the program's text. -/
def laid_quittance_civil_ahead {H : Type} : DataW H := .agg [.lit (.int .i64 0), .lit (.int .i64 31), .lit (.int .i64 59), .lit (.int .i64 90), .lit (.int .i64 120), .lit (.int .i64 151), .lit (.int .i64 181), .lit (.int .i64 212), .lit (.int .i64 243), .lit (.int .i64 273), .lit (.int .i64 304), .lit (.int .i64 334), .lit (.int .i64 365)]

/-- 'quittancelaw21.BooksStay': WHATEVER THE INPUT: true; the input reads as it did. -/
def booksStaySpec : ChangeSpec := { name := "booksStay", fn := fun _ => fun
  | [d1, d2, d3] => { results := [.lit (.bool true)], args := [d1, d2, d3] }
  | _ => none }
def booksStayRow : OpenClaim := { program := "ytkojphmejddhiaadoor", sum := "0f94e252208a9a974080dfe99ba41b1d0aaf7f8622ce3ff6cb9956e8bc52e2d8", func := "quittance/quittancelaw21.BooksStay", spec := "booksStay", inPlace := ["math/bits.Add64"], unfollowed := true, recurses := true, named := ["quittance/civil.ahead"], plainKeys := false, apart := false, laid := [("quittance/civil.ahead", laid_quittance_civil_ahead)] }
def BooksStaySaid : Prop := booksStayRow.holds Tryd.pinned (OpenSpec.ofChange booksStaySpec)

/-- ITS FALSE NEIGHBOUR: 'it returns false'. Refute it at one input. -/
def booksStayWrong : ChangeSpec := { name := "booksStay", fn := fun _ => fun
  | [d1, d2, d3] => { results := [.lit (.bool false)], args := [d1, d2, d3] }
  | _ => none }
def BooksStayWrongFalsely : Prop := booksStayRow.holds Tryd.pinned (OpenSpec.ofChange booksStayWrong)

/-- 'quittancelaw21.BooksTrial': WHATEVER THE INPUT: true; the input reads as it did. -/
def booksTrialSpec : ChangeSpec := { name := "booksTrial", fn := fun _ => fun
  | [d] => { results := [.lit (.bool true)], args := [d] }
  | _ => none }
def booksTrialRow : OpenClaim := { program := "ytkojphmejddhiaadoor", sum := "0f94e252208a9a974080dfe99ba41b1d0aaf7f8622ce3ff6cb9956e8bc52e2d8", func := "quittance/quittancelaw21.BooksTrial", spec := "booksTrial", inPlace := ["math/bits.Add64"], unfollowed := true, recurses := true, named := ["quittance/civil.ahead"], plainKeys := false, apart := false, laid := [("quittance/civil.ahead", laid_quittance_civil_ahead)] }
def BooksTrialSaid : Prop := booksTrialRow.holds Tryd.pinned (OpenSpec.ofChange booksTrialSpec)

/-- ITS FALSE NEIGHBOUR: 'it returns false'. Refute it at one input. -/
def booksTrialWrong : ChangeSpec := { name := "booksTrial", fn := fun _ => fun
  | [d] => { results := [.lit (.bool false)], args := [d] }
  | _ => none }
def BooksTrialWrongFalsely : Prop := booksTrialRow.holds Tryd.pinned (OpenSpec.ofChange booksTrialWrong)

/-- 'quittancelaw21.BooksBack': WHATEVER THE INPUT: true; the input reads as it did. -/
def booksBackSpec : ChangeSpec := { name := "booksBack", fn := fun _ => fun
  | [d1, d2, d3] => { results := [.lit (.bool true)], args := [d1, d2, d3] }
  | _ => none }
def booksBackRow : OpenClaim := { program := "ytkojphmejddhiaadoor", sum := "0f94e252208a9a974080dfe99ba41b1d0aaf7f8622ce3ff6cb9956e8bc52e2d8", func := "quittance/quittancelaw21.BooksBack", spec := "booksBack", inPlace := ["math/bits.Add64"], unfollowed := true, recurses := true, named := ["quittance/civil.ahead"], plainKeys := false, apart := false, laid := [("quittance/civil.ahead", laid_quittance_civil_ahead)] }
def BooksBackSaid : Prop := booksBackRow.holds Tryd.pinned (OpenSpec.ofChange booksBackSpec)

/-- ITS FALSE NEIGHBOUR: 'it returns false'. Refute it at one input. -/
def booksBackWrong : ChangeSpec := { name := "booksBack", fn := fun _ => fun
  | [d1, d2, d3] => { results := [.lit (.bool false)], args := [d1, d2, d3] }
  | _ => none }
def BooksBackWrongFalsely : Prop := booksBackRow.holds Tryd.pinned (OpenSpec.ofChange booksBackWrong)

/-- 'quittancelaw21.BooksMay': WHATEVER THE INPUT: true; the input reads as it did. -/
def booksMaySpec : ChangeSpec := { name := "booksMay", fn := fun _ => fun
  | [d1, d2] => { results := [.lit (.bool true)], args := [d1, d2] }
  | _ => none }
def booksMayRow : OpenClaim := { program := "ytkojphmejddhiaadoor", sum := "0f94e252208a9a974080dfe99ba41b1d0aaf7f8622ce3ff6cb9956e8bc52e2d8", func := "quittance/quittancelaw21.BooksMay", spec := "booksMay", inPlace := ["math/bits.Add64"], unfollowed := true, recurses := true, named := ["quittance/civil.ahead"], plainKeys := false, apart := false, laid := [("quittance/civil.ahead", laid_quittance_civil_ahead)] }
def BooksMaySaid : Prop := booksMayRow.holds Tryd.pinned (OpenSpec.ofChange booksMaySpec)

/-- ITS FALSE NEIGHBOUR: 'it returns false'. Refute it at one input. -/
def booksMayWrong : ChangeSpec := { name := "booksMay", fn := fun _ => fun
  | [d1, d2] => { results := [.lit (.bool false)], args := [d1, d2] }
  | _ => none }
def BooksMayWrongFalsely : Prop := booksMayRow.holds Tryd.pinned (OpenSpec.ofChange booksMayWrong)

/-- 'quittancelaw21.BooksNone': WHATEVER THE INPUT: true; the input reads as it did. -/
def booksNoneSpec : ChangeSpec := { name := "booksNone", fn := fun _ => fun
  | [d1, d2] => { results := [.lit (.bool true)], args := [d1, d2] }
  | _ => none }
def booksNoneRow : OpenClaim := { program := "ytkojphmejddhiaadoor", sum := "0f94e252208a9a974080dfe99ba41b1d0aaf7f8622ce3ff6cb9956e8bc52e2d8", func := "quittance/quittancelaw21.BooksNone", spec := "booksNone", inPlace := ["math/bits.Add64"], unfollowed := true, recurses := true, named := ["quittance/civil.ahead"], plainKeys := false, apart := false, laid := [("quittance/civil.ahead", laid_quittance_civil_ahead)] }
def BooksNoneSaid : Prop := booksNoneRow.holds Tryd.pinned (OpenSpec.ofChange booksNoneSpec)

/-- ITS FALSE NEIGHBOUR: 'it returns false'. Refute it at one input. -/
def booksNoneWrong : ChangeSpec := { name := "booksNone", fn := fun _ => fun
  | [d1, d2] => { results := [.lit (.bool false)], args := [d1, d2] }
  | _ => none }
def BooksNoneWrongFalsely : Prop := booksNoneRow.holds Tryd.pinned (OpenSpec.ofChange booksNoneWrong)

/- THE SECOND FORM. 'bulk': how many values and letters a reading holds, each counted each time it is reached (what is shared counts as often as it is met; a slice's spare places count too). A statement '..UptoSaid' is the law's where the arguments, and the package variables that the reading takes, are together of bulk at most 1048576: NARROWER than '..Said'. Prove '..Said' where nothing that the law and all that it calls make is longer than what came in: it says more and counts as full. Else prove '..UptoSaid'. A law counts once. -/
mutual
def uptoBulk {H : Type} : DataW H → Nat
  | .lit (.string bytes) => bytes.length + 1
  | .lit _ => 1
  | .nil => 1
  | .ptr d => uptoBulk d + 1
  | .slice elems spare => uptoBulkAll elems + uptoBulkAll spare + 1
  | .agg parts => uptoBulkAll parts + 1
  | .iface _ d => uptoBulk d + 1
  | .map entries => uptoBulkEntries entries + 1
  | .held _ => 1
def uptoBulkAll {H : Type} : List (DataW H) → Nat
  | [] => 0
  | d :: r => uptoBulk d + uptoBulkAll r
def uptoBulkEntries {H : Type} : List (Lit × DataW H) → Nat
  | [] => 0
  | x :: r => uptoBulkEntry x + uptoBulkEntries r
def uptoBulkEntry {H : Type} : Lit × DataW H → Nat
  | (.string bytes, d) => bytes.length + uptoBulk d + 1
  | (_, d) => uptoBulk d + 1
 end
def uptoSmall : (H : Type) → List (DataW H) → Bool := fun _ ds => decide (uptoBulkAll ds ≤ 1048576)
def OpenSpec.upto (s : _root_.Go.ChangeSpec) : _root_.Go.OpenSpec := { _root_.Go.OpenSpec.ofChange s with cond := some uptoSmall }

/-- 'quittancelaw21.BooksStay', WHERE WHAT IT READS IS OF BULK AT MOST 1048576: true; the input reads as it did. -/
def booksStayUptoRow : OpenClaim := { program := "ytkojphmejddhiaadoor", sum := "0f94e252208a9a974080dfe99ba41b1d0aaf7f8622ce3ff6cb9956e8bc52e2d8", func := "quittance/quittancelaw21.BooksStay", spec := "booksStay", inPlace := ["math/bits.Add64"], unfollowed := true, recurses := true, named := ["quittance/civil.ahead"], plainKeys := false, apart := false, laid := [("quittance/civil.ahead", laid_quittance_civil_ahead)], narrowed := true }
def BooksStayUptoSaid : Prop := booksStayUptoRow.holds Tryd.pinned (OpenSpec.upto booksStaySpec)

/-- 'quittancelaw21.BooksTrial', WHERE WHAT IT READS IS OF BULK AT MOST 1048576: true; the input reads as it did. -/
def booksTrialUptoRow : OpenClaim := { program := "ytkojphmejddhiaadoor", sum := "0f94e252208a9a974080dfe99ba41b1d0aaf7f8622ce3ff6cb9956e8bc52e2d8", func := "quittance/quittancelaw21.BooksTrial", spec := "booksTrial", inPlace := ["math/bits.Add64"], unfollowed := true, recurses := true, named := ["quittance/civil.ahead"], plainKeys := false, apart := false, laid := [("quittance/civil.ahead", laid_quittance_civil_ahead)], narrowed := true }
def BooksTrialUptoSaid : Prop := booksTrialUptoRow.holds Tryd.pinned (OpenSpec.upto booksTrialSpec)

/-- 'quittancelaw21.BooksBack', WHERE WHAT IT READS IS OF BULK AT MOST 1048576: true; the input reads as it did. -/
def booksBackUptoRow : OpenClaim := { program := "ytkojphmejddhiaadoor", sum := "0f94e252208a9a974080dfe99ba41b1d0aaf7f8622ce3ff6cb9956e8bc52e2d8", func := "quittance/quittancelaw21.BooksBack", spec := "booksBack", inPlace := ["math/bits.Add64"], unfollowed := true, recurses := true, named := ["quittance/civil.ahead"], plainKeys := false, apart := false, laid := [("quittance/civil.ahead", laid_quittance_civil_ahead)], narrowed := true }
def BooksBackUptoSaid : Prop := booksBackUptoRow.holds Tryd.pinned (OpenSpec.upto booksBackSpec)

/-- 'quittancelaw21.BooksMay', WHERE WHAT IT READS IS OF BULK AT MOST 1048576: true; the input reads as it did. -/
def booksMayUptoRow : OpenClaim := { program := "ytkojphmejddhiaadoor", sum := "0f94e252208a9a974080dfe99ba41b1d0aaf7f8622ce3ff6cb9956e8bc52e2d8", func := "quittance/quittancelaw21.BooksMay", spec := "booksMay", inPlace := ["math/bits.Add64"], unfollowed := true, recurses := true, named := ["quittance/civil.ahead"], plainKeys := false, apart := false, laid := [("quittance/civil.ahead", laid_quittance_civil_ahead)], narrowed := true }
def BooksMayUptoSaid : Prop := booksMayUptoRow.holds Tryd.pinned (OpenSpec.upto booksMaySpec)

/-- 'quittancelaw21.BooksNone', WHERE WHAT IT READS IS OF BULK AT MOST 1048576: true; the input reads as it did. -/
def booksNoneUptoRow : OpenClaim := { program := "ytkojphmejddhiaadoor", sum := "0f94e252208a9a974080dfe99ba41b1d0aaf7f8622ce3ff6cb9956e8bc52e2d8", func := "quittance/quittancelaw21.BooksNone", spec := "booksNone", inPlace := ["math/bits.Add64"], unfollowed := true, recurses := true, named := ["quittance/civil.ahead"], plainKeys := false, apart := false, laid := [("quittance/civil.ahead", laid_quittance_civil_ahead)], narrowed := true }
def BooksNoneUptoSaid : Prop := booksNoneUptoRow.holds Tryd.pinned (OpenSpec.upto booksNoneSpec)

end Rows
end Go.Proofs.YtkojphmejddhiaaDoor
