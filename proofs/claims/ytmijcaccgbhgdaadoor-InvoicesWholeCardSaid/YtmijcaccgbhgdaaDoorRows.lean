/-
  NARROWER THAN 'FOR EVERY INPUT', by the rows' own cells (each row's printed sentence says how): InvoicesAge: laid · InvoicesOlder: laid · InvoicesTell: laid · InvoicesWhole: laid.
  DERIVED. THE GIVEN ROWS OF THIS SEAT. 4 by the template 'for every input the law returns true; each argument reads behind the call as it read before'; 0 by the template 'total and deterministic' (their statements: YtmijcaccgbhgdaaDoorTotals.lean).
  GIVEN WITH THE SEED: the statements are not yours to turn. If you find one false, say at which input.
  Laid BY PROGRAM, IN A SANDBOX (cutbox-rows.mjs): the forced cells as the released guide's own fill.sh prints them over the translation e1e232906a8b0f29… (all of the seat's roots in one cut). By AI agents, Wed Nov 11 2026. No macro, syntax, notation, axiom, sorry.
-/
import Derived.Test.YtmijcaccgbhgdaaDoorChecked
import GoSem.Claim
import GoSem.ClaimJoined
import GoSem.ClaimMapViews
import Derived.JoinedTies
import Derived.KernelRfl
namespace Go.Proofs.YtmijcaccgbhgdaaDoor
/- THE CELL 'sum', in the pinned program and in every row, IS THE sha256 OF THE DUMP (.gsa) THAT YtmijcaccgbhgdaaDoorProg.lean LOADS. Nothing in Lean hashes anything: it is a label: what it is worth is what the hold of that sum in a sandbox is worth. -/
noncomputable def Tryd.pinned : Pinned := { name := "ytmijcaccgbhgdaadoor", sum := "e1e232906a8b0f2917e0cbe53ff4ca0ee33ec0659e768031bb40450a17490e8b", checked := Tryd.checked }
namespace Rows
def none {H : Type} : Left H := { results := [], args := [] }

/- WHAT THE LISTED PACKAGE-LEVEL VARIABLES READ AS WHEN THE CALL BEGINS. Each datum BY PROGRAM (the guide's laid-datum.mjs) off the statement by which the dump's own 'gosem.cut.vars' lays the variable. In a bare row this is a premise. The card (YtmijcaccgbhgdaaDoorCards.lean) ties it to the program's text. -/
def laid_quittance_invoices_bounds {H : Type} : DataW H := .agg [.lit (.int .i64 0), .lit (.int .i64 30), .lit (.int .i64 60), .lit (.int .i64 90)]

/-- 'quittancelaw24.InvoicesAge': WHATEVER THE INPUT: true; the input reads as it did. -/
def invoicesAgeSpec : ChangeSpec := { name := "invoicesAge", fn := fun _ => fun
  | [d1, d2, d3] => { results := [.lit (.bool true)], args := [d1, d2, d3] }
  | _ => none }
def invoicesAgeRow : OpenClaim := { program := "ytmijcaccgbhgdaadoor", sum := "e1e232906a8b0f2917e0cbe53ff4ca0ee33ec0659e768031bb40450a17490e8b", func := "quittance/quittancelaw24.InvoicesAge", spec := "invoicesAge", inPlace := ["math/bits.Add64"], named := ["quittance/invoices.bounds"], apart := false, laid := [("quittance/invoices.bounds", laid_quittance_invoices_bounds)] }
def InvoicesAgeSaid : Prop := invoicesAgeRow.holds Tryd.pinned (OpenSpec.ofChange invoicesAgeSpec)

/-- ITS FALSE NEIGHBOUR: 'it returns false'. Refute it at one input. -/
def invoicesAgeWrong : ChangeSpec := { name := "invoicesAge", fn := fun _ => fun
  | [d1, d2, d3] => { results := [.lit (.bool false)], args := [d1, d2, d3] }
  | _ => none }
def InvoicesAgeWrongFalsely : Prop := invoicesAgeRow.holds Tryd.pinned (OpenSpec.ofChange invoicesAgeWrong)

/-- 'quittancelaw24.InvoicesOlder': WHATEVER THE INPUT: true; the input reads as it did. -/
def invoicesOlderSpec : ChangeSpec := { name := "invoicesOlder", fn := fun _ => fun
  | [d1, d2, d3] => { results := [.lit (.bool true)], args := [d1, d2, d3] }
  | _ => none }
def invoicesOlderRow : OpenClaim := { program := "ytmijcaccgbhgdaadoor", sum := "e1e232906a8b0f2917e0cbe53ff4ca0ee33ec0659e768031bb40450a17490e8b", func := "quittance/quittancelaw24.InvoicesOlder", spec := "invoicesOlder", inPlace := ["math/bits.Add64"], named := ["quittance/invoices.bounds"], apart := false, laid := [("quittance/invoices.bounds", laid_quittance_invoices_bounds)] }
def InvoicesOlderSaid : Prop := invoicesOlderRow.holds Tryd.pinned (OpenSpec.ofChange invoicesOlderSpec)

/-- ITS FALSE NEIGHBOUR: 'it returns false'. Refute it at one input. -/
def invoicesOlderWrong : ChangeSpec := { name := "invoicesOlder", fn := fun _ => fun
  | [d1, d2, d3] => { results := [.lit (.bool false)], args := [d1, d2, d3] }
  | _ => none }
def InvoicesOlderWrongFalsely : Prop := invoicesOlderRow.holds Tryd.pinned (OpenSpec.ofChange invoicesOlderWrong)

/-- 'quittancelaw24.InvoicesTell': WHATEVER THE INPUT: true; the input reads as it did. -/
def invoicesTellSpec : ChangeSpec := { name := "invoicesTell", fn := fun _ => fun
  | [d1, d2] => { results := [.lit (.bool true)], args := [d1, d2] }
  | _ => none }
def invoicesTellRow : OpenClaim := { program := "ytmijcaccgbhgdaadoor", sum := "e1e232906a8b0f2917e0cbe53ff4ca0ee33ec0659e768031bb40450a17490e8b", func := "quittance/quittancelaw24.InvoicesTell", spec := "invoicesTell", inPlace := ["math/bits.Add64"], named := ["quittance/invoices.bounds"], apart := false, laid := [("quittance/invoices.bounds", laid_quittance_invoices_bounds)] }
def InvoicesTellSaid : Prop := invoicesTellRow.holds Tryd.pinned (OpenSpec.ofChange invoicesTellSpec)

/-- ITS FALSE NEIGHBOUR: 'it returns false'. Refute it at one input. -/
def invoicesTellWrong : ChangeSpec := { name := "invoicesTell", fn := fun _ => fun
  | [d1, d2] => { results := [.lit (.bool false)], args := [d1, d2] }
  | _ => none }
def InvoicesTellWrongFalsely : Prop := invoicesTellRow.holds Tryd.pinned (OpenSpec.ofChange invoicesTellWrong)

/-- 'quittancelaw24.InvoicesWhole': WHATEVER THE INPUT: true; the input reads as it did. -/
def invoicesWholeSpec : ChangeSpec := { name := "invoicesWhole", fn := fun _ => fun
  | [d1, d2] => { results := [.lit (.bool true)], args := [d1, d2] }
  | _ => none }
def invoicesWholeRow : OpenClaim := { program := "ytmijcaccgbhgdaadoor", sum := "e1e232906a8b0f2917e0cbe53ff4ca0ee33ec0659e768031bb40450a17490e8b", func := "quittance/quittancelaw24.InvoicesWhole", spec := "invoicesWhole", inPlace := ["math/bits.Add64"], named := ["quittance/invoices.bounds"], apart := false, laid := [("quittance/invoices.bounds", laid_quittance_invoices_bounds)] }
def InvoicesWholeSaid : Prop := invoicesWholeRow.holds Tryd.pinned (OpenSpec.ofChange invoicesWholeSpec)

/-- ITS FALSE NEIGHBOUR: 'it returns false'. Refute it at one input. -/
def invoicesWholeWrong : ChangeSpec := { name := "invoicesWhole", fn := fun _ => fun
  | [d1, d2] => { results := [.lit (.bool false)], args := [d1, d2] }
  | _ => none }
def InvoicesWholeWrongFalsely : Prop := invoicesWholeRow.holds Tryd.pinned (OpenSpec.ofChange invoicesWholeWrong)

/- THE SECOND FORM. 'bulk': how many values and letters a reading holds, each counted each time it is reached (what is shared counts as often as it is met; a slice's spare places count too). A statement '..UptoSaid' is the law's where the arguments, and the package variables that the reading takes, are together of bulk at most 1048576: NARROWER than '..Said'. Prove '..Said' where nothing that the law and all that it calls make is longer than what came in: it says more and counts as full. Else prove '..UptoSaid'. A law counts once. -/
mutual
def uptoBulk {H : Type} : DataW H → Nat
  | .lit (.string bytes) => bytes.length + 1
  | .lit _ => 1
  | .nil => 1
  | .ptr d => uptoBulk d + 1
  | .slice elems spare => uptoBulkAll elems + uptoBulkAll spare + 1
  | .agg parts => uptoBulkAll parts + 1
  | .iface _ d => uptoBulk d + 1
  | .map entries => uptoBulkEntries entries + 1
  | .held _ => 1
def uptoBulkAll {H : Type} : List (DataW H) → Nat
  | [] => 0
  | d :: r => uptoBulk d + uptoBulkAll r
def uptoBulkEntries {H : Type} : List (Lit × DataW H) → Nat
  | [] => 0
  | x :: r => uptoBulkEntry x + uptoBulkEntries r
def uptoBulkEntry {H : Type} : Lit × DataW H → Nat
  | (.string bytes, d) => bytes.length + uptoBulk d + 1
  | (_, d) => uptoBulk d + 1
 end
def uptoSmall : (H : Type) → List (DataW H) → Bool := fun _ ds => decide (uptoBulkAll ds ≤ 1048576)
def OpenSpec.upto (s : _root_.Go.ChangeSpec) : _root_.Go.OpenSpec := { _root_.Go.OpenSpec.ofChange s with cond := some uptoSmall }

/-- 'quittancelaw24.InvoicesAge', WHERE WHAT IT READS IS OF BULK AT MOST 1048576: true; the input reads as it did. -/
def invoicesAgeUptoRow : OpenClaim := { program := "ytmijcaccgbhgdaadoor", sum := "e1e232906a8b0f2917e0cbe53ff4ca0ee33ec0659e768031bb40450a17490e8b", func := "quittance/quittancelaw24.InvoicesAge", spec := "invoicesAge", inPlace := ["math/bits.Add64"], named := ["quittance/invoices.bounds"], apart := false, laid := [("quittance/invoices.bounds", laid_quittance_invoices_bounds)], narrowed := true }
def InvoicesAgeUptoSaid : Prop := invoicesAgeUptoRow.holds Tryd.pinned (OpenSpec.upto invoicesAgeSpec)

/-- 'quittancelaw24.InvoicesOlder', WHERE WHAT IT READS IS OF BULK AT MOST 1048576: true; the input reads as it did. -/
def invoicesOlderUptoRow : OpenClaim := { program := "ytmijcaccgbhgdaadoor", sum := "e1e232906a8b0f2917e0cbe53ff4ca0ee33ec0659e768031bb40450a17490e8b", func := "quittance/quittancelaw24.InvoicesOlder", spec := "invoicesOlder", inPlace := ["math/bits.Add64"], named := ["quittance/invoices.bounds"], apart := false, laid := [("quittance/invoices.bounds", laid_quittance_invoices_bounds)], narrowed := true }
def InvoicesOlderUptoSaid : Prop := invoicesOlderUptoRow.holds Tryd.pinned (OpenSpec.upto invoicesOlderSpec)

/-- 'quittancelaw24.InvoicesTell', WHERE WHAT IT READS IS OF BULK AT MOST 1048576: true; the input reads as it did. -/
def invoicesTellUptoRow : OpenClaim := { program := "ytmijcaccgbhgdaadoor", sum := "e1e232906a8b0f2917e0cbe53ff4ca0ee33ec0659e768031bb40450a17490e8b", func := "quittance/quittancelaw24.InvoicesTell", spec := "invoicesTell", inPlace := ["math/bits.Add64"], named := ["quittance/invoices.bounds"], apart := false, laid := [("quittance/invoices.bounds", laid_quittance_invoices_bounds)], narrowed := true }
def InvoicesTellUptoSaid : Prop := invoicesTellUptoRow.holds Tryd.pinned (OpenSpec.upto invoicesTellSpec)

/-- 'quittancelaw24.InvoicesWhole', WHERE WHAT IT READS IS OF BULK AT MOST 1048576: true; the input reads as it did. -/
def invoicesWholeUptoRow : OpenClaim := { program := "ytmijcaccgbhgdaadoor", sum := "e1e232906a8b0f2917e0cbe53ff4ca0ee33ec0659e768031bb40450a17490e8b", func := "quittance/quittancelaw24.InvoicesWhole", spec := "invoicesWhole", inPlace := ["math/bits.Add64"], named := ["quittance/invoices.bounds"], apart := false, laid := [("quittance/invoices.bounds", laid_quittance_invoices_bounds)], narrowed := true }
def InvoicesWholeUptoSaid : Prop := invoicesWholeUptoRow.holds Tryd.pinned (OpenSpec.upto invoicesWholeSpec)

end Rows
end Go.Proofs.YtmijcaccgbhgdaaDoor
