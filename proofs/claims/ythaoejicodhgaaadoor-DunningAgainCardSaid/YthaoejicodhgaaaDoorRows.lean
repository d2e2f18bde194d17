/-
  NARROWER THAN 'FOR EVERY INPUT', by the rows' own cells (each row's printed sentence says how): DunningRuns: laid · DunningAgain: laid · RevrecRuns: laid · RevrecOnce: laid.
  DERIVED. THE GIVEN ROWS OF THIS SEAT. 4 by the template 'for every input the law returns true; each argument reads behind the call as it read before'; 0 by the template 'total and deterministic' (their statements: YthaoejicodhgaaaDoorTotals.lean).
  GIVEN WITH THE SEED: the statements are not yours to turn. If you find one false, say at which input.
  Laid BY PROGRAM, IN A SANDBOX (cutbox-rows.mjs): the forced cells as the released guide's own fill.sh prints them over the translation ee0fab62222e024d… (all of the seat's roots in one cut). By AI agents, Wed Nov 11 2026. No macro, syntax, notation, axiom, sorry.
-/
import Derived.Test.YthaoejicodhgaaaDoorChecked
import GoSem.Claim
import GoSem.ClaimJoined
import GoSem.ClaimMapViews
import Derived.JoinedTies
import Derived.KernelRfl
namespace Go.Proofs.YthaoejicodhgaaaDoor
/- THE CELL 'sum', in the pinned program and in every row, IS THE sha256 OF THE DUMP (.gsa) THAT YthaoejicodhgaaaDoorProg.lean LOADS. Nothing in Lean hashes anything: it is a label: what it is worth is what the hold of that sum in a sandbox is worth. -/
noncomputable def Tryd.pinned : Pinned := { name := "ythaoejicodhgaaadoor", sum := "ee0fab62222e024db3cab6b98be774bc7c6e092a46a5ac73b234193c5c2bb12c", checked := Tryd.checked }
namespace Rows
def none {H : Type} : Left H := { results := [], args := [] }

/- WHAT THE LISTED PACKAGE-LEVEL VARIABLES READ AS WHEN THE CALL BEGINS. Each datum BY PROGRAM (the guide's laid-datum.mjs) off the statement by which the dump's own 'gosem.cut.vars' lays the variable. In a bare row this is a premise. The card (YthaoejicodhgaaaDoorCards.lean) ties it to the program's text. -/
def laid_quittance_invoices_bounds {H : Type} : DataW H := .agg [.lit (.int .i64 0), .lit (.int .i64 30), .lit (.int .i64 60), .lit (.int .i64 90)]
def laid_quittance_civil_ahead {H : Type} : DataW H := .agg [.lit (.int .i64 0), .lit (.int .i64 31), .lit (.int .i64 59), .lit (.int .i64 90), .lit (.int .i64 120), .lit (.int .i64 151), .lit (.int .i64 181), .lit (.int .i64 212), .lit (.int .i64 243), .lit (.int .i64 273), .lit (.int .i64 304), .lit (.int .i64 334), .lit (.int .i64 365)]

/-- 'quittancelaw27.DunningRuns': WHATEVER THE INPUT: true; the input reads as it did. -/
def dunningRunsSpec : ChangeSpec := { name := "dunningRuns", fn := fun _ => fun
  | [d] => { results := [.lit (.bool true)], args := [d] }
  | _ => none }
def dunningRunsRow : OpenClaim := { program := "ythaoejicodhgaaadoor", sum := "ee0fab62222e024db3cab6b98be774bc7c6e092a46a5ac73b234193c5c2bb12c", func := "quittance/quittancelaw27.DunningRuns", spec := "dunningRuns", inPlace := ["math/bits.Add64"], unfollowed := true, recurses := true, named := ["quittance/invoices.bounds"], plainKeys := false, apart := false, laid := [("quittance/invoices.bounds", laid_quittance_invoices_bounds)] }
def DunningRunsSaid : Prop := dunningRunsRow.holds Tryd.pinned (OpenSpec.ofChange dunningRunsSpec)

/-- ITS FALSE NEIGHBOUR: 'it returns false'. Refute it at one input. -/
def dunningRunsWrong : ChangeSpec := { name := "dunningRuns", fn := fun _ => fun
  | [d] => { results := [.lit (.bool false)], args := [d] }
  | _ => none }
def DunningRunsWrongFalsely : Prop := dunningRunsRow.holds Tryd.pinned (OpenSpec.ofChange dunningRunsWrong)

/-- 'quittancelaw27.DunningAgain': WHATEVER THE INPUT: true; the input reads as it did. -/
def dunningAgainSpec : ChangeSpec := { name := "dunningAgain", fn := fun _ => fun
  | [d1, d2] => { results := [.lit (.bool true)], args := [d1, d2] }
  | _ => none }
def dunningAgainRow : OpenClaim := { program := "ythaoejicodhgaaadoor", sum := "ee0fab62222e024db3cab6b98be774bc7c6e092a46a5ac73b234193c5c2bb12c", func := "quittance/quittancelaw27.DunningAgain", spec := "dunningAgain", inPlace := ["math/bits.Add64"], unfollowed := true, recurses := true, named := ["quittance/invoices.bounds"], plainKeys := false, apart := false, laid := [("quittance/invoices.bounds", laid_quittance_invoices_bounds)] }
def DunningAgainSaid : Prop := dunningAgainRow.holds Tryd.pinned (OpenSpec.ofChange dunningAgainSpec)

/-- ITS FALSE NEIGHBOUR: 'it returns false'. Refute it at one input. -/
def dunningAgainWrong : ChangeSpec := { name := "dunningAgain", fn := fun _ => fun
  | [d1, d2] => { results := [.lit (.bool false)], args := [d1, d2] }
  | _ => none }
def DunningAgainWrongFalsely : Prop := dunningAgainRow.holds Tryd.pinned (OpenSpec.ofChange dunningAgainWrong)

/-- 'quittancelaw29.RevrecRuns': WHATEVER THE INPUT: true; the input reads as it did. -/
def revrecRunsSpec : ChangeSpec := { name := "revrecRuns", fn := fun _ => fun
  | [d1, d2, d3] => { results := [.lit (.bool true)], args := [d1, d2, d3] }
  | _ => none }
def revrecRunsRow : OpenClaim := { program := "ythaoejicodhgaaadoor", sum := "ee0fab62222e024db3cab6b98be774bc7c6e092a46a5ac73b234193c5c2bb12c", func := "quittance/quittancelaw29.RevrecRuns", spec := "revrecRuns", inPlace := ["math/bits.Add64"], unfollowed := true, recurses := true, named := ["quittance/civil.ahead"], plainKeys := false, apart := false, laid := [("quittance/civil.ahead", laid_quittance_civil_ahead)] }
def RevrecRunsSaid : Prop := revrecRunsRow.holds Tryd.pinned (OpenSpec.ofChange revrecRunsSpec)

/-- ITS FALSE NEIGHBOUR: 'it returns false'. Refute it at one input. -/
def revrecRunsWrong : ChangeSpec := { name := "revrecRuns", fn := fun _ => fun
  | [d1, d2, d3] => { results := [.lit (.bool false)], args := [d1, d2, d3] }
  | _ => none }
def RevrecRunsWrongFalsely : Prop := revrecRunsRow.holds Tryd.pinned (OpenSpec.ofChange revrecRunsWrong)

/-- 'quittancelaw29.RevrecOnce': WHATEVER THE INPUT: true; the input reads as it did. -/
def revrecOnceSpec : ChangeSpec := { name := "revrecOnce", fn := fun _ => fun
  | [d1, d2, d3] => { results := [.lit (.bool true)], args := [d1, d2, d3] }
  | _ => none }
def revrecOnceRow : OpenClaim := { program := "ythaoejicodhgaaadoor", sum := "ee0fab62222e024db3cab6b98be774bc7c6e092a46a5ac73b234193c5c2bb12c", func := "quittance/quittancelaw29.RevrecOnce", spec := "revrecOnce", inPlace := ["math/bits.Add64"], unfollowed := true, recurses := true, named := ["quittance/civil.ahead"], plainKeys := false, apart := false, laid := [("quittance/civil.ahead", laid_quittance_civil_ahead)] }
def RevrecOnceSaid : Prop := revrecOnceRow.holds Tryd.pinned (OpenSpec.ofChange revrecOnceSpec)

/-- ITS FALSE NEIGHBOUR: 'it returns false'. Refute it at one input. -/
def revrecOnceWrong : ChangeSpec := { name := "revrecOnce", fn := fun _ => fun
  | [d1, d2, d3] => { results := [.lit (.bool false)], args := [d1, d2, d3] }
  | _ => none }
def RevrecOnceWrongFalsely : Prop := revrecOnceRow.holds Tryd.pinned (OpenSpec.ofChange revrecOnceWrong)

/- THE SECOND FORM. 'bulk': how many values and letters a reading holds, each counted each time it is reached (what is shared counts as often as it is met; a slice's spare places count too). A statement '..UptoSaid' is the law's where the arguments, and the package variables that the reading takes, are together of bulk at most 1048576: NARROWER than '..Said'. Prove '..Said' where nothing that the law and all that it calls make is longer than what came in: it says more and counts as full. Else prove '..UptoSaid'. A law counts once. -/
mutual
def uptoBulk {H : Type} : DataW H → Nat
  | .lit (.string bytes) => bytes.length + 1
  | .lit _ => 1
  | .nil => 1
  | .ptr d => uptoBulk d + 1
  | .slice elems spare => uptoBulkAll elems + uptoBulkAll spare + 1
  | .agg parts => uptoBulkAll parts + 1
  | .iface _ d => uptoBulk d + 1
  | .map entries => uptoBulkEntries entries + 1
  | .held _ => 1
def uptoBulkAll {H : Type} : List (DataW H) → Nat
  | [] => 0
  | d :: r => uptoBulk d + uptoBulkAll r
def uptoBulkEntries {H : Type} : List (Lit × DataW H) → Nat
  | [] => 0
  | x :: r => uptoBulkEntry x + uptoBulkEntries r
def uptoBulkEntry {H : Type} : Lit × DataW H → Nat
  | (.string bytes, d) => bytes.length + uptoBulk d + 1
  | (_, d) => uptoBulk d + 1
 end
def uptoSmall : (H : Type) → List (DataW H) → Bool := fun _ ds => decide (uptoBulkAll ds ≤ 1048576)
def OpenSpec.upto (s : _root_.Go.ChangeSpec) : _root_.Go.OpenSpec := { _root_.Go.OpenSpec.ofChange s with cond := some uptoSmall }

/-- 'quittancelaw27.DunningRuns', WHERE WHAT IT READS IS OF BULK AT MOST 1048576: true; the input reads as it did. -/
def dunningRunsUptoRow : OpenClaim := { program := "ythaoejicodhgaaadoor", sum := "ee0fab62222e024db3cab6b98be774bc7c6e092a46a5ac73b234193c5c2bb12c", func := "quittance/quittancelaw27.DunningRuns", spec := "dunningRuns", inPlace := ["math/bits.Add64"], unfollowed := true, recurses := true, named := ["quittance/invoices.bounds"], plainKeys := false, apart := false, laid := [("quittance/invoices.bounds", laid_quittance_invoices_bounds)], narrowed := true }
def DunningRunsUptoSaid : Prop := dunningRunsUptoRow.holds Tryd.pinned (OpenSpec.upto dunningRunsSpec)

/-- 'quittancelaw27.DunningAgain', WHERE WHAT IT READS IS OF BULK AT MOST 1048576: true; the input reads as it did. -/
def dunningAgainUptoRow : OpenClaim := { program := "ythaoejicodhgaaadoor", sum := "ee0fab62222e024db3cab6b98be774bc7c6e092a46a5ac73b234193c5c2bb12c", func := "quittance/quittancelaw27.DunningAgain", spec := "dunningAgain", inPlace := ["math/bits.Add64"], unfollowed := true, recurses := true, named := ["quittance/invoices.bounds"], plainKeys := false, apart := false, laid := [("quittance/invoices.bounds", laid_quittance_invoices_bounds)], narrowed := true }
def DunningAgainUptoSaid : Prop := dunningAgainUptoRow.holds Tryd.pinned (OpenSpec.upto dunningAgainSpec)

/-- 'quittancelaw29.RevrecRuns', WHERE WHAT IT READS IS OF BULK AT MOST 1048576: true; the input reads as it did. -/
def revrecRunsUptoRow : OpenClaim := { program := "ythaoejicodhgaaadoor", sum := "ee0fab62222e024db3cab6b98be774bc7c6e092a46a5ac73b234193c5c2bb12c", func := "quittance/quittancelaw29.RevrecRuns", spec := "revrecRuns", inPlace := ["math/bits.Add64"], unfollowed := true, recurses := true, named := ["quittance/civil.ahead"], plainKeys := false, apart := false, laid := [("quittance/civil.ahead", laid_quittance_civil_ahead)], narrowed := true }
def RevrecRunsUptoSaid : Prop := revrecRunsUptoRow.holds Tryd.pinned (OpenSpec.upto revrecRunsSpec)

/-- 'quittancelaw29.RevrecOnce', WHERE WHAT IT READS IS OF BULK AT MOST 1048576: true; the input reads as it did. -/
def revrecOnceUptoRow : OpenClaim := { program := "ythaoejicodhgaaadoor", sum := "ee0fab62222e024db3cab6b98be774bc7c6e092a46a5ac73b234193c5c2bb12c", func := "quittance/quittancelaw29.RevrecOnce", spec := "revrecOnce", inPlace := ["math/bits.Add64"], unfollowed := true, recurses := true, named := ["quittance/civil.ahead"], plainKeys := false, apart := false, laid := [("quittance/civil.ahead", laid_quittance_civil_ahead)], narrowed := true }
def RevrecOnceUptoSaid : Prop := revrecOnceUptoRow.holds Tryd.pinned (OpenSpec.upto revrecOnceSpec)

end Rows
end Go.Proofs.YthaoejicodhgaaaDoor
