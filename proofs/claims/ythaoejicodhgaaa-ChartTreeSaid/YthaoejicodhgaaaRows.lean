/-
  No cell of these rows narrows 'for every input' (looked for: loops, veiled, ifaces, maps, wideKeys, modest, calm, conditions, laid).
  DERIVED. THE GIVEN ROWS OF THIS SEAT. 8 by the template 'for every input the law returns true; each argument reads behind the call as it read before'; 0 by the template 'total and deterministic' (their statements: YthaoejicodhgaaaTotals.lean).
  GIVEN WITH THE SEED: the statements are not yours to turn. If you find one false, say at which input.
  Laid BY PROGRAM, IN A SANDBOX (cutbox-rows.mjs): the forced cells as the released guide's own fill.sh prints them over the translation 72f05b5657439778… (all of the seat's roots in one cut). By AI agents, Wed Nov 11 2026. No macro, syntax, notation, axiom, sorry.
-/
import Derived.Test.YthaoejicodhgaaaChecked
import GoSem.Claim
import GoSem.ClaimJoined
import GoSem.ClaimMapViews
import Derived.JoinedTies
import Derived.KernelRfl
namespace Go.Proofs.Ythaoejicodhgaaa
/- THE CELL 'sum', in the pinned program and in every row, IS THE sha256 OF THE DUMP (.gsa) THAT YthaoejicodhgaaaProg.lean LOADS. Nothing in Lean hashes anything: it is a label: what it is worth is what the hold of that sum in a sandbox is worth. -/
noncomputable def Try.pinned : Pinned := { name := "ythaoejicodhgaaa", sum := "72f05b5657439778ff8ae7324c5db82282776c9015293efe51858886a1aa2ce5", checked := Try.checked }
namespace Rows
def none {H : Type} : Left H := { results := [], args := [] }

/-- 'quittancelaw19.ChartTells': WHATEVER THE INPUT: true; the input reads as it did. -/
def chartTellsSpec : ChangeSpec := { name := "chartTells", fn := fun _ => fun
  | [d1, d2] => { results := [.lit (.bool true)], args := [d1, d2] }
  | _ => none }
def chartTellsRow : OpenClaim := { program := "ythaoejicodhgaaa", sum := "72f05b5657439778ff8ae7324c5db82282776c9015293efe51858886a1aa2ce5", func := "quittance/quittancelaw19.ChartTells", spec := "chartTells", unfollowed := true, recurses := true, plainKeys := false, apart := false }
def ChartTellsSaid : Prop := chartTellsRow.holds Try.pinned (OpenSpec.ofChange chartTellsSpec)

/-- ITS FALSE NEIGHBOUR: 'it returns false'. Refute it at one input. -/
def chartTellsWrong : ChangeSpec := { name := "chartTells", fn := fun _ => fun
  | [d1, d2] => { results := [.lit (.bool false)], args := [d1, d2] }
  | _ => none }
def ChartTellsWrongFalsely : Prop := chartTellsRow.holds Try.pinned (OpenSpec.ofChange chartTellsWrong)

/-- 'quittancelaw19.ChartTree': WHATEVER THE INPUT: true; the input reads as it did. -/
def chartTreeSpec : ChangeSpec := { name := "chartTree", fn := fun _ => fun
  | [d] => { results := [.lit (.bool true)], args := [d] }
  | _ => none }
def chartTreeRow : OpenClaim := { program := "ythaoejicodhgaaa", sum := "72f05b5657439778ff8ae7324c5db82282776c9015293efe51858886a1aa2ce5", func := "quittance/quittancelaw19.ChartTree", spec := "chartTree", unfollowed := true, recurses := true, plainKeys := false, apart := false }
def ChartTreeSaid : Prop := chartTreeRow.holds Try.pinned (OpenSpec.ofChange chartTreeSpec)

/-- ITS FALSE NEIGHBOUR: 'it returns false'. Refute it at one input. -/
def chartTreeWrong : ChangeSpec := { name := "chartTree", fn := fun _ => fun
  | [d] => { results := [.lit (.bool false)], args := [d] }
  | _ => none }
def ChartTreeWrongFalsely : Prop := chartTreeRow.holds Try.pinned (OpenSpec.ofChange chartTreeWrong)

/-- 'quittancelaw19.ChartStandard': WHATEVER THE INPUT: true; the input reads as it did. -/
def chartStandardSpec : ChangeSpec := { name := "chartStandard", fn := fun _ => fun
  | [d] => { results := [.lit (.bool true)], args := [d] }
  | _ => none }
def chartStandardRow : OpenClaim := { program := "ythaoejicodhgaaa", sum := "72f05b5657439778ff8ae7324c5db82282776c9015293efe51858886a1aa2ce5", func := "quittance/quittancelaw19.ChartStandard", spec := "chartStandard", unfollowed := true, recurses := true, plainKeys := false, apart := false }
def ChartStandardSaid : Prop := chartStandardRow.holds Try.pinned (OpenSpec.ofChange chartStandardSpec)

/-- ITS FALSE NEIGHBOUR: 'it returns false'. Refute it at one input. -/
def chartStandardWrong : ChangeSpec := { name := "chartStandard", fn := fun _ => fun
  | [d] => { results := [.lit (.bool false)], args := [d] }
  | _ => none }
def ChartStandardWrongFalsely : Prop := chartStandardRow.holds Try.pinned (OpenSpec.ofChange chartStandardWrong)

/-- 'quittancelaw25.NotesTell': WHATEVER THE INPUT: true; the input reads as it did. -/
def notesTellSpec : ChangeSpec := { name := "notesTell", fn := fun _ => fun
  | [d] => { results := [.lit (.bool true)], args := [d] }
  | _ => none }
def notesTellRow : OpenClaim := { program := "ythaoejicodhgaaa", sum := "72f05b5657439778ff8ae7324c5db82282776c9015293efe51858886a1aa2ce5", func := "quittance/quittancelaw25.NotesTell", spec := "notesTell", inPlace := ["math/bits.Add64"], unfollowed := true, recurses := true, plainKeys := false, apart := false }
def NotesTellSaid : Prop := notesTellRow.holds Try.pinned (OpenSpec.ofChange notesTellSpec)

/-- ITS FALSE NEIGHBOUR: 'it returns false'. Refute it at one input. -/
def notesTellWrong : ChangeSpec := { name := "notesTell", fn := fun _ => fun
  | [d] => { results := [.lit (.bool false)], args := [d] }
  | _ => none }
def NotesTellWrongFalsely : Prop := notesTellRow.holds Try.pinned (OpenSpec.ofChange notesTellWrong)

/-- 'quittancelaw25.NotesSpread': WHATEVER THE INPUT: true; the input reads as it did. -/
def notesSpreadSpec : ChangeSpec := { name := "notesSpread", fn := fun _ => fun
  | [d1, d2] => { results := [.lit (.bool true)], args := [d1, d2] }
  | _ => none }
def notesSpreadRow : OpenClaim := { program := "ythaoejicodhgaaa", sum := "72f05b5657439778ff8ae7324c5db82282776c9015293efe51858886a1aa2ce5", func := "quittance/quittancelaw25.NotesSpread", spec := "notesSpread", inPlace := ["math/bits.Add64"], unfollowed := true, recurses := true, plainKeys := false, apart := false }
def NotesSpreadSaid : Prop := notesSpreadRow.holds Try.pinned (OpenSpec.ofChange notesSpreadSpec)

/-- ITS FALSE NEIGHBOUR: 'it returns false'. Refute it at one input. -/
def notesSpreadWrong : ChangeSpec := { name := "notesSpread", fn := fun _ => fun
  | [d1, d2] => { results := [.lit (.bool false)], args := [d1, d2] }
  | _ => none }
def NotesSpreadWrongFalsely : Prop := notesSpreadRow.holds Try.pinned (OpenSpec.ofChange notesSpreadWrong)

/-- 'quittancelaw25.NotesWhole': WHATEVER THE INPUT: true; the input reads as it did. -/
def notesWholeSpec : ChangeSpec := { name := "notesWhole", fn := fun _ => fun
  | [d1, d2] => { results := [.lit (.bool true)], args := [d1, d2] }
  | _ => none }
def notesWholeRow : OpenClaim := { program := "ythaoejicodhgaaa", sum := "72f05b5657439778ff8ae7324c5db82282776c9015293efe51858886a1aa2ce5", func := "quittance/quittancelaw25.NotesWhole", spec := "notesWhole", inPlace := ["math/bits.Add64"], unfollowed := true, recurses := true, plainKeys := false, apart := false }
def NotesWholeSaid : Prop := notesWholeRow.holds Try.pinned (OpenSpec.ofChange notesWholeSpec)

/-- ITS FALSE NEIGHBOUR: 'it returns false'. Refute it at one input. -/
def notesWholeWrong : ChangeSpec := { name := "notesWhole", fn := fun _ => fun
  | [d1, d2] => { results := [.lit (.bool false)], args := [d1, d2] }
  | _ => none }
def NotesWholeWrongFalsely : Prop := notesWholeRow.holds Try.pinned (OpenSpec.ofChange notesWholeWrong)

/-- 'quittancelaw25.NotesBalance': WHATEVER THE INPUT: true; the input reads as it did. -/
def notesBalanceSpec : ChangeSpec := { name := "notesBalance", fn := fun _ => fun
  | [d] => { results := [.lit (.bool true)], args := [d] }
  | _ => none }
def notesBalanceRow : OpenClaim := { program := "ythaoejicodhgaaa", sum := "72f05b5657439778ff8ae7324c5db82282776c9015293efe51858886a1aa2ce5", func := "quittance/quittancelaw25.NotesBalance", spec := "notesBalance", inPlace := ["math/bits.Add64"], unfollowed := true, recurses := true, plainKeys := false, apart := false }
def NotesBalanceSaid : Prop := notesBalanceRow.holds Try.pinned (OpenSpec.ofChange notesBalanceSpec)

/-- ITS FALSE NEIGHBOUR: 'it returns false'. Refute it at one input. -/
def notesBalanceWrong : ChangeSpec := { name := "notesBalance", fn := fun _ => fun
  | [d] => { results := [.lit (.bool false)], args := [d] }
  | _ => none }
def NotesBalanceWrongFalsely : Prop := notesBalanceRow.holds Try.pinned (OpenSpec.ofChange notesBalanceWrong)

/-- 'quittancelaw32.AuditTells': WHATEVER THE INPUT: true; the input reads as it did. -/
def auditTellsSpec : ChangeSpec := { name := "auditTells", fn := fun _ => fun
  | [d1, d2, d3] => { results := [.lit (.bool true)], args := [d1, d2, d3] }
  | _ => none }
def auditTellsRow : OpenClaim := { program := "ythaoejicodhgaaa", sum := "72f05b5657439778ff8ae7324c5db82282776c9015293efe51858886a1aa2ce5", func := "quittance/quittancelaw32.AuditTells", spec := "auditTells", inPlace := ["math/bits.Add64"], unfollowed := true, recurses := true, plainKeys := false, apart := false }
def AuditTellsSaid : Prop := auditTellsRow.holds Try.pinned (OpenSpec.ofChange auditTellsSpec)

/-- ITS FALSE NEIGHBOUR: 'it returns false'. Refute it at one input. -/
def auditTellsWrong : ChangeSpec := { name := "auditTells", fn := fun _ => fun
  | [d1, d2, d3] => { results := [.lit (.bool false)], args := [d1, d2, d3] }
  | _ => none }
def AuditTellsWrongFalsely : Prop := auditTellsRow.holds Try.pinned (OpenSpec.ofChange auditTellsWrong)

/- THE SECOND FORM. 'bulk': how many values and letters a reading holds, each counted each time it is reached (what is shared counts as often as it is met; a slice's spare places count too). A statement '..UptoSaid' is the law's where the arguments, and the package variables that the reading takes, are together of bulk at most 1048576: NARROWER than '..Said'. Prove '..Said' where nothing that the law and all that it calls make is longer than what came in: it says more and counts as full. Else prove '..UptoSaid'. A law counts once. -/
mutual
def uptoBulk {H : Type} : DataW H → Nat
  | .lit (.string bytes) => bytes.length + 1
  | .lit _ => 1
  | .nil => 1
  | .ptr d => uptoBulk d + 1
  | .slice elems spare => uptoBulkAll elems + uptoBulkAll spare + 1
  | .agg parts => uptoBulkAll parts + 1
  | .iface _ d => uptoBulk d + 1
  | .map entries => uptoBulkEntries entries + 1
  | .held _ => 1
def uptoBulkAll {H : Type} : List (DataW H) → Nat
  | [] => 0
  | d :: r => uptoBulk d + uptoBulkAll r
def uptoBulkEntries {H : Type} : List (Lit × DataW H) → Nat
  | [] => 0
  | x :: r => uptoBulkEntry x + uptoBulkEntries r
def uptoBulkEntry {H : Type} : Lit × DataW H → Nat
  | (.string bytes, d) => bytes.length + uptoBulk d + 1
  | (_, d) => uptoBulk d + 1
 end
def uptoSmall : (H : Type) → List (DataW H) → Bool := fun _ ds => decide (uptoBulkAll ds ≤ 1048576)
def OpenSpec.upto (s : _root_.Go.ChangeSpec) : _root_.Go.OpenSpec := { _root_.Go.OpenSpec.ofChange s with cond := some uptoSmall }

/-- 'quittancelaw19.ChartTells', WHERE WHAT IT READS IS OF BULK AT MOST 1048576: true; the input reads as it did. -/
def chartTellsUptoRow : OpenClaim := { program := "ythaoejicodhgaaa", sum := "72f05b5657439778ff8ae7324c5db82282776c9015293efe51858886a1aa2ce5", func := "quittance/quittancelaw19.ChartTells", spec := "chartTells", unfollowed := true, recurses := true, plainKeys := false, apart := false, narrowed := true }
def ChartTellsUptoSaid : Prop := chartTellsUptoRow.holds Try.pinned (OpenSpec.upto chartTellsSpec)

/-- 'quittancelaw19.ChartTree', WHERE WHAT IT READS IS OF BULK AT MOST 1048576: true; the input reads as it did. -/
def chartTreeUptoRow : OpenClaim := { program := "ythaoejicodhgaaa", sum := "72f05b5657439778ff8ae7324c5db82282776c9015293efe51858886a1aa2ce5", func := "quittance/quittancelaw19.ChartTree", spec := "chartTree", unfollowed := true, recurses := true, plainKeys := false, apart := false, narrowed := true }
def ChartTreeUptoSaid : Prop := chartTreeUptoRow.holds Try.pinned (OpenSpec.upto chartTreeSpec)

/-- 'quittancelaw19.ChartStandard', WHERE WHAT IT READS IS OF BULK AT MOST 1048576: true; the input reads as it did. -/
def chartStandardUptoRow : OpenClaim := { program := "ythaoejicodhgaaa", sum := "72f05b5657439778ff8ae7324c5db82282776c9015293efe51858886a1aa2ce5", func := "quittance/quittancelaw19.ChartStandard", spec := "chartStandard", unfollowed := true, recurses := true, plainKeys := false, apart := false, narrowed := true }
def ChartStandardUptoSaid : Prop := chartStandardUptoRow.holds Try.pinned (OpenSpec.upto chartStandardSpec)

/-- 'quittancelaw25.NotesTell', WHERE WHAT IT READS IS OF BULK AT MOST 1048576: true; the input reads as it did. -/
def notesTellUptoRow : OpenClaim := { program := "ythaoejicodhgaaa", sum := "72f05b5657439778ff8ae7324c5db82282776c9015293efe51858886a1aa2ce5", func := "quittance/quittancelaw25.NotesTell", spec := "notesTell", inPlace := ["math/bits.Add64"], unfollowed := true, recurses := true, plainKeys := false, apart := false, narrowed := true }
def NotesTellUptoSaid : Prop := notesTellUptoRow.holds Try.pinned (OpenSpec.upto notesTellSpec)

/-- 'quittancelaw25.NotesSpread', WHERE WHAT IT READS IS OF BULK AT MOST 1048576: true; the input reads as it did. -/
def notesSpreadUptoRow : OpenClaim := { program := "ythaoejicodhgaaa", sum := "72f05b5657439778ff8ae7324c5db82282776c9015293efe51858886a1aa2ce5", func := "quittance/quittancelaw25.NotesSpread", spec := "notesSpread", inPlace := ["math/bits.Add64"], unfollowed := true, recurses := true, plainKeys := false, apart := false, narrowed := true }
def NotesSpreadUptoSaid : Prop := notesSpreadUptoRow.holds Try.pinned (OpenSpec.upto notesSpreadSpec)

/-- 'quittancelaw25.NotesWhole', WHERE WHAT IT READS IS OF BULK AT MOST 1048576: true; the input reads as it did. -/
def notesWholeUptoRow : OpenClaim := { program := "ythaoejicodhgaaa", sum := "72f05b5657439778ff8ae7324c5db82282776c9015293efe51858886a1aa2ce5", func := "quittance/quittancelaw25.NotesWhole", spec := "notesWhole", inPlace := ["math/bits.Add64"], unfollowed := true, recurses := true, plainKeys := false, apart := false, narrowed := true }
def NotesWholeUptoSaid : Prop := notesWholeUptoRow.holds Try.pinned (OpenSpec.upto notesWholeSpec)

/-- 'quittancelaw25.NotesBalance', WHERE WHAT IT READS IS OF BULK AT MOST 1048576: true; the input reads as it did. -/
def notesBalanceUptoRow : OpenClaim := { program := "ythaoejicodhgaaa", sum := "72f05b5657439778ff8ae7324c5db82282776c9015293efe51858886a1aa2ce5", func := "quittance/quittancelaw25.NotesBalance", spec := "notesBalance", inPlace := ["math/bits.Add64"], unfollowed := true, recurses := true, plainKeys := false, apart := false, narrowed := true }
def NotesBalanceUptoSaid : Prop := notesBalanceUptoRow.holds Try.pinned (OpenSpec.upto notesBalanceSpec)

/-- 'quittancelaw32.AuditTells', WHERE WHAT IT READS IS OF BULK AT MOST 1048576: true; the input reads as it did. -/
def auditTellsUptoRow : OpenClaim := { program := "ythaoejicodhgaaa", sum := "72f05b5657439778ff8ae7324c5db82282776c9015293efe51858886a1aa2ce5", func := "quittance/quittancelaw32.AuditTells", spec := "auditTells", inPlace := ["math/bits.Add64"], unfollowed := true, recurses := true, plainKeys := false, apart := false, narrowed := true }
def AuditTellsUptoSaid : Prop := auditTellsUptoRow.holds Try.pinned (OpenSpec.upto auditTellsSpec)

end Rows
end Go.Proofs.Ythaoejicodhgaaa
