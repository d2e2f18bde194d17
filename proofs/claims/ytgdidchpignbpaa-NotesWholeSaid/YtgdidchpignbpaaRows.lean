/-
  No cell of these rows narrows 'for every input' (looked for: loops, veiled, ifaces, maps, wideKeys, modest, calm, conditions, laid).
  DERIVED. THE GIVEN ROWS OF THIS SEAT. 12 by the template 'for every input the law returns true; each argument reads behind the call as it read before'; 0 by the template 'total and deterministic' (their statements: YtgdidchpignbpaaTotals.lean).
  GIVEN WITH THE SEED: the statements are not yours to turn. If you find one false, say at which input.
  Laid BY PROGRAM, IN A SANDBOX (cutbox-rows.mjs): the forced cells as the released guide's own fill.sh prints them over the translation 1db9de5872417140… (all of the seat's roots in one cut). By AI agents, Wed Nov 11 2026. No macro, syntax, notation, axiom, sorry.
-/
import Derived.Test.YtgdidchpignbpaaChecked
import GoSem.Claim
import GoSem.ClaimJoined
import GoSem.ClaimMapViews
import Derived.JoinedTies
import Derived.KernelRfl
namespace Go.Proofs.Ytgdidchpignbpaa
/- THE CELL 'sum', in the pinned program and in every row, IS THE sha256 OF THE DUMP (.gsa) THAT YtgdidchpignbpaaProg.lean LOADS. Nothing in Lean hashes anything: it is a label: what it is worth is what the hold of that sum in a sandbox is worth. -/
noncomputable def Try.pinned : Pinned := { name := "ytgdidchpignbpaa", sum := "1db9de5872417140a89c708704ae52f970ae2f93bb5e33d2d71fbc11ab270720", checked := Try.checked }
namespace Rows
def none {H : Type} : Left H := { results := [], args := [] }

/-- 'quittancelaw25.NotesTell': WHATEVER THE INPUT: true; the input reads as it did. -/
def notesTellSpec : ChangeSpec := { name := "notesTell", fn := fun _ => fun
  | [d] => { results := [.lit (.bool true)], args := [d] }
  | _ => none }
def notesTellRow : OpenClaim := { program := "ytgdidchpignbpaa", sum := "1db9de5872417140a89c708704ae52f970ae2f93bb5e33d2d71fbc11ab270720", func := "quittance/quittancelaw25.NotesTell", spec := "notesTell", inPlace := ["math/bits.Add64"], unfollowed := true, recurses := true, plainKeys := false, apart := false }
def NotesTellSaid : Prop := notesTellRow.holds Try.pinned (OpenSpec.ofChange notesTellSpec)

/-- ITS FALSE NEIGHBOUR: 'it returns false'. Refute it at one input. -/
def notesTellWrong : ChangeSpec := { name := "notesTell", fn := fun _ => fun
  | [d] => { results := [.lit (.bool false)], args := [d] }
  | _ => none }
def NotesTellWrongFalsely : Prop := notesTellRow.holds Try.pinned (OpenSpec.ofChange notesTellWrong)

/-- 'quittancelaw25.NotesSpread': WHATEVER THE INPUT: true; the input reads as it did. -/
def notesSpreadSpec : ChangeSpec := { name := "notesSpread", fn := fun _ => fun
  | [d1, d2] => { results := [.lit (.bool true)], args := [d1, d2] }
  | _ => none }
def notesSpreadRow : OpenClaim := { program := "ytgdidchpignbpaa", sum := "1db9de5872417140a89c708704ae52f970ae2f93bb5e33d2d71fbc11ab270720", func := "quittance/quittancelaw25.NotesSpread", spec := "notesSpread", inPlace := ["math/bits.Add64"], unfollowed := true, recurses := true, plainKeys := false, apart := false }
def NotesSpreadSaid : Prop := notesSpreadRow.holds Try.pinned (OpenSpec.ofChange notesSpreadSpec)

/-- ITS FALSE NEIGHBOUR: 'it returns false'. Refute it at one input. -/
def notesSpreadWrong : ChangeSpec := { name := "notesSpread", fn := fun _ => fun
  | [d1, d2] => { results := [.lit (.bool false)], args := [d1, d2] }
  | _ => none }
def NotesSpreadWrongFalsely : Prop := notesSpreadRow.holds Try.pinned (OpenSpec.ofChange notesSpreadWrong)

/-- 'quittancelaw25.NotesWhole': WHATEVER THE INPUT: true; the input reads as it did. -/
def notesWholeSpec : ChangeSpec := { name := "notesWhole", fn := fun _ => fun
  | [d1, d2] => { results := [.lit (.bool true)], args := [d1, d2] }
  | _ => none }
def notesWholeRow : OpenClaim := { program := "ytgdidchpignbpaa", sum := "1db9de5872417140a89c708704ae52f970ae2f93bb5e33d2d71fbc11ab270720", func := "quittance/quittancelaw25.NotesWhole", spec := "notesWhole", inPlace := ["math/bits.Add64"], unfollowed := true, recurses := true, plainKeys := false, apart := false }
def NotesWholeSaid : Prop := notesWholeRow.holds Try.pinned (OpenSpec.ofChange notesWholeSpec)

/-- ITS FALSE NEIGHBOUR: 'it returns false'. Refute it at one input. -/
def notesWholeWrong : ChangeSpec := { name := "notesWhole", fn := fun _ => fun
  | [d1, d2] => { results := [.lit (.bool false)], args := [d1, d2] }
  | _ => none }
def NotesWholeWrongFalsely : Prop := notesWholeRow.holds Try.pinned (OpenSpec.ofChange notesWholeWrong)

/-- 'quittancelaw25.NotesBalance': WHATEVER THE INPUT: true; the input reads as it did. -/
def notesBalanceSpec : ChangeSpec := { name := "notesBalance", fn := fun _ => fun
  | [d] => { results := [.lit (.bool true)], args := [d] }
  | _ => none }
def notesBalanceRow : OpenClaim := { program := "ytgdidchpignbpaa", sum := "1db9de5872417140a89c708704ae52f970ae2f93bb5e33d2d71fbc11ab270720", func := "quittance/quittancelaw25.NotesBalance", spec := "notesBalance", inPlace := ["math/bits.Add64"], unfollowed := true, recurses := true, plainKeys := false, apart := false }
def NotesBalanceSaid : Prop := notesBalanceRow.holds Try.pinned (OpenSpec.ofChange notesBalanceSpec)

/-- ITS FALSE NEIGHBOUR: 'it returns false'. Refute it at one input. -/
def notesBalanceWrong : ChangeSpec := { name := "notesBalance", fn := fun _ => fun
  | [d] => { results := [.lit (.bool false)], args := [d] }
  | _ => none }
def NotesBalanceWrongFalsely : Prop := notesBalanceRow.holds Try.pinned (OpenSpec.ofChange notesBalanceWrong)

/-- 'quittancelaw32.AuditTells': WHATEVER THE INPUT: true; the input reads as it did. -/
def auditTellsSpec : ChangeSpec := { name := "auditTells", fn := fun _ => fun
  | [d1, d2, d3] => { results := [.lit (.bool true)], args := [d1, d2, d3] }
  | _ => none }
def auditTellsRow : OpenClaim := { program := "ytgdidchpignbpaa", sum := "1db9de5872417140a89c708704ae52f970ae2f93bb5e33d2d71fbc11ab270720", func := "quittance/quittancelaw32.AuditTells", spec := "auditTells", inPlace := ["math/bits.Add64"], unfollowed := true, recurses := true, plainKeys := false, apart := false }
def AuditTellsSaid : Prop := auditTellsRow.holds Try.pinned (OpenSpec.ofChange auditTellsSpec)

/-- ITS FALSE NEIGHBOUR: 'it returns false'. Refute it at one input. -/
def auditTellsWrong : ChangeSpec := { name := "auditTells", fn := fun _ => fun
  | [d1, d2, d3] => { results := [.lit (.bool false)], args := [d1, d2, d3] }
  | _ => none }
def AuditTellsWrongFalsely : Prop := auditTellsRow.holds Try.pinned (OpenSpec.ofChange auditTellsWrong)

/-- 'quittancelaw20.JournalTidies': WHATEVER THE INPUT: true; the input reads as it did. -/
def journalTidiesSpec : ChangeSpec := { name := "journalTidies", fn := fun _ => fun
  | [d] => { results := [.lit (.bool true)], args := [d] }
  | _ => none }
def journalTidiesRow : OpenClaim := { program := "ytgdidchpignbpaa", sum := "1db9de5872417140a89c708704ae52f970ae2f93bb5e33d2d71fbc11ab270720", func := "quittance/quittancelaw20.JournalTidies", spec := "journalTidies", inPlace := ["math/bits.Add64"], unfollowed := true, recurses := true, plainKeys := false, apart := false }
def JournalTidiesSaid : Prop := journalTidiesRow.holds Try.pinned (OpenSpec.ofChange journalTidiesSpec)

/-- ITS FALSE NEIGHBOUR: 'it returns false'. Refute it at one input. -/
def journalTidiesWrong : ChangeSpec := { name := "journalTidies", fn := fun _ => fun
  | [d] => { results := [.lit (.bool false)], args := [d] }
  | _ => none }
def JournalTidiesWrongFalsely : Prop := journalTidiesRow.holds Try.pinned (OpenSpec.ofChange journalTidiesWrong)

/-- 'quittancelaw20.JournalOrder': WHATEVER THE INPUT: true; the input reads as it did. -/
def journalOrderSpec : ChangeSpec := { name := "journalOrder", fn := fun _ => fun
  | [d1, d2] => { results := [.lit (.bool true)], args := [d1, d2] }
  | _ => none }
def journalOrderRow : OpenClaim := { program := "ytgdidchpignbpaa", sum := "1db9de5872417140a89c708704ae52f970ae2f93bb5e33d2d71fbc11ab270720", func := "quittance/quittancelaw20.JournalOrder", spec := "journalOrder", inPlace := ["math/bits.Add64"], unfollowed := true, recurses := true, plainKeys := false, apart := false }
def JournalOrderSaid : Prop := journalOrderRow.holds Try.pinned (OpenSpec.ofChange journalOrderSpec)

/-- ITS FALSE NEIGHBOUR: 'it returns false'. Refute it at one input. -/
def journalOrderWrong : ChangeSpec := { name := "journalOrder", fn := fun _ => fun
  | [d1, d2] => { results := [.lit (.bool false)], args := [d1, d2] }
  | _ => none }
def JournalOrderWrongFalsely : Prop := journalOrderRow.holds Try.pinned (OpenSpec.ofChange journalOrderWrong)

/-- 'quittancelaw20.JournalLeaves': WHATEVER THE INPUT: true; the input reads as it did. -/
def journalLeavesSpec : ChangeSpec := { name := "journalLeaves", fn := fun _ => fun
  | [d1, d2] => { results := [.lit (.bool true)], args := [d1, d2] }
  | _ => none }
def journalLeavesRow : OpenClaim := { program := "ytgdidchpignbpaa", sum := "1db9de5872417140a89c708704ae52f970ae2f93bb5e33d2d71fbc11ab270720", func := "quittance/quittancelaw20.JournalLeaves", spec := "journalLeaves", inPlace := ["math/bits.Add64"], unfollowed := true, recurses := true, plainKeys := false, apart := false }
def JournalLeavesSaid : Prop := journalLeavesRow.holds Try.pinned (OpenSpec.ofChange journalLeavesSpec)

/-- ITS FALSE NEIGHBOUR: 'it returns false'. Refute it at one input. -/
def journalLeavesWrong : ChangeSpec := { name := "journalLeaves", fn := fun _ => fun
  | [d1, d2] => { results := [.lit (.bool false)], args := [d1, d2] }
  | _ => none }
def JournalLeavesWrongFalsely : Prop := journalLeavesRow.holds Try.pinned (OpenSpec.ofChange journalLeavesWrong)

/-- 'quittancelaw20.JournalTurns': WHATEVER THE INPUT: true; the input reads as it did. -/
def journalTurnsSpec : ChangeSpec := { name := "journalTurns", fn := fun _ => fun
  | [d1, d2] => { results := [.lit (.bool true)], args := [d1, d2] }
  | _ => none }
def journalTurnsRow : OpenClaim := { program := "ytgdidchpignbpaa", sum := "1db9de5872417140a89c708704ae52f970ae2f93bb5e33d2d71fbc11ab270720", func := "quittance/quittancelaw20.JournalTurns", spec := "journalTurns", inPlace := ["math/bits.Add64"], unfollowed := true, recurses := true, plainKeys := false, apart := false }
def JournalTurnsSaid : Prop := journalTurnsRow.holds Try.pinned (OpenSpec.ofChange journalTurnsSpec)

/-- ITS FALSE NEIGHBOUR: 'it returns false'. Refute it at one input. -/
def journalTurnsWrong : ChangeSpec := { name := "journalTurns", fn := fun _ => fun
  | [d1, d2] => { results := [.lit (.bool false)], args := [d1, d2] }
  | _ => none }
def JournalTurnsWrongFalsely : Prop := journalTurnsRow.holds Try.pinned (OpenSpec.ofChange journalTurnsWrong)

/-- 'quittancelaw20.JournalChecks': WHATEVER THE INPUT: true; the input reads as it did. -/
def journalChecksSpec : ChangeSpec := { name := "journalChecks", fn := fun _ => fun
  | [d] => { results := [.lit (.bool true)], args := [d] }
  | _ => none }
def journalChecksRow : OpenClaim := { program := "ytgdidchpignbpaa", sum := "1db9de5872417140a89c708704ae52f970ae2f93bb5e33d2d71fbc11ab270720", func := "quittance/quittancelaw20.JournalChecks", spec := "journalChecks", inPlace := ["math/bits.Add64"], unfollowed := true, recurses := true, plainKeys := false, apart := false }
def JournalChecksSaid : Prop := journalChecksRow.holds Try.pinned (OpenSpec.ofChange journalChecksSpec)

/-- ITS FALSE NEIGHBOUR: 'it returns false'. Refute it at one input. -/
def journalChecksWrong : ChangeSpec := { name := "journalChecks", fn := fun _ => fun
  | [d] => { results := [.lit (.bool false)], args := [d] }
  | _ => none }
def JournalChecksWrongFalsely : Prop := journalChecksRow.holds Try.pinned (OpenSpec.ofChange journalChecksWrong)

/-- 'quittancelaw26.CashUndo': WHATEVER THE INPUT: true; the input reads as it did. -/
def cashUndoSpec : ChangeSpec := { name := "cashUndo", fn := fun _ => fun
  | [d] => { results := [.lit (.bool true)], args := [d] }
  | _ => none }
def cashUndoRow : OpenClaim := { program := "ytgdidchpignbpaa", sum := "1db9de5872417140a89c708704ae52f970ae2f93bb5e33d2d71fbc11ab270720", func := "quittance/quittancelaw26.CashUndo", spec := "cashUndo", inPlace := ["math/bits.Add64"], unfollowed := true, recurses := true, plainKeys := false, apart := false }
def CashUndoSaid : Prop := cashUndoRow.holds Try.pinned (OpenSpec.ofChange cashUndoSpec)

/-- ITS FALSE NEIGHBOUR: 'it returns false'. Refute it at one input. -/
def cashUndoWrong : ChangeSpec := { name := "cashUndo", fn := fun _ => fun
  | [d] => { results := [.lit (.bool false)], args := [d] }
  | _ => none }
def CashUndoWrongFalsely : Prop := cashUndoRow.holds Try.pinned (OpenSpec.ofChange cashUndoWrong)

/-- 'quittancelaw26.CashTells': WHATEVER THE INPUT: true; the input reads as it did. -/
def cashTellsSpec : ChangeSpec := { name := "cashTells", fn := fun _ => fun
  | [d] => { results := [.lit (.bool true)], args := [d] }
  | _ => none }
def cashTellsRow : OpenClaim := { program := "ytgdidchpignbpaa", sum := "1db9de5872417140a89c708704ae52f970ae2f93bb5e33d2d71fbc11ab270720", func := "quittance/quittancelaw26.CashTells", spec := "cashTells", inPlace := ["math/bits.Add64"], unfollowed := true, recurses := true, plainKeys := false, apart := false }
def CashTellsSaid : Prop := cashTellsRow.holds Try.pinned (OpenSpec.ofChange cashTellsSpec)

/-- ITS FALSE NEIGHBOUR: 'it returns false'. Refute it at one input. -/
def cashTellsWrong : ChangeSpec := { name := "cashTells", fn := fun _ => fun
  | [d] => { results := [.lit (.bool false)], args := [d] }
  | _ => none }
def CashTellsWrongFalsely : Prop := cashTellsRow.holds Try.pinned (OpenSpec.ofChange cashTellsWrong)

/- THE SECOND FORM. 'bulk': how many values and letters a reading holds, each counted each time it is reached (what is shared counts as often as it is met; a slice's spare places count too). A statement '..UptoSaid' is the law's where the arguments, and the package variables that the reading takes, are together of bulk at most 1048576: NARROWER than '..Said'. Prove '..Said' where nothing that the law and all that it calls make is longer than what came in: it says more and counts as full. Else prove '..UptoSaid'. A law counts once. -/
mutual
def uptoBulk {H : Type} : DataW H → Nat
  | .lit (.string bytes) => bytes.length + 1
  | .lit _ => 1
  | .nil => 1
  | .ptr d => uptoBulk d + 1
  | .slice elems spare => uptoBulkAll elems + uptoBulkAll spare + 1
  | .agg parts => uptoBulkAll parts + 1
  | .iface _ d => uptoBulk d + 1
  | .map entries => uptoBulkEntries entries + 1
  | .held _ => 1
def uptoBulkAll {H : Type} : List (DataW H) → Nat
  | [] => 0
  | d :: r => uptoBulk d + uptoBulkAll r
def uptoBulkEntries {H : Type} : List (Lit × DataW H) → Nat
  | [] => 0
  | x :: r => uptoBulkEntry x + uptoBulkEntries r
def uptoBulkEntry {H : Type} : Lit × DataW H → Nat
  | (.string bytes, d) => bytes.length + uptoBulk d + 1
  | (_, d) => uptoBulk d + 1
 end
def uptoSmall : (H : Type) → List (DataW H) → Bool := fun _ ds => decide (uptoBulkAll ds ≤ 1048576)
def OpenSpec.upto (s : _root_.Go.ChangeSpec) : _root_.Go.OpenSpec := { _root_.Go.OpenSpec.ofChange s with cond := some uptoSmall }

/-- 'quittancelaw25.NotesTell', WHERE WHAT IT READS IS OF BULK AT MOST 1048576: true; the input reads as it did. -/
def notesTellUptoRow : OpenClaim := { program := "ytgdidchpignbpaa", sum := "1db9de5872417140a89c708704ae52f970ae2f93bb5e33d2d71fbc11ab270720", func := "quittance/quittancelaw25.NotesTell", spec := "notesTell", inPlace := ["math/bits.Add64"], unfollowed := true, recurses := true, plainKeys := false, apart := false, narrowed := true }
def NotesTellUptoSaid : Prop := notesTellUptoRow.holds Try.pinned (OpenSpec.upto notesTellSpec)

/-- 'quittancelaw25.NotesSpread', WHERE WHAT IT READS IS OF BULK AT MOST 1048576: true; the input reads as it did. -/
def notesSpreadUptoRow : OpenClaim := { program := "ytgdidchpignbpaa", sum := "1db9de5872417140a89c708704ae52f970ae2f93bb5e33d2d71fbc11ab270720", func := "quittance/quittancelaw25.NotesSpread", spec := "notesSpread", inPlace := ["math/bits.Add64"], unfollowed := true, recurses := true, plainKeys := false, apart := false, narrowed := true }
def NotesSpreadUptoSaid : Prop := notesSpreadUptoRow.holds Try.pinned (OpenSpec.upto notesSpreadSpec)

/-- 'quittancelaw25.NotesWhole', WHERE WHAT IT READS IS OF BULK AT MOST 1048576: true; the input reads as it did. -/
def notesWholeUptoRow : OpenClaim := { program := "ytgdidchpignbpaa", sum := "1db9de5872417140a89c708704ae52f970ae2f93bb5e33d2d71fbc11ab270720", func := "quittance/quittancelaw25.NotesWhole", spec := "notesWhole", inPlace := ["math/bits.Add64"], unfollowed := true, recurses := true, plainKeys := false, apart := false, narrowed := true }
def NotesWholeUptoSaid : Prop := notesWholeUptoRow.holds Try.pinned (OpenSpec.upto notesWholeSpec)

/-- 'quittancelaw25.NotesBalance', WHERE WHAT IT READS IS OF BULK AT MOST 1048576: true; the input reads as it did. -/
def notesBalanceUptoRow : OpenClaim := { program := "ytgdidchpignbpaa", sum := "1db9de5872417140a89c708704ae52f970ae2f93bb5e33d2d71fbc11ab270720", func := "quittance/quittancelaw25.NotesBalance", spec := "notesBalance", inPlace := ["math/bits.Add64"], unfollowed := true, recurses := true, plainKeys := false, apart := false, narrowed := true }
def NotesBalanceUptoSaid : Prop := notesBalanceUptoRow.holds Try.pinned (OpenSpec.upto notesBalanceSpec)

/-- 'quittancelaw32.AuditTells', WHERE WHAT IT READS IS OF BULK AT MOST 1048576: true; the input reads as it did. -/
def auditTellsUptoRow : OpenClaim := { program := "ytgdidchpignbpaa", sum := "1db9de5872417140a89c708704ae52f970ae2f93bb5e33d2d71fbc11ab270720", func := "quittance/quittancelaw32.AuditTells", spec := "auditTells", inPlace := ["math/bits.Add64"], unfollowed := true, recurses := true, plainKeys := false, apart := false, narrowed := true }
def AuditTellsUptoSaid : Prop := auditTellsUptoRow.holds Try.pinned (OpenSpec.upto auditTellsSpec)

/-- 'quittancelaw20.JournalTidies', WHERE WHAT IT READS IS OF BULK AT MOST 1048576: true; the input reads as it did. -/
def journalTidiesUptoRow : OpenClaim := { program := "ytgdidchpignbpaa", sum := "1db9de5872417140a89c708704ae52f970ae2f93bb5e33d2d71fbc11ab270720", func := "quittance/quittancelaw20.JournalTidies", spec := "journalTidies", inPlace := ["math/bits.Add64"], unfollowed := true, recurses := true, plainKeys := false, apart := false, narrowed := true }
def JournalTidiesUptoSaid : Prop := journalTidiesUptoRow.holds Try.pinned (OpenSpec.upto journalTidiesSpec)

/-- 'quittancelaw20.JournalOrder', WHERE WHAT IT READS IS OF BULK AT MOST 1048576: true; the input reads as it did. -/
def journalOrderUptoRow : OpenClaim := { program := "ytgdidchpignbpaa", sum := "1db9de5872417140a89c708704ae52f970ae2f93bb5e33d2d71fbc11ab270720", func := "quittance/quittancelaw20.JournalOrder", spec := "journalOrder", inPlace := ["math/bits.Add64"], unfollowed := true, recurses := true, plainKeys := false, apart := false, narrowed := true }
def JournalOrderUptoSaid : Prop := journalOrderUptoRow.holds Try.pinned (OpenSpec.upto journalOrderSpec)

/-- 'quittancelaw20.JournalLeaves', WHERE WHAT IT READS IS OF BULK AT MOST 1048576: true; the input reads as it did. -/
def journalLeavesUptoRow : OpenClaim := { program := "ytgdidchpignbpaa", sum := "1db9de5872417140a89c708704ae52f970ae2f93bb5e33d2d71fbc11ab270720", func := "quittance/quittancelaw20.JournalLeaves", spec := "journalLeaves", inPlace := ["math/bits.Add64"], unfollowed := true, recurses := true, plainKeys := false, apart := false, narrowed := true }
def JournalLeavesUptoSaid : Prop := journalLeavesUptoRow.holds Try.pinned (OpenSpec.upto journalLeavesSpec)

/-- 'quittancelaw20.JournalTurns', WHERE WHAT IT READS IS OF BULK AT MOST 1048576: true; the input reads as it did. -/
def journalTurnsUptoRow : OpenClaim := { program := "ytgdidchpignbpaa", sum := "1db9de5872417140a89c708704ae52f970ae2f93bb5e33d2d71fbc11ab270720", func := "quittance/quittancelaw20.JournalTurns", spec := "journalTurns", inPlace := ["math/bits.Add64"], unfollowed := true, recurses := true, plainKeys := false, apart := false, narrowed := true }
def JournalTurnsUptoSaid : Prop := journalTurnsUptoRow.holds Try.pinned (OpenSpec.upto journalTurnsSpec)

/-- 'quittancelaw20.JournalChecks', WHERE WHAT IT READS IS OF BULK AT MOST 1048576: true; the input reads as it did. -/
def journalChecksUptoRow : OpenClaim := { program := "ytgdidchpignbpaa", sum := "1db9de5872417140a89c708704ae52f970ae2f93bb5e33d2d71fbc11ab270720", func := "quittance/quittancelaw20.JournalChecks", spec := "journalChecks", inPlace := ["math/bits.Add64"], unfollowed := true, recurses := true, plainKeys := false, apart := false, narrowed := true }
def JournalChecksUptoSaid : Prop := journalChecksUptoRow.holds Try.pinned (OpenSpec.upto journalChecksSpec)

/-- 'quittancelaw26.CashUndo', WHERE WHAT IT READS IS OF BULK AT MOST 1048576: true; the input reads as it did. -/
def cashUndoUptoRow : OpenClaim := { program := "ytgdidchpignbpaa", sum := "1db9de5872417140a89c708704ae52f970ae2f93bb5e33d2d71fbc11ab270720", func := "quittance/quittancelaw26.CashUndo", spec := "cashUndo", inPlace := ["math/bits.Add64"], unfollowed := true, recurses := true, plainKeys := false, apart := false, narrowed := true }
def CashUndoUptoSaid : Prop := cashUndoUptoRow.holds Try.pinned (OpenSpec.upto cashUndoSpec)

/-- 'quittancelaw26.CashTells', WHERE WHAT IT READS IS OF BULK AT MOST 1048576: true; the input reads as it did. -/
def cashTellsUptoRow : OpenClaim := { program := "ytgdidchpignbpaa", sum := "1db9de5872417140a89c708704ae52f970ae2f93bb5e33d2d71fbc11ab270720", func := "quittance/quittancelaw26.CashTells", spec := "cashTells", inPlace := ["math/bits.Add64"], unfollowed := true, recurses := true, plainKeys := false, apart := false, narrowed := true }
def CashTellsUptoSaid : Prop := cashTellsUptoRow.holds Try.pinned (OpenSpec.upto cashTellsSpec)

end Rows
end Go.Proofs.Ytgdidchpignbpaa
