/-
  NARROWER THAN 'FOR EVERY INPUT', by the rows' own cells (each row's printed sentence says how): RootLeads: laid · UndoMarks: laid · OldSizes: laid.
  DERIVED. THE GIVEN ROWS OF THIS SEAT. 3 by the template 'for every input the law returns true; each argument reads behind the call as it read before'; 0 by the template 'total and deterministic' (their statements: YtnceheienlekaaaGreatDoorTotals.lean).
  GIVEN WITH THE SEED: the statements are not yours to turn. If you find one false, say at which input.
  Laid BY PROGRAM, IN A SANDBOX (cutbox-rows.mjs): the forced cells as the released guide's own fill.sh prints them over the translation 3bbcf1763673b230… (all of the seat's roots in one cut). By AI agents, Wed Nov 11 2026. No macro, syntax, notation, axiom, sorry.
-/
import Derived.Test.YtnceheienlekaaaGreatDoorChecked
import GoSem.Claim
import GoSem.ClaimJoined
import GoSem.ClaimMapViews
import Derived.JoinedTies
import Derived.KernelRfl
namespace Go.Proofs.YtnceheienlekaaaGreatDoor
/- THE CELL 'sum', in the pinned program and in every row, IS THE sha256 OF THE DUMP (.gsa) THAT YtnceheienlekaaaGreatDoorProg.lean LOADS. Nothing in Lean hashes anything: it is a label: what it is worth is what the hold of that sum in a sandbox is worth. -/
noncomputable def Tryz.pinned : Pinned := { name := "ytnceheienlekaaagreatdoor", sum := "3bbcf1763673b230a31439f047f37803dbdbec434080ffdad7f7ab15994e5223", checked := Tryz.checked }
namespace Rows
def none {H : Type} : Left H := { results := [], args := [] }

/- WHAT THE LISTED PACKAGE-LEVEL VARIABLES READ AS WHEN THE CALL BEGINS. Each datum BY PROGRAM (the guide's laid-datum.mjs) off the statement by which the dump's own 'gosem.cut.vars' lays the variable. In a bare row this is a premise. The card (YtnceheienlekaaaGreatDoorCards.lean) ties it to the program's text. -/
def laid_errors_errorType {H : Type} : DataW H := .iface "internal/reflectlite.rtype" (.agg [.ptr (.lit (.string [101, 114, 114, 111, 114]))])

/-- 'vaultlaw2.RootLeads': WHATEVER THE INPUT: true; the input reads as it did. -/
def rootLeadsSpec : ChangeSpec := { name := "rootLeads", fn := fun _ => fun
  | [d1, d2, d3, d4] => { results := [.lit (.bool true)], args := [d1, d2, d3, d4] }
  | _ => none }
def rootLeadsRow : OpenClaim := { program := "ytnceheienlekaaagreatdoor", sum := "3bbcf1763673b230a31439f047f37803dbdbec434080ffdad7f7ab15994e5223", func := "vaultkeel/vaultlaw2.RootLeads", spec := "rootLeads", inPlace := ["internal/reflectlite.ValueOf", "(internal/reflectlite.Value).Type", "(internal/reflectlite.Value).IsNil", "internal/reflectlite.TypeOf", "(internal/reflectlite.Value).Elem", "(internal/reflectlite.Value).Set"], unfollowed := true, recurses := true, named := ["errors.errorType"], apart := false, laid := [("errors.errorType", laid_errors_errorType)] }
def RootLeadsSaid : Prop := rootLeadsRow.holds Tryz.pinned (OpenSpec.ofChange rootLeadsSpec)

/-- ITS FALSE NEIGHBOUR: 'it returns false'. Refute it at one input. -/
def rootLeadsWrong : ChangeSpec := { name := "rootLeads", fn := fun _ => fun
  | [d1, d2, d3, d4] => { results := [.lit (.bool false)], args := [d1, d2, d3, d4] }
  | _ => none }
def RootLeadsWrongFalsely : Prop := rootLeadsRow.holds Tryz.pinned (OpenSpec.ofChange rootLeadsWrong)

/-- 'vaultlaw4.UndoMarks': WHATEVER THE INPUT: true; the input reads as it did. -/
def undoMarksSpec : ChangeSpec := { name := "undoMarks", fn := fun _ => fun
  | [d1, d2] => { results := [.lit (.bool true)], args := [d1, d2] }
  | _ => none }
def undoMarksRow : OpenClaim := { program := "ytnceheienlekaaagreatdoor", sum := "3bbcf1763673b230a31439f047f37803dbdbec434080ffdad7f7ab15994e5223", func := "vaultkeel/vaultlaw4.UndoMarks", spec := "undoMarks", inPlace := ["internal/reflectlite.ValueOf", "(internal/reflectlite.Value).Type", "(internal/reflectlite.Value).IsNil", "internal/reflectlite.TypeOf", "(internal/reflectlite.Value).Elem", "(internal/reflectlite.Value).Set"], unfollowed := true, recurses := true, named := ["errors.errorType"], apart := false, laid := [("errors.errorType", laid_errors_errorType)] }
def UndoMarksSaid : Prop := undoMarksRow.holds Tryz.pinned (OpenSpec.ofChange undoMarksSpec)

/-- ITS FALSE NEIGHBOUR: 'it returns false'. Refute it at one input. -/
def undoMarksWrong : ChangeSpec := { name := "undoMarks", fn := fun _ => fun
  | [d1, d2] => { results := [.lit (.bool false)], args := [d1, d2] }
  | _ => none }
def UndoMarksWrongFalsely : Prop := undoMarksRow.holds Tryz.pinned (OpenSpec.ofChange undoMarksWrong)

/-- 'vaultlaw4.OldSizes': WHATEVER THE INPUT: true; the input reads as it did. -/
def oldSizesSpec : ChangeSpec := { name := "oldSizes", fn := fun _ => fun
  | [d1, d2, d3] => { results := [.lit (.bool true)], args := [d1, d2, d3] }
  | _ => none }
def oldSizesRow : OpenClaim := { program := "ytnceheienlekaaagreatdoor", sum := "3bbcf1763673b230a31439f047f37803dbdbec434080ffdad7f7ab15994e5223", func := "vaultkeel/vaultlaw4.OldSizes", spec := "oldSizes", inPlace := ["internal/reflectlite.ValueOf", "(internal/reflectlite.Value).Type", "(internal/reflectlite.Value).IsNil", "internal/reflectlite.TypeOf", "(internal/reflectlite.Value).Elem", "(internal/reflectlite.Value).Set"], unfollowed := true, recurses := true, named := ["errors.errorType"], apart := false, laid := [("errors.errorType", laid_errors_errorType)] }
def OldSizesSaid : Prop := oldSizesRow.holds Tryz.pinned (OpenSpec.ofChange oldSizesSpec)

/-- ITS FALSE NEIGHBOUR: 'it returns false'. Refute it at one input. -/
def oldSizesWrong : ChangeSpec := { name := "oldSizes", fn := fun _ => fun
  | [d1, d2, d3] => { results := [.lit (.bool false)], args := [d1, d2, d3] }
  | _ => none }
def OldSizesWrongFalsely : Prop := oldSizesRow.holds Tryz.pinned (OpenSpec.ofChange oldSizesWrong)

/- THE SECOND FORM. 'bulk': how many values and letters a reading holds, each counted each time it is reached (what is shared counts as often as it is met; a slice's spare places count too). A statement '..UptoSaid' is the law's where the arguments, and the package variables that the reading takes, are together of bulk at most 1048576: NARROWER than '..Said'. Prove '..Said' where nothing that the law and all that it calls make is longer than what came in: it says more and counts as full. Else prove '..UptoSaid'. A law counts once. -/
mutual
def uptoBulk {H : Type} : DataW H → Nat
  | .lit (.string bytes) => bytes.length + 1
  | .lit _ => 1
  | .nil => 1
  | .ptr d => uptoBulk d + 1
  | .slice elems spare => uptoBulkAll elems + uptoBulkAll spare + 1
  | .agg parts => uptoBulkAll parts + 1
  | .iface _ d => uptoBulk d + 1
  | .map entries => uptoBulkEntries entries + 1
  | .held _ => 1
def uptoBulkAll {H : Type} : List (DataW H) → Nat
  | [] => 0
  | d :: r => uptoBulk d + uptoBulkAll r
def uptoBulkEntries {H : Type} : List (Lit × DataW H) → Nat
  | [] => 0
  | x :: r => uptoBulkEntry x + uptoBulkEntries r
def uptoBulkEntry {H : Type} : Lit × DataW H → Nat
  | (.string bytes, d) => bytes.length + uptoBulk d + 1
  | (_, d) => uptoBulk d + 1
 end
def uptoSmall : (H : Type) → List (DataW H) → Bool := fun _ ds => decide (uptoBulkAll ds ≤ 1048576)
def OpenSpec.upto (s : _root_.Go.ChangeSpec) : _root_.Go.OpenSpec := { _root_.Go.OpenSpec.ofChange s with cond := some uptoSmall }

/-- 'vaultlaw2.RootLeads', WHERE WHAT IT READS IS OF BULK AT MOST 1048576: true; the input reads as it did. -/
def rootLeadsUptoRow : OpenClaim := { program := "ytnceheienlekaaagreatdoor", sum := "3bbcf1763673b230a31439f047f37803dbdbec434080ffdad7f7ab15994e5223", func := "vaultkeel/vaultlaw2.RootLeads", spec := "rootLeads", inPlace := ["internal/reflectlite.ValueOf", "(internal/reflectlite.Value).Type", "(internal/reflectlite.Value).IsNil", "internal/reflectlite.TypeOf", "(internal/reflectlite.Value).Elem", "(internal/reflectlite.Value).Set"], unfollowed := true, recurses := true, named := ["errors.errorType"], apart := false, laid := [("errors.errorType", laid_errors_errorType)], narrowed := true }
def RootLeadsUptoSaid : Prop := rootLeadsUptoRow.holds Tryz.pinned (OpenSpec.upto rootLeadsSpec)

/-- 'vaultlaw4.UndoMarks', WHERE WHAT IT READS IS OF BULK AT MOST 1048576: true; the input reads as it did. -/
def undoMarksUptoRow : OpenClaim := { program := "ytnceheienlekaaagreatdoor", sum := "3bbcf1763673b230a31439f047f37803dbdbec434080ffdad7f7ab15994e5223", func := "vaultkeel/vaultlaw4.UndoMarks", spec := "undoMarks", inPlace := ["internal/reflectlite.ValueOf", "(internal/reflectlite.Value).Type", "(internal/reflectlite.Value).IsNil", "internal/reflectlite.TypeOf", "(internal/reflectlite.Value).Elem", "(internal/reflectlite.Value).Set"], unfollowed := true, recurses := true, named := ["errors.errorType"], apart := false, laid := [("errors.errorType", laid_errors_errorType)], narrowed := true }
def UndoMarksUptoSaid : Prop := undoMarksUptoRow.holds Tryz.pinned (OpenSpec.upto undoMarksSpec)

/-- 'vaultlaw4.OldSizes', WHERE WHAT IT READS IS OF BULK AT MOST 1048576: true; the input reads as it did. -/
def oldSizesUptoRow : OpenClaim := { program := "ytnceheienlekaaagreatdoor", sum := "3bbcf1763673b230a31439f047f37803dbdbec434080ffdad7f7ab15994e5223", func := "vaultkeel/vaultlaw4.OldSizes", spec := "oldSizes", inPlace := ["internal/reflectlite.ValueOf", "(internal/reflectlite.Value).Type", "(internal/reflectlite.Value).IsNil", "internal/reflectlite.TypeOf", "(internal/reflectlite.Value).Elem", "(internal/reflectlite.Value).Set"], unfollowed := true, recurses := true, named := ["errors.errorType"], apart := false, laid := [("errors.errorType", laid_errors_errorType)], narrowed := true }
def OldSizesUptoSaid : Prop := oldSizesUptoRow.holds Tryz.pinned (OpenSpec.upto oldSizesSpec)

end Rows
end Go.Proofs.YtnceheienlekaaaGreatDoor
