/-
  No cell of these rows narrows 'for every input' (looked for: loops, veiled, ifaces, maps, wideKeys, modest, calm, conditions, laid).
  DERIVED. THE GIVEN ROWS OF THIS SEAT. 5 by the template 'for every input the law returns true; each argument reads behind the call as it read before'; 0 by the template 'total and deterministic' (their statements: YtcahgmnkphmnhaaGreatTotals.lean).
  GIVEN WITH THE SEED: the statements are not yours to turn. If you find one false, say at which input.
  Laid BY PROGRAM, IN A SANDBOX (cutbox-rows.mjs): the forced cells as the released guide's own fill.sh prints them over the translation 4396823a90ebb557… (all of the seat's roots in one cut). By AI agents, Wed Nov 11 2026. No macro, syntax, notation, axiom, sorry.
-/
import Derived.Test.YtcahgmnkphmnhaaGreatChecked
import GoSem.Claim
import GoSem.ClaimJoined
import GoSem.ClaimMapViews
import Derived.JoinedTies
import Derived.KernelRfl
namespace Go.Proofs.YtcahgmnkphmnhaaGreat
/- THE CELL 'sum', in the pinned program and in every row, IS THE sha256 OF THE DUMP (.gsa) THAT YtcahgmnkphmnhaaGreatProg.lean LOADS. Nothing in Lean hashes anything: it is a label: what it is worth is what the hold of that sum in a sandbox is worth. -/
noncomputable def Tryz.pinned : Pinned := { name := "ytcahgmnkphmnhaagreat", sum := "4396823a90ebb557774f1911599c0682ee0e2adb00bf74a15d8ffff0cf326b13", checked := Tryz.checked }
namespace Rows
def none {H : Type} : Left H := { results := [], args := [] }

/-- 'vaultlaw2.UndoBack': WHATEVER THE INPUT: true; the input reads as it did. -/
def undoBackSpec : ChangeSpec := { name := "undoBack", fn := fun _ => fun
  | [d1, d2, d3] => { results := [.lit (.bool true)], args := [d1, d2, d3] }
  | _ => none }
def undoBackRow : OpenClaim := { program := "ytcahgmnkphmnhaagreat", sum := "4396823a90ebb557774f1911599c0682ee0e2adb00bf74a15d8ffff0cf326b13", func := "vaultkeel/vaultlaw2.UndoBack", spec := "undoBack", unfollowed := true, recurses := true, apart := false }
def UndoBackSaid : Prop := undoBackRow.holds Tryz.pinned (OpenSpec.ofChange undoBackSpec)

/-- ITS FALSE NEIGHBOUR: 'it returns false'. Refute it at one input. -/
def undoBackWrong : ChangeSpec := { name := "undoBack", fn := fun _ => fun
  | [d1, d2, d3] => { results := [.lit (.bool false)], args := [d1, d2, d3] }
  | _ => none }
def UndoBackWrongFalsely : Prop := undoBackRow.holds Tryz.pinned (OpenSpec.ofChange undoBackWrong)

/-- 'vaultlaw3.StatSums': WHATEVER THE INPUT: true; the input reads as it did. -/
def statSumsSpec : ChangeSpec := { name := "statSums", fn := fun _ => fun
  | [d1, d2, d3] => { results := [.lit (.bool true)], args := [d1, d2, d3] }
  | _ => none }
def statSumsRow : OpenClaim := { program := "ytcahgmnkphmnhaagreat", sum := "4396823a90ebb557774f1911599c0682ee0e2adb00bf74a15d8ffff0cf326b13", func := "vaultkeel/vaultlaw3.StatSums", spec := "statSums", unfollowed := true, recurses := true, apart := false }
def StatSumsSaid : Prop := statSumsRow.holds Tryz.pinned (OpenSpec.ofChange statSumsSpec)

/-- ITS FALSE NEIGHBOUR: 'it returns false'. Refute it at one input. -/
def statSumsWrong : ChangeSpec := { name := "statSums", fn := fun _ => fun
  | [d1, d2, d3] => { results := [.lit (.bool false)], args := [d1, d2, d3] }
  | _ => none }
def StatSumsWrongFalsely : Prop := statSumsRow.holds Tryz.pinned (OpenSpec.ofChange statSumsWrong)

/-- 'vaultlaw2.ReachHolds': WHATEVER THE INPUT: true; the input reads as it did. -/
def reachHoldsSpec : ChangeSpec := { name := "reachHolds", fn := fun _ => fun
  | [d] => { results := [.lit (.bool true)], args := [d] }
  | _ => none }
def reachHoldsRow : OpenClaim := { program := "ytcahgmnkphmnhaagreat", sum := "4396823a90ebb557774f1911599c0682ee0e2adb00bf74a15d8ffff0cf326b13", func := "vaultkeel/vaultlaw2.ReachHolds", spec := "reachHolds", unfollowed := true, recurses := true, apart := false }
def ReachHoldsSaid : Prop := reachHoldsRow.holds Tryz.pinned (OpenSpec.ofChange reachHoldsSpec)

/-- ITS FALSE NEIGHBOUR: 'it returns false'. Refute it at one input. -/
def reachHoldsWrong : ChangeSpec := { name := "reachHolds", fn := fun _ => fun
  | [d] => { results := [.lit (.bool false)], args := [d] }
  | _ => none }
def ReachHoldsWrongFalsely : Prop := reachHoldsRow.holds Tryz.pinned (OpenSpec.ofChange reachHoldsWrong)

/-- 'vaultlaw4.ReachChain': WHATEVER THE INPUT: true; the input reads as it did. -/
def reachChainSpec : ChangeSpec := { name := "reachChain", fn := fun _ => fun
  | [d1, d2] => { results := [.lit (.bool true)], args := [d1, d2] }
  | _ => none }
def reachChainRow : OpenClaim := { program := "ytcahgmnkphmnhaagreat", sum := "4396823a90ebb557774f1911599c0682ee0e2adb00bf74a15d8ffff0cf326b13", func := "vaultkeel/vaultlaw4.ReachChain", spec := "reachChain", unfollowed := true, recurses := true, apart := false }
def ReachChainSaid : Prop := reachChainRow.holds Tryz.pinned (OpenSpec.ofChange reachChainSpec)

/-- ITS FALSE NEIGHBOUR: 'it returns false'. Refute it at one input. -/
def reachChainWrong : ChangeSpec := { name := "reachChain", fn := fun _ => fun
  | [d1, d2] => { results := [.lit (.bool false)], args := [d1, d2] }
  | _ => none }
def ReachChainWrongFalsely : Prop := reachChainRow.holds Tryz.pinned (OpenSpec.ofChange reachChainWrong)

/-- 'vaultlaw4.MergeThree': WHATEVER THE INPUT: true; the input reads as it did. -/
def mergeThreeSpec : ChangeSpec := { name := "mergeThree", fn := fun _ => fun
  | [d1, d2] => { results := [.lit (.bool true)], args := [d1, d2] }
  | _ => none }
def mergeThreeRow : OpenClaim := { program := "ytcahgmnkphmnhaagreat", sum := "4396823a90ebb557774f1911599c0682ee0e2adb00bf74a15d8ffff0cf326b13", func := "vaultkeel/vaultlaw4.MergeThree", spec := "mergeThree", unfollowed := true, recurses := true, apart := false }
def MergeThreeSaid : Prop := mergeThreeRow.holds Tryz.pinned (OpenSpec.ofChange mergeThreeSpec)

/-- ITS FALSE NEIGHBOUR: 'it returns false'. Refute it at one input. -/
def mergeThreeWrong : ChangeSpec := { name := "mergeThree", fn := fun _ => fun
  | [d1, d2] => { results := [.lit (.bool false)], args := [d1, d2] }
  | _ => none }
def MergeThreeWrongFalsely : Prop := mergeThreeRow.holds Tryz.pinned (OpenSpec.ofChange mergeThreeWrong)

/- THE SECOND FORM. 'bulk': how many values and letters a reading holds, each counted each time it is reached (what is shared counts as often as it is met; a slice's spare places count too). A statement '..UptoSaid' is the law's where the arguments, and the package variables that the reading takes, are together of bulk at most 1048576: NARROWER than '..Said'. Prove '..Said' where nothing that the law and all that it calls make is longer than what came in: it says more and counts as full. Else prove '..UptoSaid'. A law counts once. -/
mutual
def uptoBulk {H : Type} : DataW H → Nat
  | .lit (.string bytes) => bytes.length + 1
  | .lit _ => 1
  | .nil => 1
  | .ptr d => uptoBulk d + 1
  | .slice elems spare => uptoBulkAll elems + uptoBulkAll spare + 1
  | .agg parts => uptoBulkAll parts + 1
  | .iface _ d => uptoBulk d + 1
  | .map entries => uptoBulkEntries entries + 1
  | .held _ => 1
def uptoBulkAll {H : Type} : List (DataW H) → Nat
  | [] => 0
  | d :: r => uptoBulk d + uptoBulkAll r
def uptoBulkEntries {H : Type} : List (Lit × DataW H) → Nat
  | [] => 0
  | x :: r => uptoBulkEntry x + uptoBulkEntries r
def uptoBulkEntry {H : Type} : Lit × DataW H → Nat
  | (.string bytes, d) => bytes.length + uptoBulk d + 1
  | (_, d) => uptoBulk d + 1
 end
def uptoSmall : (H : Type) → List (DataW H) → Bool := fun _ ds => decide (uptoBulkAll ds ≤ 1048576)
def OpenSpec.upto (s : _root_.Go.ChangeSpec) : _root_.Go.OpenSpec := { _root_.Go.OpenSpec.ofChange s with cond := some uptoSmall }

/-- 'vaultlaw2.UndoBack', WHERE WHAT IT READS IS OF BULK AT MOST 1048576: true; the input reads as it did. -/
def undoBackUptoRow : OpenClaim := { program := "ytcahgmnkphmnhaagreat", sum := "4396823a90ebb557774f1911599c0682ee0e2adb00bf74a15d8ffff0cf326b13", func := "vaultkeel/vaultlaw2.UndoBack", spec := "undoBack", unfollowed := true, recurses := true, apart := false, narrowed := true }
def UndoBackUptoSaid : Prop := undoBackUptoRow.holds Tryz.pinned (OpenSpec.upto undoBackSpec)

/-- 'vaultlaw3.StatSums', WHERE WHAT IT READS IS OF BULK AT MOST 1048576: true; the input reads as it did. -/
def statSumsUptoRow : OpenClaim := { program := "ytcahgmnkphmnhaagreat", sum := "4396823a90ebb557774f1911599c0682ee0e2adb00bf74a15d8ffff0cf326b13", func := "vaultkeel/vaultlaw3.StatSums", spec := "statSums", unfollowed := true, recurses := true, apart := false, narrowed := true }
def StatSumsUptoSaid : Prop := statSumsUptoRow.holds Tryz.pinned (OpenSpec.upto statSumsSpec)

/-- 'vaultlaw2.ReachHolds', WHERE WHAT IT READS IS OF BULK AT MOST 1048576: true; the input reads as it did. -/
def reachHoldsUptoRow : OpenClaim := { program := "ytcahgmnkphmnhaagreat", sum := "4396823a90ebb557774f1911599c0682ee0e2adb00bf74a15d8ffff0cf326b13", func := "vaultkeel/vaultlaw2.ReachHolds", spec := "reachHolds", unfollowed := true, recurses := true, apart := false, narrowed := true }
def ReachHoldsUptoSaid : Prop := reachHoldsUptoRow.holds Tryz.pinned (OpenSpec.upto reachHoldsSpec)

/-- 'vaultlaw4.ReachChain', WHERE WHAT IT READS IS OF BULK AT MOST 1048576: true; the input reads as it did. -/
def reachChainUptoRow : OpenClaim := { program := "ytcahgmnkphmnhaagreat", sum := "4396823a90ebb557774f1911599c0682ee0e2adb00bf74a15d8ffff0cf326b13", func := "vaultkeel/vaultlaw4.ReachChain", spec := "reachChain", unfollowed := true, recurses := true, apart := false, narrowed := true }
def ReachChainUptoSaid : Prop := reachChainUptoRow.holds Tryz.pinned (OpenSpec.upto reachChainSpec)

/-- 'vaultlaw4.MergeThree', WHERE WHAT IT READS IS OF BULK AT MOST 1048576: true; the input reads as it did. -/
def mergeThreeUptoRow : OpenClaim := { program := "ytcahgmnkphmnhaagreat", sum := "4396823a90ebb557774f1911599c0682ee0e2adb00bf74a15d8ffff0cf326b13", func := "vaultkeel/vaultlaw4.MergeThree", spec := "mergeThree", unfollowed := true, recurses := true, apart := false, narrowed := true }
def MergeThreeUptoSaid : Prop := mergeThreeUptoRow.holds Tryz.pinned (OpenSpec.upto mergeThreeSpec)

end Rows
end Go.Proofs.YtcahgmnkphmnhaaGreat
