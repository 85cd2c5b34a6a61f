/-
  No cell of these rows narrows 'for every input' (looked for: loops, veiled, ifaces, maps, wideKeys, modest, calm, conditions, laid).
  DERIVED. THE GIVEN ROWS OF THIS SEAT. 10 by the template 'for every input the law returns true; each argument reads behind the call as it read before'; 0 by the template 'total and deterministic' (their statements: YtfbjnipamfbgmaaTotals.lean).
  GIVEN WITH THE SEED: the statements are not yours to turn. If you find one false, say at which input.
  Laid BY PROGRAM, IN A SANDBOX (cutbox-rows.mjs): the forced cells as the released guide's own fill.sh prints them over the translation 232b4a327ef67a65… (all of the seat's roots in one cut). By AI agents, Wed Nov 11 2026. No macro, syntax, notation, axiom, sorry.
-/
import Derived.Test.YtfbjnipamfbgmaaChecked
import GoSem.Claim
import GoSem.ClaimJoined
import GoSem.ClaimMapViews
import Derived.JoinedTies
import Derived.KernelRfl
namespace Go.Proofs.Ytfbjnipamfbgmaa
/- THE CELL 'sum', in the pinned program and in every row, IS THE sha256 OF THE DUMP (.gsa) THAT YtfbjnipamfbgmaaProg.lean LOADS. Nothing in Lean hashes anything: it is a label: what it is worth is what the hold of that sum in a sandbox is worth. -/
noncomputable def Try.pinned : Pinned := { name := "ytfbjnipamfbgmaa", sum := "232b4a327ef67a65f25c0f4f03cfa5ba6e889d35a3dce86ac51ed049deecd84e", checked := Try.checked }
namespace Rows
def none {H : Type} : Left H := { results := [], args := [] }

/-- 'laws.FnExactUndoTarget': WHATEVER THE INPUT: true; the input reads as it did. -/
def fnExactUndoTargetSpec : ChangeSpec := { name := "fnExactUndoTarget", fn := fun _ => fun
  | [d1, d2] => { results := [.lit (.bool true)], args := [d1, d2] }
  | _ => none }
def fnExactUndoTargetRow : OpenClaim := { program := "ytfbjnipamfbgmaa", sum := "232b4a327ef67a65f25c0f4f03cfa5ba6e889d35a3dce86ac51ed049deecd84e", func := "loop.example/collabdoc/laws.FnExactUndoTarget", spec := "fnExactUndoTarget", unfollowed := true, recurses := true, apart := false }
def FnExactUndoTargetSaid : Prop := fnExactUndoTargetRow.holds Try.pinned (OpenSpec.ofChange fnExactUndoTargetSpec)

/-- ITS FALSE NEIGHBOUR: 'it returns false'. Refute it at one input. -/
def fnExactUndoTargetWrong : ChangeSpec := { name := "fnExactUndoTarget", fn := fun _ => fun
  | [d1, d2] => { results := [.lit (.bool false)], args := [d1, d2] }
  | _ => none }
def FnExactUndoTargetWrongFalsely : Prop := fnExactUndoTargetRow.holds Try.pinned (OpenSpec.ofChange fnExactUndoTargetWrong)

/-- 'laws.FnExactMakeUndo': WHATEVER THE INPUT: true; the input reads as it did. -/
def fnExactMakeUndoSpec : ChangeSpec := { name := "fnExactMakeUndo", fn := fun _ => fun
  | [d1, d2, d3] => { results := [.lit (.bool true)], args := [d1, d2, d3] }
  | _ => none }
def fnExactMakeUndoRow : OpenClaim := { program := "ytfbjnipamfbgmaa", sum := "232b4a327ef67a65f25c0f4f03cfa5ba6e889d35a3dce86ac51ed049deecd84e", func := "loop.example/collabdoc/laws.FnExactMakeUndo", spec := "fnExactMakeUndo", unfollowed := true, recurses := true, apart := false }
def FnExactMakeUndoSaid : Prop := fnExactMakeUndoRow.holds Try.pinned (OpenSpec.ofChange fnExactMakeUndoSpec)

/-- ITS FALSE NEIGHBOUR: 'it returns false'. Refute it at one input. -/
def fnExactMakeUndoWrong : ChangeSpec := { name := "fnExactMakeUndo", fn := fun _ => fun
  | [d1, d2, d3] => { results := [.lit (.bool false)], args := [d1, d2, d3] }
  | _ => none }
def FnExactMakeUndoWrongFalsely : Prop := fnExactMakeUndoRow.holds Try.pinned (OpenSpec.ofChange fnExactMakeUndoWrong)

/-- 'laws.FnExactValidReplica': WHATEVER THE INPUT: true; the input reads as it did. -/
def fnExactValidReplicaSpec : ChangeSpec := { name := "fnExactValidReplica", fn := fun _ => fun
  | [d] => { results := [.lit (.bool true)], args := [d] }
  | _ => none }
def fnExactValidReplicaRow : OpenClaim := { program := "ytfbjnipamfbgmaa", sum := "232b4a327ef67a65f25c0f4f03cfa5ba6e889d35a3dce86ac51ed049deecd84e", func := "loop.example/collabdoc/laws.FnExactValidReplica", spec := "fnExactValidReplica", unfollowed := true, recurses := true, apart := false }
def FnExactValidReplicaSaid : Prop := fnExactValidReplicaRow.holds Try.pinned (OpenSpec.ofChange fnExactValidReplicaSpec)

/-- ITS FALSE NEIGHBOUR: 'it returns false'. Refute it at one input. -/
def fnExactValidReplicaWrong : ChangeSpec := { name := "fnExactValidReplica", fn := fun _ => fun
  | [d] => { results := [.lit (.bool false)], args := [d] }
  | _ => none }
def FnExactValidReplicaWrongFalsely : Prop := fnExactValidReplicaRow.holds Try.pinned (OpenSpec.ofChange fnExactValidReplicaWrong)

/-- 'laws.FnExactLogWithout': WHATEVER THE INPUT: true; the input reads as it did. -/
def fnExactLogWithoutSpec : ChangeSpec := { name := "fnExactLogWithout", fn := fun _ => fun
  | [d1, d2] => { results := [.lit (.bool true)], args := [d1, d2] }
  | _ => none }
def fnExactLogWithoutRow : OpenClaim := { program := "ytfbjnipamfbgmaa", sum := "232b4a327ef67a65f25c0f4f03cfa5ba6e889d35a3dce86ac51ed049deecd84e", func := "loop.example/collabdoc/laws.FnExactLogWithout", spec := "fnExactLogWithout", unfollowed := true, recurses := true, apart := false }
def FnExactLogWithoutSaid : Prop := fnExactLogWithoutRow.holds Try.pinned (OpenSpec.ofChange fnExactLogWithoutSpec)

/-- ITS FALSE NEIGHBOUR: 'it returns false'. Refute it at one input. -/
def fnExactLogWithoutWrong : ChangeSpec := { name := "fnExactLogWithout", fn := fun _ => fun
  | [d1, d2] => { results := [.lit (.bool false)], args := [d1, d2] }
  | _ => none }
def FnExactLogWithoutWrongFalsely : Prop := fnExactLogWithoutRow.holds Try.pinned (OpenSpec.ofChange fnExactLogWithoutWrong)

/-- 'laws.FnExactCompactLog': WHATEVER THE INPUT: true; the input reads as it did. -/
def fnExactCompactLogSpec : ChangeSpec := { name := "fnExactCompactLog", fn := fun _ => fun
  | [d] => { results := [.lit (.bool true)], args := [d] }
  | _ => none }
def fnExactCompactLogRow : OpenClaim := { program := "ytfbjnipamfbgmaa", sum := "232b4a327ef67a65f25c0f4f03cfa5ba6e889d35a3dce86ac51ed049deecd84e", func := "loop.example/collabdoc/laws.FnExactCompactLog", spec := "fnExactCompactLog", unfollowed := true, recurses := true, apart := false }
def FnExactCompactLogSaid : Prop := fnExactCompactLogRow.holds Try.pinned (OpenSpec.ofChange fnExactCompactLogSpec)

/-- ITS FALSE NEIGHBOUR: 'it returns false'. Refute it at one input. -/
def fnExactCompactLogWrong : ChangeSpec := { name := "fnExactCompactLog", fn := fun _ => fun
  | [d] => { results := [.lit (.bool false)], args := [d] }
  | _ => none }
def FnExactCompactLogWrongFalsely : Prop := fnExactCompactLogRow.holds Try.pinned (OpenSpec.ofChange fnExactCompactLogWrong)

/-- 'laws.FnLogWithout': WHATEVER THE INPUT: true; the input reads as it did. -/
def fnLogWithoutSpec : ChangeSpec := { name := "fnLogWithout", fn := fun _ => fun
  | [d] => { results := [.lit (.bool true)], args := [d] }
  | _ => none }
def fnLogWithoutRow : OpenClaim := { program := "ytfbjnipamfbgmaa", sum := "232b4a327ef67a65f25c0f4f03cfa5ba6e889d35a3dce86ac51ed049deecd84e", func := "loop.example/collabdoc/laws.FnLogWithout", spec := "fnLogWithout", unfollowed := true, recurses := true, apart := false }
def FnLogWithoutSaid : Prop := fnLogWithoutRow.holds Try.pinned (OpenSpec.ofChange fnLogWithoutSpec)

/-- ITS FALSE NEIGHBOUR: 'it returns false'. Refute it at one input. -/
def fnLogWithoutWrong : ChangeSpec := { name := "fnLogWithout", fn := fun _ => fun
  | [d] => { results := [.lit (.bool false)], args := [d] }
  | _ => none }
def FnLogWithoutWrongFalsely : Prop := fnLogWithoutRow.holds Try.pinned (OpenSpec.ofChange fnLogWithoutWrong)

/-- 'laws.FnUndoTarget': WHATEVER THE INPUT: true; the input reads as it did. -/
def fnUndoTargetSpec : ChangeSpec := { name := "fnUndoTarget", fn := fun _ => fun
  | [d] => { results := [.lit (.bool true)], args := [d] }
  | _ => none }
def fnUndoTargetRow : OpenClaim := { program := "ytfbjnipamfbgmaa", sum := "232b4a327ef67a65f25c0f4f03cfa5ba6e889d35a3dce86ac51ed049deecd84e", func := "loop.example/collabdoc/laws.FnUndoTarget", spec := "fnUndoTarget", unfollowed := true, recurses := true, apart := false }
def FnUndoTargetSaid : Prop := fnUndoTargetRow.holds Try.pinned (OpenSpec.ofChange fnUndoTargetSpec)

/-- ITS FALSE NEIGHBOUR: 'it returns false'. Refute it at one input. -/
def fnUndoTargetWrong : ChangeSpec := { name := "fnUndoTarget", fn := fun _ => fun
  | [d] => { results := [.lit (.bool false)], args := [d] }
  | _ => none }
def FnUndoTargetWrongFalsely : Prop := fnUndoTargetRow.holds Try.pinned (OpenSpec.ofChange fnUndoTargetWrong)

/-- 'laws.FnExactNewNetwork': WHATEVER THE INPUT: true; the input reads as it did. -/
def fnExactNewNetworkSpec : ChangeSpec := { name := "fnExactNewNetwork", fn := fun _ => fun
  | [] => { results := [.lit (.bool true)], args := [] }
  | _ => none }
def fnExactNewNetworkRow : OpenClaim := { program := "ytfbjnipamfbgmaa", sum := "232b4a327ef67a65f25c0f4f03cfa5ba6e889d35a3dce86ac51ed049deecd84e", func := "loop.example/collabdoc/laws.FnExactNewNetwork", spec := "fnExactNewNetwork", apart := false }
def FnExactNewNetworkSaid : Prop := fnExactNewNetworkRow.holds Try.pinned (OpenSpec.ofChange fnExactNewNetworkSpec)

/-- ITS FALSE NEIGHBOUR: 'it returns false'. Refute it at one input. -/
def fnExactNewNetworkWrong : ChangeSpec := { name := "fnExactNewNetwork", fn := fun _ => fun
  | [] => { results := [.lit (.bool false)], args := [] }
  | _ => none }
def FnExactNewNetworkWrongFalsely : Prop := fnExactNewNetworkRow.holds Try.pinned (OpenSpec.ofChange fnExactNewNetworkWrong)

/-- 'laws.FnExactValidNetwork': WHATEVER THE INPUT: true; the input reads as it did. -/
def fnExactValidNetworkSpec : ChangeSpec := { name := "fnExactValidNetwork", fn := fun _ => fun
  | [d] => { results := [.lit (.bool true)], args := [d] }
  | _ => none }
def fnExactValidNetworkRow : OpenClaim := { program := "ytfbjnipamfbgmaa", sum := "232b4a327ef67a65f25c0f4f03cfa5ba6e889d35a3dce86ac51ed049deecd84e", func := "loop.example/collabdoc/laws.FnExactValidNetwork", spec := "fnExactValidNetwork", unfollowed := true, recurses := true, apart := false }
def FnExactValidNetworkSaid : Prop := fnExactValidNetworkRow.holds Try.pinned (OpenSpec.ofChange fnExactValidNetworkSpec)

/-- ITS FALSE NEIGHBOUR: 'it returns false'. Refute it at one input. -/
def fnExactValidNetworkWrong : ChangeSpec := { name := "fnExactValidNetwork", fn := fun _ => fun
  | [d] => { results := [.lit (.bool false)], args := [d] }
  | _ => none }
def FnExactValidNetworkWrongFalsely : Prop := fnExactValidNetworkRow.holds Try.pinned (OpenSpec.ofChange fnExactValidNetworkWrong)

/-- 'laws.FnExactReplicaMissing': WHATEVER THE INPUT: true; the input reads as it did. -/
def fnExactReplicaMissingSpec : ChangeSpec := { name := "fnExactReplicaMissing", fn := fun _ => fun
  | [d1, d2] => { results := [.lit (.bool true)], args := [d1, d2] }
  | _ => none }
def fnExactReplicaMissingRow : OpenClaim := { program := "ytfbjnipamfbgmaa", sum := "232b4a327ef67a65f25c0f4f03cfa5ba6e889d35a3dce86ac51ed049deecd84e", func := "loop.example/collabdoc/laws.FnExactReplicaMissing", spec := "fnExactReplicaMissing", unfollowed := true, recurses := true, apart := false }
def FnExactReplicaMissingSaid : Prop := fnExactReplicaMissingRow.holds Try.pinned (OpenSpec.ofChange fnExactReplicaMissingSpec)

/-- ITS FALSE NEIGHBOUR: 'it returns false'. Refute it at one input. -/
def fnExactReplicaMissingWrong : ChangeSpec := { name := "fnExactReplicaMissing", fn := fun _ => fun
  | [d1, d2] => { results := [.lit (.bool false)], args := [d1, d2] }
  | _ => none }
def FnExactReplicaMissingWrongFalsely : Prop := fnExactReplicaMissingRow.holds Try.pinned (OpenSpec.ofChange fnExactReplicaMissingWrong)

/- THE SECOND FORM. 'bulk': how many values and letters a reading holds, each counted each time it is reached (what is shared counts as often as it is met; a slice's spare places count too). A statement '..UptoSaid' is the law's where the arguments, and the package variables that the reading takes, are together of bulk at most 1048576: NARROWER than '..Said'. Prove '..Said' where nothing that the law and all that it calls make is longer than what came in: it says more and counts as full. Else prove '..UptoSaid'. A law counts once. -/
mutual
def uptoBulk {H : Type} : DataW H → Nat
  | .lit (.string bytes) => bytes.length + 1
  | .lit _ => 1
  | .nil => 1
  | .ptr d => uptoBulk d + 1
  | .slice elems spare => uptoBulkAll elems + uptoBulkAll spare + 1
  | .agg parts => uptoBulkAll parts + 1
  | .iface _ d => uptoBulk d + 1
  | .map entries => uptoBulkEntries entries + 1
  | .held _ => 1
def uptoBulkAll {H : Type} : List (DataW H) → Nat
  | [] => 0
  | d :: r => uptoBulk d + uptoBulkAll r
def uptoBulkEntries {H : Type} : List (Lit × DataW H) → Nat
  | [] => 0
  | x :: r => uptoBulkEntry x + uptoBulkEntries r
def uptoBulkEntry {H : Type} : Lit × DataW H → Nat
  | (.string bytes, d) => bytes.length + uptoBulk d + 1
  | (_, d) => uptoBulk d + 1
 end
def uptoSmall : (H : Type) → List (DataW H) → Bool := fun _ ds => decide (uptoBulkAll ds ≤ 1048576)
def OpenSpec.upto (s : _root_.Go.ChangeSpec) : _root_.Go.OpenSpec := { _root_.Go.OpenSpec.ofChange s with cond := some uptoSmall }

/-- 'laws.FnExactUndoTarget', WHERE WHAT IT READS IS OF BULK AT MOST 1048576: true; the input reads as it did. -/
def fnExactUndoTargetUptoRow : OpenClaim := { program := "ytfbjnipamfbgmaa", sum := "232b4a327ef67a65f25c0f4f03cfa5ba6e889d35a3dce86ac51ed049deecd84e", func := "loop.example/collabdoc/laws.FnExactUndoTarget", spec := "fnExactUndoTarget", unfollowed := true, recurses := true, apart := false, narrowed := true }
def FnExactUndoTargetUptoSaid : Prop := fnExactUndoTargetUptoRow.holds Try.pinned (OpenSpec.upto fnExactUndoTargetSpec)

/-- 'laws.FnExactMakeUndo', WHERE WHAT IT READS IS OF BULK AT MOST 1048576: true; the input reads as it did. -/
def fnExactMakeUndoUptoRow : OpenClaim := { program := "ytfbjnipamfbgmaa", sum := "232b4a327ef67a65f25c0f4f03cfa5ba6e889d35a3dce86ac51ed049deecd84e", func := "loop.example/collabdoc/laws.FnExactMakeUndo", spec := "fnExactMakeUndo", unfollowed := true, recurses := true, apart := false, narrowed := true }
def FnExactMakeUndoUptoSaid : Prop := fnExactMakeUndoUptoRow.holds Try.pinned (OpenSpec.upto fnExactMakeUndoSpec)

/-- 'laws.FnExactValidReplica', WHERE WHAT IT READS IS OF BULK AT MOST 1048576: true; the input reads as it did. -/
def fnExactValidReplicaUptoRow : OpenClaim := { program := "ytfbjnipamfbgmaa", sum := "232b4a327ef67a65f25c0f4f03cfa5ba6e889d35a3dce86ac51ed049deecd84e", func := "loop.example/collabdoc/laws.FnExactValidReplica", spec := "fnExactValidReplica", unfollowed := true, recurses := true, apart := false, narrowed := true }
def FnExactValidReplicaUptoSaid : Prop := fnExactValidReplicaUptoRow.holds Try.pinned (OpenSpec.upto fnExactValidReplicaSpec)

/-- 'laws.FnExactLogWithout', WHERE WHAT IT READS IS OF BULK AT MOST 1048576: true; the input reads as it did. -/
def fnExactLogWithoutUptoRow : OpenClaim := { program := "ytfbjnipamfbgmaa", sum := "232b4a327ef67a65f25c0f4f03cfa5ba6e889d35a3dce86ac51ed049deecd84e", func := "loop.example/collabdoc/laws.FnExactLogWithout", spec := "fnExactLogWithout", unfollowed := true, recurses := true, apart := false, narrowed := true }
def FnExactLogWithoutUptoSaid : Prop := fnExactLogWithoutUptoRow.holds Try.pinned (OpenSpec.upto fnExactLogWithoutSpec)

/-- 'laws.FnExactCompactLog', WHERE WHAT IT READS IS OF BULK AT MOST 1048576: true; the input reads as it did. -/
def fnExactCompactLogUptoRow : OpenClaim := { program := "ytfbjnipamfbgmaa", sum := "232b4a327ef67a65f25c0f4f03cfa5ba6e889d35a3dce86ac51ed049deecd84e", func := "loop.example/collabdoc/laws.FnExactCompactLog", spec := "fnExactCompactLog", unfollowed := true, recurses := true, apart := false, narrowed := true }
def FnExactCompactLogUptoSaid : Prop := fnExactCompactLogUptoRow.holds Try.pinned (OpenSpec.upto fnExactCompactLogSpec)

/-- 'laws.FnLogWithout', WHERE WHAT IT READS IS OF BULK AT MOST 1048576: true; the input reads as it did. -/
def fnLogWithoutUptoRow : OpenClaim := { program := "ytfbjnipamfbgmaa", sum := "232b4a327ef67a65f25c0f4f03cfa5ba6e889d35a3dce86ac51ed049deecd84e", func := "loop.example/collabdoc/laws.FnLogWithout", spec := "fnLogWithout", unfollowed := true, recurses := true, apart := false, narrowed := true }
def FnLogWithoutUptoSaid : Prop := fnLogWithoutUptoRow.holds Try.pinned (OpenSpec.upto fnLogWithoutSpec)

/-- 'laws.FnUndoTarget', WHERE WHAT IT READS IS OF BULK AT MOST 1048576: true; the input reads as it did. -/
def fnUndoTargetUptoRow : OpenClaim := { program := "ytfbjnipamfbgmaa", sum := "232b4a327ef67a65f25c0f4f03cfa5ba6e889d35a3dce86ac51ed049deecd84e", func := "loop.example/collabdoc/laws.FnUndoTarget", spec := "fnUndoTarget", unfollowed := true, recurses := true, apart := false, narrowed := true }
def FnUndoTargetUptoSaid : Prop := fnUndoTargetUptoRow.holds Try.pinned (OpenSpec.upto fnUndoTargetSpec)

/-- 'laws.FnExactNewNetwork', WHERE WHAT IT READS IS OF BULK AT MOST 1048576: true; the input reads as it did. -/
def fnExactNewNetworkUptoRow : OpenClaim := { program := "ytfbjnipamfbgmaa", sum := "232b4a327ef67a65f25c0f4f03cfa5ba6e889d35a3dce86ac51ed049deecd84e", func := "loop.example/collabdoc/laws.FnExactNewNetwork", spec := "fnExactNewNetwork", apart := false, narrowed := true }
def FnExactNewNetworkUptoSaid : Prop := fnExactNewNetworkUptoRow.holds Try.pinned (OpenSpec.upto fnExactNewNetworkSpec)

/-- 'laws.FnExactValidNetwork', WHERE WHAT IT READS IS OF BULK AT MOST 1048576: true; the input reads as it did. -/
def fnExactValidNetworkUptoRow : OpenClaim := { program := "ytfbjnipamfbgmaa", sum := "232b4a327ef67a65f25c0f4f03cfa5ba6e889d35a3dce86ac51ed049deecd84e", func := "loop.example/collabdoc/laws.FnExactValidNetwork", spec := "fnExactValidNetwork", unfollowed := true, recurses := true, apart := false, narrowed := true }
def FnExactValidNetworkUptoSaid : Prop := fnExactValidNetworkUptoRow.holds Try.pinned (OpenSpec.upto fnExactValidNetworkSpec)

/-- 'laws.FnExactReplicaMissing', WHERE WHAT IT READS IS OF BULK AT MOST 1048576: true; the input reads as it did. -/
def fnExactReplicaMissingUptoRow : OpenClaim := { program := "ytfbjnipamfbgmaa", sum := "232b4a327ef67a65f25c0f4f03cfa5ba6e889d35a3dce86ac51ed049deecd84e", func := "loop.example/collabdoc/laws.FnExactReplicaMissing", spec := "fnExactReplicaMissing", unfollowed := true, recurses := true, apart := false, narrowed := true }
def FnExactReplicaMissingUptoSaid : Prop := fnExactReplicaMissingUptoRow.holds Try.pinned (OpenSpec.upto fnExactReplicaMissingSpec)

end Rows
end Go.Proofs.Ytfbjnipamfbgmaa
