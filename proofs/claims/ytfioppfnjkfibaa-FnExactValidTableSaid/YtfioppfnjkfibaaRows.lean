/-
  No cell of these rows narrows 'for every input' (looked for: loops, veiled, ifaces, maps, wideKeys, modest, calm, conditions, laid).
  DERIVED. THE GIVEN ROWS OF THIS SEAT. 7 by the template 'for every input the law returns true; each argument reads behind the call as it read before'; 0 by the template 'total and deterministic' (their statements: YtfioppfnjkfibaaTotals.lean).
  GIVEN WITH THE SEED: the statements are not yours to turn. If you find one false, say at which input.
  Laid BY PROGRAM, IN A SANDBOX (cutbox-rows.mjs): the forced cells as the released guide's own fill.sh prints them over the translation bce7468e33c33a22… (all of the seat's roots in one cut). By AI agents, Wed Nov 11 2026. No macro, syntax, notation, axiom, sorry.
-/
import Derived.Test.YtfioppfnjkfibaaChecked
import GoSem.Claim
import GoSem.ClaimJoined
import GoSem.ClaimMapViews
import Derived.JoinedTies
import Derived.KernelRfl
namespace Go.Proofs.Ytfioppfnjkfibaa
/- THE CELL 'sum', in the pinned program and in every row, IS THE sha256 OF THE DUMP (.gsa) THAT YtfioppfnjkfibaaProg.lean LOADS. Nothing in Lean hashes anything: it is a label: what it is worth is what the hold of that sum in a sandbox is worth. -/
noncomputable def Try.pinned : Pinned := { name := "ytfioppfnjkfibaa", sum := "bce7468e33c33a223edfd0982aa66b35e83a5077017e8835b3d737f04135e9f6", checked := Try.checked }
namespace Rows
def none {H : Type} : Left H := { results := [], args := [] }

/-- 'laws.FnExactValidTable': WHATEVER THE INPUT: true; the input reads as it did. -/
def fnExactValidTableSpec : ChangeSpec := { name := "fnExactValidTable", fn := fun _ => fun
  | [d] => { results := [.lit (.bool true)], args := [d] }
  | _ => none }
def fnExactValidTableRow : OpenClaim := { program := "ytfioppfnjkfibaa", sum := "bce7468e33c33a223edfd0982aa66b35e83a5077017e8835b3d737f04135e9f6", func := "loop.example/collabdoc/laws.FnExactValidTable", spec := "fnExactValidTable", plainKeys := false, apart := false }
def FnExactValidTableSaid : Prop := fnExactValidTableRow.holds Try.pinned (OpenSpec.ofChange fnExactValidTableSpec)

/-- ITS FALSE NEIGHBOUR: 'it returns false'. Refute it at one input. -/
def fnExactValidTableWrong : ChangeSpec := { name := "fnExactValidTable", fn := fun _ => fun
  | [d] => { results := [.lit (.bool false)], args := [d] }
  | _ => none }
def FnExactValidTableWrongFalsely : Prop := fnExactValidTableRow.holds Try.pinned (OpenSpec.ofChange fnExactValidTableWrong)

/-- 'laws.FnExactTransposeTable': WHATEVER THE INPUT: true; the input reads as it did. -/
def fnExactTransposeTableSpec : ChangeSpec := { name := "fnExactTransposeTable", fn := fun _ => fun
  | [d] => { results := [.lit (.bool true)], args := [d] }
  | _ => none }
def fnExactTransposeTableRow : OpenClaim := { program := "ytfioppfnjkfibaa", sum := "bce7468e33c33a223edfd0982aa66b35e83a5077017e8835b3d737f04135e9f6", func := "loop.example/collabdoc/laws.FnExactTransposeTable", spec := "fnExactTransposeTable", plainKeys := false, apart := false }
def FnExactTransposeTableSaid : Prop := fnExactTransposeTableRow.holds Try.pinned (OpenSpec.ofChange fnExactTransposeTableSpec)

/-- ITS FALSE NEIGHBOUR: 'it returns false'. Refute it at one input. -/
def fnExactTransposeTableWrong : ChangeSpec := { name := "fnExactTransposeTable", fn := fun _ => fun
  | [d] => { results := [.lit (.bool false)], args := [d] }
  | _ => none }
def FnExactTransposeTableWrongFalsely : Prop := fnExactTransposeTableRow.holds Try.pinned (OpenSpec.ofChange fnExactTransposeTableWrong)

/-- 'laws.FnTableInsert': WHATEVER THE INPUT: true; the input reads as it did. -/
def fnTableInsertSpec : ChangeSpec := { name := "fnTableInsert", fn := fun _ => fun
  | [d] => { results := [.lit (.bool true)], args := [d] }
  | _ => none }
def fnTableInsertRow : OpenClaim := { program := "ytfioppfnjkfibaa", sum := "bce7468e33c33a223edfd0982aa66b35e83a5077017e8835b3d737f04135e9f6", func := "loop.example/collabdoc/laws.FnTableInsert", spec := "fnTableInsert", inPlace := ["slices.overlaps[loop.example/collabdoc/impl.TableOp]"], plainKeys := false, apart := false }
def FnTableInsertSaid : Prop := fnTableInsertRow.holds Try.pinned (OpenSpec.ofChange fnTableInsertSpec)

/-- ITS FALSE NEIGHBOUR: 'it returns false'. Refute it at one input. -/
def fnTableInsertWrong : ChangeSpec := { name := "fnTableInsert", fn := fun _ => fun
  | [d] => { results := [.lit (.bool false)], args := [d] }
  | _ => none }
def FnTableInsertWrongFalsely : Prop := fnTableInsertRow.holds Try.pinned (OpenSpec.ofChange fnTableInsertWrong)

/-- 'laws.FnTransposeTable': WHATEVER THE INPUT: true; the input reads as it did. -/
def fnTransposeTableSpec : ChangeSpec := { name := "fnTransposeTable", fn := fun _ => fun
  | [d] => { results := [.lit (.bool true)], args := [d] }
  | _ => none }
def fnTransposeTableRow : OpenClaim := { program := "ytfioppfnjkfibaa", sum := "bce7468e33c33a223edfd0982aa66b35e83a5077017e8835b3d737f04135e9f6", func := "loop.example/collabdoc/laws.FnTransposeTable", spec := "fnTransposeTable", inPlace := ["slices.overlaps[loop.example/collabdoc/impl.Stamp]"], plainKeys := false, apart := false }
def FnTransposeTableSaid : Prop := fnTransposeTableRow.holds Try.pinned (OpenSpec.ofChange fnTransposeTableSpec)

/-- ITS FALSE NEIGHBOUR: 'it returns false'. Refute it at one input. -/
def fnTransposeTableWrong : ChangeSpec := { name := "fnTransposeTable", fn := fun _ => fun
  | [d] => { results := [.lit (.bool false)], args := [d] }
  | _ => none }
def FnTransposeTableWrongFalsely : Prop := fnTransposeTableRow.holds Try.pinned (OpenSpec.ofChange fnTransposeTableWrong)

/-- 'laws.FnExactTableInsert': WHATEVER THE INPUT: true; the input reads as it did. -/
def fnExactTableInsertSpec : ChangeSpec := { name := "fnExactTableInsert", fn := fun _ => fun
  | [d1, d2] => { results := [.lit (.bool true)], args := [d1, d2] }
  | _ => none }
def fnExactTableInsertRow : OpenClaim := { program := "ytfioppfnjkfibaa", sum := "bce7468e33c33a223edfd0982aa66b35e83a5077017e8835b3d737f04135e9f6", func := "loop.example/collabdoc/laws.FnExactTableInsert", spec := "fnExactTableInsert", inPlace := ["slices.overlaps[loop.example/collabdoc/impl.TableOp]"], plainKeys := false, apart := false }
def FnExactTableInsertSaid : Prop := fnExactTableInsertRow.holds Try.pinned (OpenSpec.ofChange fnExactTableInsertSpec)

/-- ITS FALSE NEIGHBOUR: 'it returns false'. Refute it at one input. -/
def fnExactTableInsertWrong : ChangeSpec := { name := "fnExactTableInsert", fn := fun _ => fun
  | [d1, d2] => { results := [.lit (.bool false)], args := [d1, d2] }
  | _ => none }
def FnExactTableInsertWrongFalsely : Prop := fnExactTableInsertRow.holds Try.pinned (OpenSpec.ofChange fnExactTableInsertWrong)

/-- 'laws.FnRenderTable': WHATEVER THE INPUT: true; the input reads as it did. -/
def fnRenderTableSpec : ChangeSpec := { name := "fnRenderTable", fn := fun _ => fun
  | [d] => { results := [.lit (.bool true)], args := [d] }
  | _ => none }
def fnRenderTableRow : OpenClaim := { program := "ytfioppfnjkfibaa", sum := "bce7468e33c33a223edfd0982aa66b35e83a5077017e8835b3d737f04135e9f6", func := "loop.example/collabdoc/laws.FnRenderTable", spec := "fnRenderTable", inPlace := ["slices.overlaps[loop.example/collabdoc/impl.Stamp]"], plainKeys := false, apart := false }
def FnRenderTableSaid : Prop := fnRenderTableRow.holds Try.pinned (OpenSpec.ofChange fnRenderTableSpec)

/-- ITS FALSE NEIGHBOUR: 'it returns false'. Refute it at one input. -/
def fnRenderTableWrong : ChangeSpec := { name := "fnRenderTable", fn := fun _ => fun
  | [d] => { results := [.lit (.bool false)], args := [d] }
  | _ => none }
def FnRenderTableWrongFalsely : Prop := fnRenderTableRow.holds Try.pinned (OpenSpec.ofChange fnRenderTableWrong)

/-- 'laws.FnExactRenderTable': WHATEVER THE INPUT: true; the input reads as it did. -/
def fnExactRenderTableSpec : ChangeSpec := { name := "fnExactRenderTable", fn := fun _ => fun
  | [d] => { results := [.lit (.bool true)], args := [d] }
  | _ => none }
def fnExactRenderTableRow : OpenClaim := { program := "ytfioppfnjkfibaa", sum := "bce7468e33c33a223edfd0982aa66b35e83a5077017e8835b3d737f04135e9f6", func := "loop.example/collabdoc/laws.FnExactRenderTable", spec := "fnExactRenderTable", inPlace := ["slices.overlaps[loop.example/collabdoc/impl.Stamp]"], plainKeys := false, apart := false }
def FnExactRenderTableSaid : Prop := fnExactRenderTableRow.holds Try.pinned (OpenSpec.ofChange fnExactRenderTableSpec)

/-- ITS FALSE NEIGHBOUR: 'it returns false'. Refute it at one input. -/
def fnExactRenderTableWrong : ChangeSpec := { name := "fnExactRenderTable", fn := fun _ => fun
  | [d] => { results := [.lit (.bool false)], args := [d] }
  | _ => none }
def FnExactRenderTableWrongFalsely : Prop := fnExactRenderTableRow.holds Try.pinned (OpenSpec.ofChange fnExactRenderTableWrong)

/- THE SECOND FORM. 'bulk': how many values and letters a reading holds, each counted each time it is reached (what is shared counts as often as it is met; a slice's spare places count too). A statement '..UptoSaid' is the law's where the arguments, and the package variables that the reading takes, are together of bulk at most 1048576: NARROWER than '..Said'. Prove '..Said' where nothing that the law and all that it calls make is longer than what came in: it says more and counts as full. Else prove '..UptoSaid'. A law counts once. -/
mutual
def uptoBulk {H : Type} : DataW H → Nat
  | .lit (.string bytes) => bytes.length + 1
  | .lit _ => 1
  | .nil => 1
  | .ptr d => uptoBulk d + 1
  | .slice elems spare => uptoBulkAll elems + uptoBulkAll spare + 1
  | .agg parts => uptoBulkAll parts + 1
  | .iface _ d => uptoBulk d + 1
  | .map entries => uptoBulkEntries entries + 1
  | .held _ => 1
def uptoBulkAll {H : Type} : List (DataW H) → Nat
  | [] => 0
  | d :: r => uptoBulk d + uptoBulkAll r
def uptoBulkEntries {H : Type} : List (Lit × DataW H) → Nat
  | [] => 0
  | x :: r => uptoBulkEntry x + uptoBulkEntries r
def uptoBulkEntry {H : Type} : Lit × DataW H → Nat
  | (.string bytes, d) => bytes.length + uptoBulk d + 1
  | (_, d) => uptoBulk d + 1
 end
def uptoSmall : (H : Type) → List (DataW H) → Bool := fun _ ds => decide (uptoBulkAll ds ≤ 1048576)
def OpenSpec.upto (s : _root_.Go.ChangeSpec) : _root_.Go.OpenSpec := { _root_.Go.OpenSpec.ofChange s with cond := some uptoSmall }

/-- 'laws.FnExactValidTable', WHERE WHAT IT READS IS OF BULK AT MOST 1048576: true; the input reads as it did. -/
def fnExactValidTableUptoRow : OpenClaim := { program := "ytfioppfnjkfibaa", sum := "bce7468e33c33a223edfd0982aa66b35e83a5077017e8835b3d737f04135e9f6", func := "loop.example/collabdoc/laws.FnExactValidTable", spec := "fnExactValidTable", plainKeys := false, apart := false, narrowed := true }
def FnExactValidTableUptoSaid : Prop := fnExactValidTableUptoRow.holds Try.pinned (OpenSpec.upto fnExactValidTableSpec)

/-- 'laws.FnExactTransposeTable', WHERE WHAT IT READS IS OF BULK AT MOST 1048576: true; the input reads as it did. -/
def fnExactTransposeTableUptoRow : OpenClaim := { program := "ytfioppfnjkfibaa", sum := "bce7468e33c33a223edfd0982aa66b35e83a5077017e8835b3d737f04135e9f6", func := "loop.example/collabdoc/laws.FnExactTransposeTable", spec := "fnExactTransposeTable", plainKeys := false, apart := false, narrowed := true }
def FnExactTransposeTableUptoSaid : Prop := fnExactTransposeTableUptoRow.holds Try.pinned (OpenSpec.upto fnExactTransposeTableSpec)

/-- 'laws.FnTableInsert', WHERE WHAT IT READS IS OF BULK AT MOST 1048576: true; the input reads as it did. -/
def fnTableInsertUptoRow : OpenClaim := { program := "ytfioppfnjkfibaa", sum := "bce7468e33c33a223edfd0982aa66b35e83a5077017e8835b3d737f04135e9f6", func := "loop.example/collabdoc/laws.FnTableInsert", spec := "fnTableInsert", inPlace := ["slices.overlaps[loop.example/collabdoc/impl.TableOp]"], plainKeys := false, apart := false, narrowed := true }
def FnTableInsertUptoSaid : Prop := fnTableInsertUptoRow.holds Try.pinned (OpenSpec.upto fnTableInsertSpec)

/-- 'laws.FnTransposeTable', WHERE WHAT IT READS IS OF BULK AT MOST 1048576: true; the input reads as it did. -/
def fnTransposeTableUptoRow : OpenClaim := { program := "ytfioppfnjkfibaa", sum := "bce7468e33c33a223edfd0982aa66b35e83a5077017e8835b3d737f04135e9f6", func := "loop.example/collabdoc/laws.FnTransposeTable", spec := "fnTransposeTable", inPlace := ["slices.overlaps[loop.example/collabdoc/impl.Stamp]"], plainKeys := false, apart := false, narrowed := true }
def FnTransposeTableUptoSaid : Prop := fnTransposeTableUptoRow.holds Try.pinned (OpenSpec.upto fnTransposeTableSpec)

/-- 'laws.FnExactTableInsert', WHERE WHAT IT READS IS OF BULK AT MOST 1048576: true; the input reads as it did. -/
def fnExactTableInsertUptoRow : OpenClaim := { program := "ytfioppfnjkfibaa", sum := "bce7468e33c33a223edfd0982aa66b35e83a5077017e8835b3d737f04135e9f6", func := "loop.example/collabdoc/laws.FnExactTableInsert", spec := "fnExactTableInsert", inPlace := ["slices.overlaps[loop.example/collabdoc/impl.TableOp]"], plainKeys := false, apart := false, narrowed := true }
def FnExactTableInsertUptoSaid : Prop := fnExactTableInsertUptoRow.holds Try.pinned (OpenSpec.upto fnExactTableInsertSpec)

/-- 'laws.FnRenderTable', WHERE WHAT IT READS IS OF BULK AT MOST 1048576: true; the input reads as it did. -/
def fnRenderTableUptoRow : OpenClaim := { program := "ytfioppfnjkfibaa", sum := "bce7468e33c33a223edfd0982aa66b35e83a5077017e8835b3d737f04135e9f6", func := "loop.example/collabdoc/laws.FnRenderTable", spec := "fnRenderTable", inPlace := ["slices.overlaps[loop.example/collabdoc/impl.Stamp]"], plainKeys := false, apart := false, narrowed := true }
def FnRenderTableUptoSaid : Prop := fnRenderTableUptoRow.holds Try.pinned (OpenSpec.upto fnRenderTableSpec)

/-- 'laws.FnExactRenderTable', WHERE WHAT IT READS IS OF BULK AT MOST 1048576: true; the input reads as it did. -/
def fnExactRenderTableUptoRow : OpenClaim := { program := "ytfioppfnjkfibaa", sum := "bce7468e33c33a223edfd0982aa66b35e83a5077017e8835b3d737f04135e9f6", func := "loop.example/collabdoc/laws.FnExactRenderTable", spec := "fnExactRenderTable", inPlace := ["slices.overlaps[loop.example/collabdoc/impl.Stamp]"], plainKeys := false, apart := false, narrowed := true }
def FnExactRenderTableUptoSaid : Prop := fnExactRenderTableUptoRow.holds Try.pinned (OpenSpec.upto fnExactRenderTableSpec)

end Rows
end Go.Proofs.Ytfioppfnjkfibaa
