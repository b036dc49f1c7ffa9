/-
  No cell of these rows narrows 'for every input' (looked for: loops, veiled, ifaces, maps, wideKeys, modest, calm, conditions, laid).
  DERIVED. THE GIVEN ROWS OF THIS SEAT. 9 by the template 'for every input the law returns true; each argument reads behind the call as it read before'; 0 by the template 'total and deterministic' (their statements: YtcfdgmkckibieaaTotals.lean).
  GIVEN WITH THE SEED: the statements are not yours to turn. If you find one false, say at which input.
  Laid BY PROGRAM, IN A SANDBOX (cutbox-rows.mjs): the forced cells as the released guide's own fill.sh prints them over the translation b8ef1673041e8beb… (all of the seat's roots in one cut). By AI agents, Wed Nov 11 2026. No macro, syntax, notation, axiom, sorry.
-/
import Derived.Test.YtcfdgmkckibieaaChecked
import GoSem.Claim
import GoSem.ClaimJoined
import GoSem.ClaimMapViews
import Derived.JoinedTies
import Derived.KernelRfl
namespace Go.Proofs.Ytcfdgmkckibieaa
/- THE CELL 'sum', in the pinned program and in every row, IS THE sha256 OF THE DUMP (.gsa) THAT YtcfdgmkckibieaaProg.lean LOADS. Nothing in Lean hashes anything: it is a label: what it is worth is what the hold of that sum in a sandbox is worth. -/
noncomputable def Try.pinned : Pinned := { name := "ytcfdgmkckibieaa", sum := "b8ef1673041e8beb6eb63a3977cd5781272865359832156c82efae5439c5f3eb", checked := Try.checked }
namespace Rows
def none {H : Type} : Left H := { results := [], args := [] }

/-- 'cutwaterlaw01.FieldPuts': WHATEVER THE INPUT: true; the input reads as it did. -/
def fieldPutsSpec : ChangeSpec := { name := "fieldPuts", fn := fun _ => fun
  | [d1, d2, d3] => { results := [.lit (.bool true)], args := [d1, d2, d3] }
  | _ => none }
def fieldPutsRow : OpenClaim := { program := "ytcfdgmkckibieaa", sum := "b8ef1673041e8beb6eb63a3977cd5781272865359832156c82efae5439c5f3eb", func := "cutwater/cutwaterlaw01.FieldPuts", spec := "fieldPuts", inPlace := ["internal/abi.NoEscape", "internal/bytealg.MakeNoZero"], apart := false }
def FieldPutsSaid : Prop := fieldPutsRow.holds Try.pinned (OpenSpec.ofChange fieldPutsSpec)

/-- ITS FALSE NEIGHBOUR: 'it returns false'. Refute it at one input. -/
def fieldPutsWrong : ChangeSpec := { name := "fieldPuts", fn := fun _ => fun
  | [d1, d2, d3] => { results := [.lit (.bool false)], args := [d1, d2, d3] }
  | _ => none }
def FieldPutsWrongFalsely : Prop := fieldPutsRow.holds Try.pinned (OpenSpec.ofChange fieldPutsWrong)

/-- 'cutwaterlaw01.FieldBetween': WHATEVER THE INPUT: true; the input reads as it did. -/
def fieldBetweenSpec : ChangeSpec := { name := "fieldBetween", fn := fun _ => fun
  | [d1, d2] => { results := [.lit (.bool true)], args := [d1, d2] }
  | _ => none }
def fieldBetweenRow : OpenClaim := { program := "ytcfdgmkckibieaa", sum := "b8ef1673041e8beb6eb63a3977cd5781272865359832156c82efae5439c5f3eb", func := "cutwater/cutwaterlaw01.FieldBetween", spec := "fieldBetween", inPlace := ["internal/abi.NoEscape", "internal/bytealg.MakeNoZero"], apart := false }
def FieldBetweenSaid : Prop := fieldBetweenRow.holds Try.pinned (OpenSpec.ofChange fieldBetweenSpec)

/-- ITS FALSE NEIGHBOUR: 'it returns false'. Refute it at one input. -/
def fieldBetweenWrong : ChangeSpec := { name := "fieldBetween", fn := fun _ => fun
  | [d1, d2] => { results := [.lit (.bool false)], args := [d1, d2] }
  | _ => none }
def FieldBetweenWrongFalsely : Prop := fieldBetweenRow.holds Try.pinned (OpenSpec.ofChange fieldBetweenWrong)

/-- 'cutwaterlaw01.FieldNumbers': WHATEVER THE INPUT: true; the input reads as it did. -/
def fieldNumbersSpec : ChangeSpec := { name := "fieldNumbers", fn := fun _ => fun
  | [d1, d2, d3] => { results := [.lit (.bool true)], args := [d1, d2, d3] }
  | _ => none }
def fieldNumbersRow : OpenClaim := { program := "ytcfdgmkckibieaa", sum := "b8ef1673041e8beb6eb63a3977cd5781272865359832156c82efae5439c5f3eb", func := "cutwater/cutwaterlaw01.FieldNumbers", spec := "fieldNumbers", inPlace := ["internal/abi.NoEscape", "internal/bytealg.MakeNoZero"], apart := false }
def FieldNumbersSaid : Prop := fieldNumbersRow.holds Try.pinned (OpenSpec.ofChange fieldNumbersSpec)

/-- ITS FALSE NEIGHBOUR: 'it returns false'. Refute it at one input. -/
def fieldNumbersWrong : ChangeSpec := { name := "fieldNumbers", fn := fun _ => fun
  | [d1, d2, d3] => { results := [.lit (.bool false)], args := [d1, d2, d3] }
  | _ => none }
def FieldNumbersWrongFalsely : Prop := fieldNumbersRow.holds Try.pinned (OpenSpec.ofChange fieldNumbersWrong)

/-- 'cutwaterlaw01.FieldWide': WHATEVER THE INPUT: true; the input reads as it did. -/
def fieldWideSpec : ChangeSpec := { name := "fieldWide", fn := fun _ => fun
  | [d1, d2] => { results := [.lit (.bool true)], args := [d1, d2] }
  | _ => none }
def fieldWideRow : OpenClaim := { program := "ytcfdgmkckibieaa", sum := "b8ef1673041e8beb6eb63a3977cd5781272865359832156c82efae5439c5f3eb", func := "cutwater/cutwaterlaw01.FieldWide", spec := "fieldWide", inPlace := ["internal/abi.NoEscape", "internal/bytealg.MakeNoZero"], apart := false }
def FieldWideSaid : Prop := fieldWideRow.holds Try.pinned (OpenSpec.ofChange fieldWideSpec)

/-- ITS FALSE NEIGHBOUR: 'it returns false'. Refute it at one input. -/
def fieldWideWrong : ChangeSpec := { name := "fieldWide", fn := fun _ => fun
  | [d1, d2] => { results := [.lit (.bool false)], args := [d1, d2] }
  | _ => none }
def FieldWideWrongFalsely : Prop := fieldWideRow.holds Try.pinned (OpenSpec.ofChange fieldWideWrong)

/-- 'cutwaterlaw01.FieldOver': WHATEVER THE INPUT: true; the input reads as it did. -/
def fieldOverSpec : ChangeSpec := { name := "fieldOver", fn := fun _ => fun
  | [d1, d2, d3] => { results := [.lit (.bool true)], args := [d1, d2, d3] }
  | _ => none }
def fieldOverRow : OpenClaim := { program := "ytcfdgmkckibieaa", sum := "b8ef1673041e8beb6eb63a3977cd5781272865359832156c82efae5439c5f3eb", func := "cutwater/cutwaterlaw01.FieldOver", spec := "fieldOver", inPlace := ["internal/abi.NoEscape", "internal/bytealg.MakeNoZero"], apart := false }
def FieldOverSaid : Prop := fieldOverRow.holds Try.pinned (OpenSpec.ofChange fieldOverSpec)

/-- ITS FALSE NEIGHBOUR: 'it returns false'. Refute it at one input. -/
def fieldOverWrong : ChangeSpec := { name := "fieldOver", fn := fun _ => fun
  | [d1, d2, d3] => { results := [.lit (.bool false)], args := [d1, d2, d3] }
  | _ => none }
def FieldOverWrongFalsely : Prop := fieldOverRow.holds Try.pinned (OpenSpec.ofChange fieldOverWrong)

/-- 'cutwaterlaw01.FieldPatches': WHATEVER THE INPUT: true; the input reads as it did. -/
def fieldPatchesSpec : ChangeSpec := { name := "fieldPatches", fn := fun _ => fun
  | [d1, d2, d3] => { results := [.lit (.bool true)], args := [d1, d2, d3] }
  | _ => none }
def fieldPatchesRow : OpenClaim := { program := "ytcfdgmkckibieaa", sum := "b8ef1673041e8beb6eb63a3977cd5781272865359832156c82efae5439c5f3eb", func := "cutwater/cutwaterlaw01.FieldPatches", spec := "fieldPatches", inPlace := ["internal/abi.NoEscape", "internal/bytealg.MakeNoZero"], apart := false }
def FieldPatchesSaid : Prop := fieldPatchesRow.holds Try.pinned (OpenSpec.ofChange fieldPatchesSpec)

/-- ITS FALSE NEIGHBOUR: 'it returns false'. Refute it at one input. -/
def fieldPatchesWrong : ChangeSpec := { name := "fieldPatches", fn := fun _ => fun
  | [d1, d2, d3] => { results := [.lit (.bool false)], args := [d1, d2, d3] }
  | _ => none }
def FieldPatchesWrongFalsely : Prop := fieldPatchesRow.holds Try.pinned (OpenSpec.ofChange fieldPatchesWrong)

/-- 'cutwaterlaw01.FieldTurns': WHATEVER THE INPUT: true; the input reads as it did. -/
def fieldTurnsSpec : ChangeSpec := { name := "fieldTurns", fn := fun _ => fun
  | [d1, d2, d3] => { results := [.lit (.bool true)], args := [d1, d2, d3] }
  | _ => none }
def fieldTurnsRow : OpenClaim := { program := "ytcfdgmkckibieaa", sum := "b8ef1673041e8beb6eb63a3977cd5781272865359832156c82efae5439c5f3eb", func := "cutwater/cutwaterlaw01.FieldTurns", spec := "fieldTurns", inPlace := ["internal/abi.NoEscape", "internal/bytealg.MakeNoZero"], apart := false }
def FieldTurnsSaid : Prop := fieldTurnsRow.holds Try.pinned (OpenSpec.ofChange fieldTurnsSpec)

/-- ITS FALSE NEIGHBOUR: 'it returns false'. Refute it at one input. -/
def fieldTurnsWrong : ChangeSpec := { name := "fieldTurns", fn := fun _ => fun
  | [d1, d2, d3] => { results := [.lit (.bool false)], args := [d1, d2, d3] }
  | _ => none }
def FieldTurnsWrongFalsely : Prop := fieldTurnsRow.holds Try.pinned (OpenSpec.ofChange fieldTurnsWrong)

/-- 'cutwaterlaw01.FieldDiffs': WHATEVER THE INPUT: true; the input reads as it did. -/
def fieldDiffsSpec : ChangeSpec := { name := "fieldDiffs", fn := fun _ => fun
  | [d1, d2] => { results := [.lit (.bool true)], args := [d1, d2] }
  | _ => none }
def fieldDiffsRow : OpenClaim := { program := "ytcfdgmkckibieaa", sum := "b8ef1673041e8beb6eb63a3977cd5781272865359832156c82efae5439c5f3eb", func := "cutwater/cutwaterlaw01.FieldDiffs", spec := "fieldDiffs", inPlace := ["internal/abi.NoEscape", "internal/bytealg.MakeNoZero"], apart := false }
def FieldDiffsSaid : Prop := fieldDiffsRow.holds Try.pinned (OpenSpec.ofChange fieldDiffsSpec)

/-- ITS FALSE NEIGHBOUR: 'it returns false'. Refute it at one input. -/
def fieldDiffsWrong : ChangeSpec := { name := "fieldDiffs", fn := fun _ => fun
  | [d1, d2] => { results := [.lit (.bool false)], args := [d1, d2] }
  | _ => none }
def FieldDiffsWrongFalsely : Prop := fieldDiffsRow.holds Try.pinned (OpenSpec.ofChange fieldDiffsWrong)

/-- 'cutwaterlaw01.FieldBack': WHATEVER THE INPUT: true; the input reads as it did. -/
def fieldBackSpec : ChangeSpec := { name := "fieldBack", fn := fun _ => fun
  | [d1, d2, d3] => { results := [.lit (.bool true)], args := [d1, d2, d3] }
  | _ => none }
def fieldBackRow : OpenClaim := { program := "ytcfdgmkckibieaa", sum := "b8ef1673041e8beb6eb63a3977cd5781272865359832156c82efae5439c5f3eb", func := "cutwater/cutwaterlaw01.FieldBack", spec := "fieldBack", inPlace := ["internal/abi.NoEscape", "internal/bytealg.MakeNoZero"], apart := false }
def FieldBackSaid : Prop := fieldBackRow.holds Try.pinned (OpenSpec.ofChange fieldBackSpec)

/-- ITS FALSE NEIGHBOUR: 'it returns false'. Refute it at one input. -/
def fieldBackWrong : ChangeSpec := { name := "fieldBack", fn := fun _ => fun
  | [d1, d2, d3] => { results := [.lit (.bool false)], args := [d1, d2, d3] }
  | _ => none }
def FieldBackWrongFalsely : Prop := fieldBackRow.holds Try.pinned (OpenSpec.ofChange fieldBackWrong)

/- THE SECOND FORM. 'bulk': how many values and letters a reading holds, each counted each time it is reached (what is shared counts as often as it is met; a slice's spare places count too). A statement '..UptoSaid' is the law's where the arguments, and the package variables that the reading takes, are together of bulk at most 1048576: NARROWER than '..Said'. Prove '..Said' where nothing that the law and all that it calls make is longer than what came in: it says more and counts as full. Else prove '..UptoSaid'. A law counts once. -/
mutual
def uptoBulk {H : Type} : DataW H → Nat
  | .lit (.string bytes) => bytes.length + 1
  | .lit _ => 1
  | .nil => 1
  | .ptr d => uptoBulk d + 1
  | .slice elems spare => uptoBulkAll elems + uptoBulkAll spare + 1
  | .agg parts => uptoBulkAll parts + 1
  | .iface _ d => uptoBulk d + 1
  | .map entries => uptoBulkEntries entries + 1
  | .held _ => 1
def uptoBulkAll {H : Type} : List (DataW H) → Nat
  | [] => 0
  | d :: r => uptoBulk d + uptoBulkAll r
def uptoBulkEntries {H : Type} : List (Lit × DataW H) → Nat
  | [] => 0
  | x :: r => uptoBulkEntry x + uptoBulkEntries r
def uptoBulkEntry {H : Type} : Lit × DataW H → Nat
  | (.string bytes, d) => bytes.length + uptoBulk d + 1
  | (_, d) => uptoBulk d + 1
 end
def uptoSmall : (H : Type) → List (DataW H) → Bool := fun _ ds => decide (uptoBulkAll ds ≤ 1048576)
def OpenSpec.upto (s : _root_.Go.ChangeSpec) : _root_.Go.OpenSpec := { _root_.Go.OpenSpec.ofChange s with cond := some uptoSmall }

/-- 'cutwaterlaw01.FieldPuts', WHERE WHAT IT READS IS OF BULK AT MOST 1048576: true; the input reads as it did. -/
def fieldPutsUptoRow : OpenClaim := { program := "ytcfdgmkckibieaa", sum := "b8ef1673041e8beb6eb63a3977cd5781272865359832156c82efae5439c5f3eb", func := "cutwater/cutwaterlaw01.FieldPuts", spec := "fieldPuts", inPlace := ["internal/abi.NoEscape", "internal/bytealg.MakeNoZero"], apart := false, narrowed := true }
def FieldPutsUptoSaid : Prop := fieldPutsUptoRow.holds Try.pinned (OpenSpec.upto fieldPutsSpec)

/-- 'cutwaterlaw01.FieldBetween', WHERE WHAT IT READS IS OF BULK AT MOST 1048576: true; the input reads as it did. -/
def fieldBetweenUptoRow : OpenClaim := { program := "ytcfdgmkckibieaa", sum := "b8ef1673041e8beb6eb63a3977cd5781272865359832156c82efae5439c5f3eb", func := "cutwater/cutwaterlaw01.FieldBetween", spec := "fieldBetween", inPlace := ["internal/abi.NoEscape", "internal/bytealg.MakeNoZero"], apart := false, narrowed := true }
def FieldBetweenUptoSaid : Prop := fieldBetweenUptoRow.holds Try.pinned (OpenSpec.upto fieldBetweenSpec)

/-- 'cutwaterlaw01.FieldNumbers', WHERE WHAT IT READS IS OF BULK AT MOST 1048576: true; the input reads as it did. -/
def fieldNumbersUptoRow : OpenClaim := { program := "ytcfdgmkckibieaa", sum := "b8ef1673041e8beb6eb63a3977cd5781272865359832156c82efae5439c5f3eb", func := "cutwater/cutwaterlaw01.FieldNumbers", spec := "fieldNumbers", inPlace := ["internal/abi.NoEscape", "internal/bytealg.MakeNoZero"], apart := false, narrowed := true }
def FieldNumbersUptoSaid : Prop := fieldNumbersUptoRow.holds Try.pinned (OpenSpec.upto fieldNumbersSpec)

/-- 'cutwaterlaw01.FieldWide', WHERE WHAT IT READS IS OF BULK AT MOST 1048576: true; the input reads as it did. -/
def fieldWideUptoRow : OpenClaim := { program := "ytcfdgmkckibieaa", sum := "b8ef1673041e8beb6eb63a3977cd5781272865359832156c82efae5439c5f3eb", func := "cutwater/cutwaterlaw01.FieldWide", spec := "fieldWide", inPlace := ["internal/abi.NoEscape", "internal/bytealg.MakeNoZero"], apart := false, narrowed := true }
def FieldWideUptoSaid : Prop := fieldWideUptoRow.holds Try.pinned (OpenSpec.upto fieldWideSpec)

/-- 'cutwaterlaw01.FieldOver', WHERE WHAT IT READS IS OF BULK AT MOST 1048576: true; the input reads as it did. -/
def fieldOverUptoRow : OpenClaim := { program := "ytcfdgmkckibieaa", sum := "b8ef1673041e8beb6eb63a3977cd5781272865359832156c82efae5439c5f3eb", func := "cutwater/cutwaterlaw01.FieldOver", spec := "fieldOver", inPlace := ["internal/abi.NoEscape", "internal/bytealg.MakeNoZero"], apart := false, narrowed := true }
def FieldOverUptoSaid : Prop := fieldOverUptoRow.holds Try.pinned (OpenSpec.upto fieldOverSpec)

/-- 'cutwaterlaw01.FieldPatches', WHERE WHAT IT READS IS OF BULK AT MOST 1048576: true; the input reads as it did. -/
def fieldPatchesUptoRow : OpenClaim := { program := "ytcfdgmkckibieaa", sum := "b8ef1673041e8beb6eb63a3977cd5781272865359832156c82efae5439c5f3eb", func := "cutwater/cutwaterlaw01.FieldPatches", spec := "fieldPatches", inPlace := ["internal/abi.NoEscape", "internal/bytealg.MakeNoZero"], apart := false, narrowed := true }
def FieldPatchesUptoSaid : Prop := fieldPatchesUptoRow.holds Try.pinned (OpenSpec.upto fieldPatchesSpec)

/-- 'cutwaterlaw01.FieldTurns', WHERE WHAT IT READS IS OF BULK AT MOST 1048576: true; the input reads as it did. -/
def fieldTurnsUptoRow : OpenClaim := { program := "ytcfdgmkckibieaa", sum := "b8ef1673041e8beb6eb63a3977cd5781272865359832156c82efae5439c5f3eb", func := "cutwater/cutwaterlaw01.FieldTurns", spec := "fieldTurns", inPlace := ["internal/abi.NoEscape", "internal/bytealg.MakeNoZero"], apart := false, narrowed := true }
def FieldTurnsUptoSaid : Prop := fieldTurnsUptoRow.holds Try.pinned (OpenSpec.upto fieldTurnsSpec)

/-- 'cutwaterlaw01.FieldDiffs', WHERE WHAT IT READS IS OF BULK AT MOST 1048576: true; the input reads as it did. -/
def fieldDiffsUptoRow : OpenClaim := { program := "ytcfdgmkckibieaa", sum := "b8ef1673041e8beb6eb63a3977cd5781272865359832156c82efae5439c5f3eb", func := "cutwater/cutwaterlaw01.FieldDiffs", spec := "fieldDiffs", inPlace := ["internal/abi.NoEscape", "internal/bytealg.MakeNoZero"], apart := false, narrowed := true }
def FieldDiffsUptoSaid : Prop := fieldDiffsUptoRow.holds Try.pinned (OpenSpec.upto fieldDiffsSpec)

/-- 'cutwaterlaw01.FieldBack', WHERE WHAT IT READS IS OF BULK AT MOST 1048576: true; the input reads as it did. -/
def fieldBackUptoRow : OpenClaim := { program := "ytcfdgmkckibieaa", sum := "b8ef1673041e8beb6eb63a3977cd5781272865359832156c82efae5439c5f3eb", func := "cutwater/cutwaterlaw01.FieldBack", spec := "fieldBack", inPlace := ["internal/abi.NoEscape", "internal/bytealg.MakeNoZero"], apart := false, narrowed := true }
def FieldBackUptoSaid : Prop := fieldBackUptoRow.holds Try.pinned (OpenSpec.upto fieldBackSpec)

end Rows
end Go.Proofs.Ytcfdgmkckibieaa
