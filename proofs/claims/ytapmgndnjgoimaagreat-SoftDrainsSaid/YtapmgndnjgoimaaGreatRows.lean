/-
  No cell of these rows narrows 'for every input' (looked for: loops, veiled, ifaces, maps, wideKeys, modest, calm, conditions, laid).
  DERIVED. THE GIVEN ROWS OF THIS SEAT. 2 by the template 'for every input the law returns true; each argument reads behind the call as it read before'; 0 by the template 'total and deterministic' (their statements: YtapmgndnjgoimaaGreatTotals.lean).
  GIVEN WITH THE SEED: the statements are not yours to turn. If you find one false, say at which input.
  Laid BY PROGRAM, IN A SANDBOX (cutbox-rows.mjs): the forced cells as the released guide's own fill.sh prints them over the translation f54818b3e52a7395… (all of the seat's roots in one cut). By AI agents, Wed Nov 11 2026. No macro, syntax, notation, axiom, sorry.
-/
import Derived.Test.YtapmgndnjgoimaaGreatChecked
import GoSem.Claim
import GoSem.ClaimJoined
import GoSem.ClaimMapViews
import Derived.JoinedTies
import Derived.KernelRfl
namespace Go.Proofs.YtapmgndnjgoimaaGreat
/- THE CELL 'sum', in the pinned program and in every row, IS THE sha256 OF THE DUMP (.gsa) THAT YtapmgndnjgoimaaGreatProg.lean LOADS. Nothing in Lean hashes anything: it is a label: what it is worth is what the hold of that sum in a sandbox is worth. -/
noncomputable def Tryz.pinned : Pinned := { name := "ytapmgndnjgoimaagreat", sum := "f54818b3e52a7395cc12f1c44beeded648a3cd8471757f48810720d864c7cc88", checked := Tryz.checked }
namespace Rows
def none {H : Type} : Left H := { results := [], args := [] }

/-- 'cutwaterlaw14.SoftBegins': WHATEVER THE INPUT: true; the input reads as it did. -/
def softBeginsSpec : ChangeSpec := { name := "softBegins", fn := fun _ => fun
  | [d1, d2] => { results := [.lit (.bool true)], args := [d1, d2] }
  | _ => none }
def softBeginsRow : OpenClaim := { program := "ytapmgndnjgoimaagreat", sum := "f54818b3e52a7395cc12f1c44beeded648a3cd8471757f48810720d864c7cc88", func := "cutwater/cutwaterlaw14.SoftBegins", spec := "softBegins", inPlace := ["internal/abi.NoEscape", "internal/bytealg.MakeNoZero"], unfollowed := true, recurses := true, apart := false }
def SoftBeginsSaid : Prop := softBeginsRow.holds Tryz.pinned (OpenSpec.ofChange softBeginsSpec)

/-- ITS FALSE NEIGHBOUR: 'it returns false'. Refute it at one input. -/
def softBeginsWrong : ChangeSpec := { name := "softBegins", fn := fun _ => fun
  | [d1, d2] => { results := [.lit (.bool false)], args := [d1, d2] }
  | _ => none }
def SoftBeginsWrongFalsely : Prop := softBeginsRow.holds Tryz.pinned (OpenSpec.ofChange softBeginsWrong)

/-- 'cutwaterlaw14.SoftDrains': WHATEVER THE INPUT: true; the input reads as it did. -/
def softDrainsSpec : ChangeSpec := { name := "softDrains", fn := fun _ => fun
  | [d] => { results := [.lit (.bool true)], args := [d] }
  | _ => none }
def softDrainsRow : OpenClaim := { program := "ytapmgndnjgoimaagreat", sum := "f54818b3e52a7395cc12f1c44beeded648a3cd8471757f48810720d864c7cc88", func := "cutwater/cutwaterlaw14.SoftDrains", spec := "softDrains", inPlace := ["internal/abi.NoEscape", "internal/bytealg.MakeNoZero"], unfollowed := true, recurses := true, apart := false }
def SoftDrainsSaid : Prop := softDrainsRow.holds Tryz.pinned (OpenSpec.ofChange softDrainsSpec)

/-- ITS FALSE NEIGHBOUR: 'it returns false'. Refute it at one input. -/
def softDrainsWrong : ChangeSpec := { name := "softDrains", fn := fun _ => fun
  | [d] => { results := [.lit (.bool false)], args := [d] }
  | _ => none }
def SoftDrainsWrongFalsely : Prop := softDrainsRow.holds Tryz.pinned (OpenSpec.ofChange softDrainsWrong)

/- THE SECOND FORM. 'bulk': how many values and letters a reading holds, each counted each time it is reached (what is shared counts as often as it is met; a slice's spare places count too). A statement '..UptoSaid' is the law's where the arguments, and the package variables that the reading takes, are together of bulk at most 1048576: NARROWER than '..Said'. Prove '..Said' where nothing that the law and all that it calls make is longer than what came in: it says more and counts as full. Else prove '..UptoSaid'. A law counts once. -/
mutual
def uptoBulk {H : Type} : DataW H → Nat
  | .lit (.string bytes) => bytes.length + 1
  | .lit _ => 1
  | .nil => 1
  | .ptr d => uptoBulk d + 1
  | .slice elems spare => uptoBulkAll elems + uptoBulkAll spare + 1
  | .agg parts => uptoBulkAll parts + 1
  | .iface _ d => uptoBulk d + 1
  | .map entries => uptoBulkEntries entries + 1
  | .held _ => 1
def uptoBulkAll {H : Type} : List (DataW H) → Nat
  | [] => 0
  | d :: r => uptoBulk d + uptoBulkAll r
def uptoBulkEntries {H : Type} : List (Lit × DataW H) → Nat
  | [] => 0
  | x :: r => uptoBulkEntry x + uptoBulkEntries r
def uptoBulkEntry {H : Type} : Lit × DataW H → Nat
  | (.string bytes, d) => bytes.length + uptoBulk d + 1
  | (_, d) => uptoBulk d + 1
 end
def uptoSmall : (H : Type) → List (DataW H) → Bool := fun _ ds => decide (uptoBulkAll ds ≤ 1048576)
def OpenSpec.upto (s : _root_.Go.ChangeSpec) : _root_.Go.OpenSpec := { _root_.Go.OpenSpec.ofChange s with cond := some uptoSmall }

/-- 'cutwaterlaw14.SoftBegins', WHERE WHAT IT READS IS OF BULK AT MOST 1048576: true; the input reads as it did. -/
def softBeginsUptoRow : OpenClaim := { program := "ytapmgndnjgoimaagreat", sum := "f54818b3e52a7395cc12f1c44beeded648a3cd8471757f48810720d864c7cc88", func := "cutwater/cutwaterlaw14.SoftBegins", spec := "softBegins", inPlace := ["internal/abi.NoEscape", "internal/bytealg.MakeNoZero"], unfollowed := true, recurses := true, apart := false, narrowed := true }
def SoftBeginsUptoSaid : Prop := softBeginsUptoRow.holds Tryz.pinned (OpenSpec.upto softBeginsSpec)

/-- 'cutwaterlaw14.SoftDrains', WHERE WHAT IT READS IS OF BULK AT MOST 1048576: true; the input reads as it did. -/
def softDrainsUptoRow : OpenClaim := { program := "ytapmgndnjgoimaagreat", sum := "f54818b3e52a7395cc12f1c44beeded648a3cd8471757f48810720d864c7cc88", func := "cutwater/cutwaterlaw14.SoftDrains", spec := "softDrains", inPlace := ["internal/abi.NoEscape", "internal/bytealg.MakeNoZero"], unfollowed := true, recurses := true, apart := false, narrowed := true }
def SoftDrainsUptoSaid : Prop := softDrainsUptoRow.holds Tryz.pinned (OpenSpec.upto softDrainsSpec)

end Rows
end Go.Proofs.YtapmgndnjgoimaaGreat
