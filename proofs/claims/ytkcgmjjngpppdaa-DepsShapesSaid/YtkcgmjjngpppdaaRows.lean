/-
  No cell of these rows narrows 'for every input' (looked for: loops, veiled, ifaces, maps, wideKeys, modest, calm, conditions, laid).
  DERIVED. THE GIVEN ROWS OF THIS SEAT. 5 by the template 'for every input the law returns true; each argument reads behind the call as it read before'; 0 by the template 'total and deterministic' (their statements: YtkcgmjjngpppdaaTotals.lean).
  GIVEN WITH THE SEED: the statements are not yours to turn. If you find one false, say at which input.
  Laid BY PROGRAM, IN A SANDBOX (cutbox-rows.mjs): the forced cells as the released guide's own fill.sh prints them over the translation d877aa4f5ca6db97… (all of the seat's roots in one cut). By AI agents, Wed Nov 11 2026. No macro, syntax, notation, axiom, sorry.
-/
import Derived.Test.YtkcgmjjngpppdaaChecked
import GoSem.Claim
import GoSem.ClaimJoined
import GoSem.ClaimMapViews
import Derived.JoinedTies
import Derived.KernelRfl
namespace Go.Proofs.Ytkcgmjjngpppdaa
/- THE CELL 'sum', in the pinned program and in every row, IS THE sha256 OF THE DUMP (.gsa) THAT YtkcgmjjngpppdaaProg.lean LOADS. Nothing in Lean hashes anything: it is a label: what it is worth is what the hold of that sum in a sandbox is worth. -/
noncomputable def Try.pinned : Pinned := { name := "ytkcgmjjngpppdaa", sum := "d877aa4f5ca6db97c2bd23bc45c99ba64c78f5564c624dadc4d273d24a09b7a4", checked := Try.checked }
namespace Rows
def none {H : Type} : Left H := { results := [], args := [] }

/-- 'cutwaterlaw12.DepsShapes': WHATEVER THE INPUT: true; the input reads as it did. -/
def depsShapesSpec : ChangeSpec := { name := "depsShapes", fn := fun _ => fun
  | [d1, d2, d3] => { results := [.lit (.bool true)], args := [d1, d2, d3] }
  | _ => none }
def depsShapesRow : OpenClaim := { program := "ytkcgmjjngpppdaa", sum := "d877aa4f5ca6db97c2bd23bc45c99ba64c78f5564c624dadc4d273d24a09b7a4", func := "cutwater/cutwaterlaw12.DepsShapes", spec := "depsShapes", unfollowed := true, recurses := true, apart := false }
def DepsShapesSaid : Prop := depsShapesRow.holds Try.pinned (OpenSpec.ofChange depsShapesSpec)

/-- ITS FALSE NEIGHBOUR: 'it returns false'. Refute it at one input. -/
def depsShapesWrong : ChangeSpec := { name := "depsShapes", fn := fun _ => fun
  | [d1, d2, d3] => { results := [.lit (.bool false)], args := [d1, d2, d3] }
  | _ => none }
def DepsShapesWrongFalsely : Prop := depsShapesRow.holds Try.pinned (OpenSpec.ofChange depsShapesWrong)

/-- 'cutwaterlaw12.DepsChain': WHATEVER THE INPUT: true; the input reads as it did. -/
def depsChainSpec : ChangeSpec := { name := "depsChain", fn := fun _ => fun
  | [d] => { results := [.lit (.bool true)], args := [d] }
  | _ => none }
def depsChainRow : OpenClaim := { program := "ytkcgmjjngpppdaa", sum := "d877aa4f5ca6db97c2bd23bc45c99ba64c78f5564c624dadc4d273d24a09b7a4", func := "cutwater/cutwaterlaw12.DepsChain", spec := "depsChain", unfollowed := true, recurses := true, apart := false }
def DepsChainSaid : Prop := depsChainRow.holds Try.pinned (OpenSpec.ofChange depsChainSpec)

/-- ITS FALSE NEIGHBOUR: 'it returns false'. Refute it at one input. -/
def depsChainWrong : ChangeSpec := { name := "depsChain", fn := fun _ => fun
  | [d] => { results := [.lit (.bool false)], args := [d] }
  | _ => none }
def DepsChainWrongFalsely : Prop := depsChainRow.holds Try.pinned (OpenSpec.ofChange depsChainWrong)

/-- 'cutwaterlaw12.DepsPlay': WHATEVER THE INPUT: true; the input reads as it did. -/
def depsPlaySpec : ChangeSpec := { name := "depsPlay", fn := fun _ => fun
  | [d] => { results := [.lit (.bool true)], args := [d] }
  | _ => none }
def depsPlayRow : OpenClaim := { program := "ytkcgmjjngpppdaa", sum := "d877aa4f5ca6db97c2bd23bc45c99ba64c78f5564c624dadc4d273d24a09b7a4", func := "cutwater/cutwaterlaw12.DepsPlay", spec := "depsPlay", unfollowed := true, recurses := true, apart := false }
def DepsPlaySaid : Prop := depsPlayRow.holds Try.pinned (OpenSpec.ofChange depsPlaySpec)

/-- ITS FALSE NEIGHBOUR: 'it returns false'. Refute it at one input. -/
def depsPlayWrong : ChangeSpec := { name := "depsPlay", fn := fun _ => fun
  | [d] => { results := [.lit (.bool false)], args := [d] }
  | _ => none }
def DepsPlayWrongFalsely : Prop := depsPlayRow.holds Try.pinned (OpenSpec.ofChange depsPlayWrong)

/-- 'cutwaterlaw12.DepsClosed': WHATEVER THE INPUT: true; the input reads as it did. -/
def depsClosedSpec : ChangeSpec := { name := "depsClosed", fn := fun _ => fun
  | [d1, d2] => { results := [.lit (.bool true)], args := [d1, d2] }
  | _ => none }
def depsClosedRow : OpenClaim := { program := "ytkcgmjjngpppdaa", sum := "d877aa4f5ca6db97c2bd23bc45c99ba64c78f5564c624dadc4d273d24a09b7a4", func := "cutwater/cutwaterlaw12.DepsClosed", spec := "depsClosed", inPlace := ["internal/abi.NoEscape", "internal/bytealg.MakeNoZero"], unfollowed := true, recurses := true, apart := false }
def DepsClosedSaid : Prop := depsClosedRow.holds Try.pinned (OpenSpec.ofChange depsClosedSpec)

/-- ITS FALSE NEIGHBOUR: 'it returns false'. Refute it at one input. -/
def depsClosedWrong : ChangeSpec := { name := "depsClosed", fn := fun _ => fun
  | [d1, d2] => { results := [.lit (.bool false)], args := [d1, d2] }
  | _ => none }
def DepsClosedWrongFalsely : Prop := depsClosedRow.holds Try.pinned (OpenSpec.ofChange depsClosedWrong)

/-- 'cutwaterlaw12.DepsEnd': WHATEVER THE INPUT: true; the input reads as it did. -/
def depsEndSpec : ChangeSpec := { name := "depsEnd", fn := fun _ => fun
  | [d1, d2] => { results := [.lit (.bool true)], args := [d1, d2] }
  | _ => none }
def depsEndRow : OpenClaim := { program := "ytkcgmjjngpppdaa", sum := "d877aa4f5ca6db97c2bd23bc45c99ba64c78f5564c624dadc4d273d24a09b7a4", func := "cutwater/cutwaterlaw12.DepsEnd", spec := "depsEnd", inPlace := ["internal/abi.NoEscape", "internal/bytealg.MakeNoZero"], unfollowed := true, recurses := true, apart := false }
def DepsEndSaid : Prop := depsEndRow.holds Try.pinned (OpenSpec.ofChange depsEndSpec)

/-- ITS FALSE NEIGHBOUR: 'it returns false'. Refute it at one input. -/
def depsEndWrong : ChangeSpec := { name := "depsEnd", fn := fun _ => fun
  | [d1, d2] => { results := [.lit (.bool false)], args := [d1, d2] }
  | _ => none }
def DepsEndWrongFalsely : Prop := depsEndRow.holds Try.pinned (OpenSpec.ofChange depsEndWrong)

/- THE SECOND FORM. 'bulk': how many values and letters a reading holds, each counted each time it is reached (what is shared counts as often as it is met; a slice's spare places count too). A statement '..UptoSaid' is the law's where the arguments, and the package variables that the reading takes, are together of bulk at most 1048576: NARROWER than '..Said'. Prove '..Said' where nothing that the law and all that it calls make is longer than what came in: it says more and counts as full. Else prove '..UptoSaid'. A law counts once. -/
mutual
def uptoBulk {H : Type} : DataW H → Nat
  | .lit (.string bytes) => bytes.length + 1
  | .lit _ => 1
  | .nil => 1
  | .ptr d => uptoBulk d + 1
  | .slice elems spare => uptoBulkAll elems + uptoBulkAll spare + 1
  | .agg parts => uptoBulkAll parts + 1
  | .iface _ d => uptoBulk d + 1
  | .map entries => uptoBulkEntries entries + 1
  | .held _ => 1
def uptoBulkAll {H : Type} : List (DataW H) → Nat
  | [] => 0
  | d :: r => uptoBulk d + uptoBulkAll r
def uptoBulkEntries {H : Type} : List (Lit × DataW H) → Nat
  | [] => 0
  | x :: r => uptoBulkEntry x + uptoBulkEntries r
def uptoBulkEntry {H : Type} : Lit × DataW H → Nat
  | (.string bytes, d) => bytes.length + uptoBulk d + 1
  | (_, d) => uptoBulk d + 1
 end
def uptoSmall : (H : Type) → List (DataW H) → Bool := fun _ ds => decide (uptoBulkAll ds ≤ 1048576)
def OpenSpec.upto (s : _root_.Go.ChangeSpec) : _root_.Go.OpenSpec := { _root_.Go.OpenSpec.ofChange s with cond := some uptoSmall }

/-- 'cutwaterlaw12.DepsShapes', WHERE WHAT IT READS IS OF BULK AT MOST 1048576: true; the input reads as it did. -/
def depsShapesUptoRow : OpenClaim := { program := "ytkcgmjjngpppdaa", sum := "d877aa4f5ca6db97c2bd23bc45c99ba64c78f5564c624dadc4d273d24a09b7a4", func := "cutwater/cutwaterlaw12.DepsShapes", spec := "depsShapes", unfollowed := true, recurses := true, apart := false, narrowed := true }
def DepsShapesUptoSaid : Prop := depsShapesUptoRow.holds Try.pinned (OpenSpec.upto depsShapesSpec)

/-- 'cutwaterlaw12.DepsChain', WHERE WHAT IT READS IS OF BULK AT MOST 1048576: true; the input reads as it did. -/
def depsChainUptoRow : OpenClaim := { program := "ytkcgmjjngpppdaa", sum := "d877aa4f5ca6db97c2bd23bc45c99ba64c78f5564c624dadc4d273d24a09b7a4", func := "cutwater/cutwaterlaw12.DepsChain", spec := "depsChain", unfollowed := true, recurses := true, apart := false, narrowed := true }
def DepsChainUptoSaid : Prop := depsChainUptoRow.holds Try.pinned (OpenSpec.upto depsChainSpec)

/-- 'cutwaterlaw12.DepsPlay', WHERE WHAT IT READS IS OF BULK AT MOST 1048576: true; the input reads as it did. -/
def depsPlayUptoRow : OpenClaim := { program := "ytkcgmjjngpppdaa", sum := "d877aa4f5ca6db97c2bd23bc45c99ba64c78f5564c624dadc4d273d24a09b7a4", func := "cutwater/cutwaterlaw12.DepsPlay", spec := "depsPlay", unfollowed := true, recurses := true, apart := false, narrowed := true }
def DepsPlayUptoSaid : Prop := depsPlayUptoRow.holds Try.pinned (OpenSpec.upto depsPlaySpec)

/-- 'cutwaterlaw12.DepsClosed', WHERE WHAT IT READS IS OF BULK AT MOST 1048576: true; the input reads as it did. -/
def depsClosedUptoRow : OpenClaim := { program := "ytkcgmjjngpppdaa", sum := "d877aa4f5ca6db97c2bd23bc45c99ba64c78f5564c624dadc4d273d24a09b7a4", func := "cutwater/cutwaterlaw12.DepsClosed", spec := "depsClosed", inPlace := ["internal/abi.NoEscape", "internal/bytealg.MakeNoZero"], unfollowed := true, recurses := true, apart := false, narrowed := true }
def DepsClosedUptoSaid : Prop := depsClosedUptoRow.holds Try.pinned (OpenSpec.upto depsClosedSpec)

/-- 'cutwaterlaw12.DepsEnd', WHERE WHAT IT READS IS OF BULK AT MOST 1048576: true; the input reads as it did. -/
def depsEndUptoRow : OpenClaim := { program := "ytkcgmjjngpppdaa", sum := "d877aa4f5ca6db97c2bd23bc45c99ba64c78f5564c624dadc4d273d24a09b7a4", func := "cutwater/cutwaterlaw12.DepsEnd", spec := "depsEnd", inPlace := ["internal/abi.NoEscape", "internal/bytealg.MakeNoZero"], unfollowed := true, recurses := true, apart := false, narrowed := true }
def DepsEndUptoSaid : Prop := depsEndUptoRow.holds Try.pinned (OpenSpec.upto depsEndSpec)

end Rows
end Go.Proofs.Ytkcgmjjngpppdaa
