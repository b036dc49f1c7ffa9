/-
  No cell of these rows narrows 'for every input' (looked for: loops, veiled, ifaces, maps, wideKeys, modest, calm, conditions, laid).
  DERIVED. THE GIVEN ROWS OF THIS SEAT. 3 by the template 'for every input the law returns true; each argument reads behind the call as it read before'; 0 by the template 'total and deterministic' (their statements: YtbbcnkoodmafdaaTotals.lean).
  GIVEN WITH THE SEED: the statements are not yours to turn. If you find one false, say at which input.
  Laid BY PROGRAM, IN A SANDBOX (cutbox-rows.mjs): the forced cells as the released guide's own fill.sh prints them over the translation 4d92bdcd326672ff… (all of the seat's roots in one cut). By AI agents, Wed Nov 11 2026. No macro, syntax, notation, axiom, sorry.
-/
import Derived.Test.YtbbcnkoodmafdaaChecked
import GoSem.Claim
import GoSem.ClaimJoined
import GoSem.ClaimMapViews
import Derived.JoinedTies
import Derived.KernelRfl
namespace Go.Proofs.Ytbbcnkoodmafdaa
/- THE CELL 'sum', in the pinned program and in every row, IS THE sha256 OF THE DUMP (.gsa) THAT YtbbcnkoodmafdaaProg.lean LOADS. Nothing in Lean hashes anything: it is a label: what it is worth is what the hold of that sum in a sandbox is worth. -/
noncomputable def Try.pinned : Pinned := { name := "ytbbcnkoodmafdaa", sum := "4d92bdcd326672ff9668430dabd45bacfe9c5e6a75c4ad98193a1832d77377cc", checked := Try.checked }
namespace Rows
def none {H : Type} : Left H := { results := [], args := [] }

/-- 'cutwaterlaw11.DiskSwaps': WHATEVER THE INPUT: true; the input reads as it did. -/
def diskSwapsSpec : ChangeSpec := { name := "diskSwaps", fn := fun _ => fun
  | [d1, d2, d3] => { results := [.lit (.bool true)], args := [d1, d2, d3] }
  | _ => none }
def diskSwapsRow : OpenClaim := { program := "ytbbcnkoodmafdaa", sum := "4d92bdcd326672ff9668430dabd45bacfe9c5e6a75c4ad98193a1832d77377cc", func := "cutwater/cutwaterlaw11.DiskSwaps", spec := "diskSwaps", inPlace := ["internal/abi.NoEscape", "internal/bytealg.MakeNoZero"], apart := false }
def DiskSwapsSaid : Prop := diskSwapsRow.holds Try.pinned (OpenSpec.ofChange diskSwapsSpec)

/-- ITS FALSE NEIGHBOUR: 'it returns false'. Refute it at one input. -/
def diskSwapsWrong : ChangeSpec := { name := "diskSwaps", fn := fun _ => fun
  | [d1, d2, d3] => { results := [.lit (.bool false)], args := [d1, d2, d3] }
  | _ => none }
def DiskSwapsWrongFalsely : Prop := diskSwapsRow.holds Try.pinned (OpenSpec.ofChange diskSwapsWrong)

/-- 'cutwaterlaw11.DiskFences': WHATEVER THE INPUT: true; the input reads as it did. -/
def diskFencesSpec : ChangeSpec := { name := "diskFences", fn := fun _ => fun
  | [d] => { results := [.lit (.bool true)], args := [d] }
  | _ => none }
def diskFencesRow : OpenClaim := { program := "ytbbcnkoodmafdaa", sum := "4d92bdcd326672ff9668430dabd45bacfe9c5e6a75c4ad98193a1832d77377cc", func := "cutwater/cutwaterlaw11.DiskFences", spec := "diskFences", inPlace := ["internal/abi.NoEscape", "internal/bytealg.MakeNoZero"], unfollowed := true, recurses := true, apart := false }
def DiskFencesSaid : Prop := diskFencesRow.holds Try.pinned (OpenSpec.ofChange diskFencesSpec)

/-- ITS FALSE NEIGHBOUR: 'it returns false'. Refute it at one input. -/
def diskFencesWrong : ChangeSpec := { name := "diskFences", fn := fun _ => fun
  | [d] => { results := [.lit (.bool false)], args := [d] }
  | _ => none }
def DiskFencesWrongFalsely : Prop := diskFencesRow.holds Try.pinned (OpenSpec.ofChange diskFencesWrong)

/-- 'cutwaterlaw11.DiskOnce': WHATEVER THE INPUT: true; the input reads as it did. -/
def diskOnceSpec : ChangeSpec := { name := "diskOnce", fn := fun _ => fun
  | [d] => { results := [.lit (.bool true)], args := [d] }
  | _ => none }
def diskOnceRow : OpenClaim := { program := "ytbbcnkoodmafdaa", sum := "4d92bdcd326672ff9668430dabd45bacfe9c5e6a75c4ad98193a1832d77377cc", func := "cutwater/cutwaterlaw11.DiskOnce", spec := "diskOnce", inPlace := ["internal/abi.NoEscape", "internal/bytealg.MakeNoZero"], unfollowed := true, recurses := true, apart := false }
def DiskOnceSaid : Prop := diskOnceRow.holds Try.pinned (OpenSpec.ofChange diskOnceSpec)

/-- ITS FALSE NEIGHBOUR: 'it returns false'. Refute it at one input. -/
def diskOnceWrong : ChangeSpec := { name := "diskOnce", fn := fun _ => fun
  | [d] => { results := [.lit (.bool false)], args := [d] }
  | _ => none }
def DiskOnceWrongFalsely : Prop := diskOnceRow.holds Try.pinned (OpenSpec.ofChange diskOnceWrong)

/- THE SECOND FORM. 'bulk': how many values and letters a reading holds, each counted each time it is reached (what is shared counts as often as it is met; a slice's spare places count too). A statement '..UptoSaid' is the law's where the arguments, and the package variables that the reading takes, are together of bulk at most 1048576: NARROWER than '..Said'. Prove '..Said' where nothing that the law and all that it calls make is longer than what came in: it says more and counts as full. Else prove '..UptoSaid'. A law counts once. -/
mutual
def uptoBulk {H : Type} : DataW H → Nat
  | .lit (.string bytes) => bytes.length + 1
  | .lit _ => 1
  | .nil => 1
  | .ptr d => uptoBulk d + 1
  | .slice elems spare => uptoBulkAll elems + uptoBulkAll spare + 1
  | .agg parts => uptoBulkAll parts + 1
  | .iface _ d => uptoBulk d + 1
  | .map entries => uptoBulkEntries entries + 1
  | .held _ => 1
def uptoBulkAll {H : Type} : List (DataW H) → Nat
  | [] => 0
  | d :: r => uptoBulk d + uptoBulkAll r
def uptoBulkEntries {H : Type} : List (Lit × DataW H) → Nat
  | [] => 0
  | x :: r => uptoBulkEntry x + uptoBulkEntries r
def uptoBulkEntry {H : Type} : Lit × DataW H → Nat
  | (.string bytes, d) => bytes.length + uptoBulk d + 1
  | (_, d) => uptoBulk d + 1
 end
def uptoSmall : (H : Type) → List (DataW H) → Bool := fun _ ds => decide (uptoBulkAll ds ≤ 1048576)
def OpenSpec.upto (s : _root_.Go.ChangeSpec) : _root_.Go.OpenSpec := { _root_.Go.OpenSpec.ofChange s with cond := some uptoSmall }

/-- 'cutwaterlaw11.DiskSwaps', WHERE WHAT IT READS IS OF BULK AT MOST 1048576: true; the input reads as it did. -/
def diskSwapsUptoRow : OpenClaim := { program := "ytbbcnkoodmafdaa", sum := "4d92bdcd326672ff9668430dabd45bacfe9c5e6a75c4ad98193a1832d77377cc", func := "cutwater/cutwaterlaw11.DiskSwaps", spec := "diskSwaps", inPlace := ["internal/abi.NoEscape", "internal/bytealg.MakeNoZero"], apart := false, narrowed := true }
def DiskSwapsUptoSaid : Prop := diskSwapsUptoRow.holds Try.pinned (OpenSpec.upto diskSwapsSpec)

/-- 'cutwaterlaw11.DiskFences', WHERE WHAT IT READS IS OF BULK AT MOST 1048576: true; the input reads as it did. -/
def diskFencesUptoRow : OpenClaim := { program := "ytbbcnkoodmafdaa", sum := "4d92bdcd326672ff9668430dabd45bacfe9c5e6a75c4ad98193a1832d77377cc", func := "cutwater/cutwaterlaw11.DiskFences", spec := "diskFences", inPlace := ["internal/abi.NoEscape", "internal/bytealg.MakeNoZero"], unfollowed := true, recurses := true, apart := false, narrowed := true }
def DiskFencesUptoSaid : Prop := diskFencesUptoRow.holds Try.pinned (OpenSpec.upto diskFencesSpec)

/-- 'cutwaterlaw11.DiskOnce', WHERE WHAT IT READS IS OF BULK AT MOST 1048576: true; the input reads as it did. -/
def diskOnceUptoRow : OpenClaim := { program := "ytbbcnkoodmafdaa", sum := "4d92bdcd326672ff9668430dabd45bacfe9c5e6a75c4ad98193a1832d77377cc", func := "cutwater/cutwaterlaw11.DiskOnce", spec := "diskOnce", inPlace := ["internal/abi.NoEscape", "internal/bytealg.MakeNoZero"], unfollowed := true, recurses := true, apart := false, narrowed := true }
def DiskOnceUptoSaid : Prop := diskOnceUptoRow.holds Try.pinned (OpenSpec.upto diskOnceSpec)

end Rows
end Go.Proofs.Ytbbcnkoodmafdaa
