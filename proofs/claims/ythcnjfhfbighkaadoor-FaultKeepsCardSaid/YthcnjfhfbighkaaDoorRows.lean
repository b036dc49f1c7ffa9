/-
  NARROWER THAN 'FOR EVERY INPUT', by the rows' own cells (each row's printed sentence says how): FaultWraps: laid · FaultFirsts: laid · FaultAsks: laid · FaultKeeps: laid.
  DERIVED. THE GIVEN ROWS OF THIS SEAT. 4 by the template 'for every input the law returns true; each argument reads behind the call as it read before'; 0 by the template 'total and deterministic' (their statements: YthcnjfhfbighkaaDoorTotals.lean).
  GIVEN WITH THE SEED: the statements are not yours to turn. If you find one false, say at which input.
  Laid BY PROGRAM, IN A SANDBOX (cutbox-rows.mjs): the forced cells as the released guide's own fill.sh prints them over the translation 834ae9e2d1e1135a… (all of the seat's roots in one cut). By AI agents, Wed Nov 11 2026. No macro, syntax, notation, axiom, sorry.
-/
import Derived.Test.YthcnjfhfbighkaaDoorChecked
import GoSem.Claim
import GoSem.ClaimJoined
import GoSem.ClaimMapViews
import Derived.JoinedTies
import Derived.KernelRfl
namespace Go.Proofs.YthcnjfhfbighkaaDoor
/- THE CELL 'sum', in the pinned program and in every row, IS THE sha256 OF THE DUMP (.gsa) THAT YthcnjfhfbighkaaDoorProg.lean LOADS. Nothing in Lean hashes anything: it is a label: what it is worth is what the hold of that sum in a sandbox is worth. -/
noncomputable def Tryd.pinned : Pinned := { name := "ythcnjfhfbighkaadoor", sum := "834ae9e2d1e1135aa3fde57f2e47bd87e43a3b2e3fa9e178c8ea416684c29c76", checked := Tryd.checked }
namespace Rows
def none {H : Type} : Left H := { results := [], args := [] }

/- WHAT THE LISTED PACKAGE-LEVEL VARIABLES READ AS WHEN THE CALL BEGINS. Each datum BY PROGRAM (the guide's laid-datum.mjs) off the statement by which the dump's own 'gosem.cut.vars' lays the variable. In a bare row this is a premise. The card (YthcnjfhfbighkaaDoorCards.lean) ties it to the program's text. -/
def laid_errors_errorType {H : Type} : DataW H := .iface "internal/reflectlite.rtype" (.agg [.ptr (.lit (.string [101, 114, 114, 111, 114]))])

/-- 'cutwaterlaw02.FaultWraps': WHATEVER THE INPUT: true; the input reads as it did. -/
def faultWrapsSpec : ChangeSpec := { name := "faultWraps", fn := fun _ => fun
  | [d1, d2, d3] => { results := [.lit (.bool true)], args := [d1, d2, d3] }
  | _ => none }
def faultWrapsRow : OpenClaim := { program := "ythcnjfhfbighkaadoor", sum := "834ae9e2d1e1135aa3fde57f2e47bd87e43a3b2e3fa9e178c8ea416684c29c76", func := "cutwater/cutwaterlaw02.FaultWraps", spec := "faultWraps", inPlace := ["internal/reflectlite.ValueOf", "(internal/reflectlite.Value).Type", "(internal/reflectlite.Value).IsNil", "internal/reflectlite.TypeOf", "(internal/reflectlite.Value).Elem", "(internal/reflectlite.Value).Set"], unfollowed := true, recurses := true, named := ["errors.errorType"], apart := false, laid := [("errors.errorType", laid_errors_errorType)] }
def FaultWrapsSaid : Prop := faultWrapsRow.holds Tryd.pinned (OpenSpec.ofChange faultWrapsSpec)

/-- ITS FALSE NEIGHBOUR: 'it returns false'. Refute it at one input. -/
def faultWrapsWrong : ChangeSpec := { name := "faultWraps", fn := fun _ => fun
  | [d1, d2, d3] => { results := [.lit (.bool false)], args := [d1, d2, d3] }
  | _ => none }
def FaultWrapsWrongFalsely : Prop := faultWrapsRow.holds Tryd.pinned (OpenSpec.ofChange faultWrapsWrong)

/-- 'cutwaterlaw02.FaultFirsts': WHATEVER THE INPUT: true; the input reads as it did. -/
def faultFirstsSpec : ChangeSpec := { name := "faultFirsts", fn := fun _ => fun
  | [d1, d2, d3] => { results := [.lit (.bool true)], args := [d1, d2, d3] }
  | _ => none }
def faultFirstsRow : OpenClaim := { program := "ythcnjfhfbighkaadoor", sum := "834ae9e2d1e1135aa3fde57f2e47bd87e43a3b2e3fa9e178c8ea416684c29c76", func := "cutwater/cutwaterlaw02.FaultFirsts", spec := "faultFirsts", inPlace := ["internal/reflectlite.ValueOf", "(internal/reflectlite.Value).Type", "(internal/reflectlite.Value).IsNil", "internal/reflectlite.TypeOf", "(internal/reflectlite.Value).Elem", "(internal/reflectlite.Value).Set"], unfollowed := true, recurses := true, named := ["errors.errorType"], apart := false, laid := [("errors.errorType", laid_errors_errorType)] }
def FaultFirstsSaid : Prop := faultFirstsRow.holds Tryd.pinned (OpenSpec.ofChange faultFirstsSpec)

/-- ITS FALSE NEIGHBOUR: 'it returns false'. Refute it at one input. -/
def faultFirstsWrong : ChangeSpec := { name := "faultFirsts", fn := fun _ => fun
  | [d1, d2, d3] => { results := [.lit (.bool false)], args := [d1, d2, d3] }
  | _ => none }
def FaultFirstsWrongFalsely : Prop := faultFirstsRow.holds Tryd.pinned (OpenSpec.ofChange faultFirstsWrong)

/-- 'cutwaterlaw02.FaultAsks': WHATEVER THE INPUT: true; the input reads as it did. -/
def faultAsksSpec : ChangeSpec := { name := "faultAsks", fn := fun _ => fun
  | [d1, d2, d3] => { results := [.lit (.bool true)], args := [d1, d2, d3] }
  | _ => none }
def faultAsksRow : OpenClaim := { program := "ythcnjfhfbighkaadoor", sum := "834ae9e2d1e1135aa3fde57f2e47bd87e43a3b2e3fa9e178c8ea416684c29c76", func := "cutwater/cutwaterlaw02.FaultAsks", spec := "faultAsks", inPlace := ["internal/reflectlite.ValueOf", "(internal/reflectlite.Value).Type", "(internal/reflectlite.Value).IsNil", "internal/reflectlite.TypeOf", "(internal/reflectlite.Value).Elem", "(internal/reflectlite.Value).Set"], unfollowed := true, recurses := true, named := ["errors.errorType"], apart := false, laid := [("errors.errorType", laid_errors_errorType)] }
def FaultAsksSaid : Prop := faultAsksRow.holds Tryd.pinned (OpenSpec.ofChange faultAsksSpec)

/-- ITS FALSE NEIGHBOUR: 'it returns false'. Refute it at one input. -/
def faultAsksWrong : ChangeSpec := { name := "faultAsks", fn := fun _ => fun
  | [d1, d2, d3] => { results := [.lit (.bool false)], args := [d1, d2, d3] }
  | _ => none }
def FaultAsksWrongFalsely : Prop := faultAsksRow.holds Tryd.pinned (OpenSpec.ofChange faultAsksWrong)

/-- 'cutwaterlaw02.FaultKeeps': WHATEVER THE INPUT: true; the input reads as it did. -/
def faultKeepsSpec : ChangeSpec := { name := "faultKeeps", fn := fun _ => fun
  | [d1, d2] => { results := [.lit (.bool true)], args := [d1, d2] }
  | _ => none }
def faultKeepsRow : OpenClaim := { program := "ythcnjfhfbighkaadoor", sum := "834ae9e2d1e1135aa3fde57f2e47bd87e43a3b2e3fa9e178c8ea416684c29c76", func := "cutwater/cutwaterlaw02.FaultKeeps", spec := "faultKeeps", inPlace := ["internal/reflectlite.ValueOf", "(internal/reflectlite.Value).Type", "(internal/reflectlite.Value).IsNil", "internal/reflectlite.TypeOf", "(internal/reflectlite.Value).Elem", "(internal/reflectlite.Value).Set"], unfollowed := true, recurses := true, named := ["errors.errorType"], apart := false, laid := [("errors.errorType", laid_errors_errorType)] }
def FaultKeepsSaid : Prop := faultKeepsRow.holds Tryd.pinned (OpenSpec.ofChange faultKeepsSpec)

/-- ITS FALSE NEIGHBOUR: 'it returns false'. Refute it at one input. -/
def faultKeepsWrong : ChangeSpec := { name := "faultKeeps", fn := fun _ => fun
  | [d1, d2] => { results := [.lit (.bool false)], args := [d1, d2] }
  | _ => none }
def FaultKeepsWrongFalsely : Prop := faultKeepsRow.holds Tryd.pinned (OpenSpec.ofChange faultKeepsWrong)

/- THE SECOND FORM. 'bulk': how many values and letters a reading holds, each counted each time it is reached (what is shared counts as often as it is met; a slice's spare places count too). A statement '..UptoSaid' is the law's where the arguments, and the package variables that the reading takes, are together of bulk at most 1048576: NARROWER than '..Said'. Prove '..Said' where nothing that the law and all that it calls make is longer than what came in: it says more and counts as full. Else prove '..UptoSaid'. A law counts once. -/
mutual
def uptoBulk {H : Type} : DataW H → Nat
  | .lit (.string bytes) => bytes.length + 1
  | .lit _ => 1
  | .nil => 1
  | .ptr d => uptoBulk d + 1
  | .slice elems spare => uptoBulkAll elems + uptoBulkAll spare + 1
  | .agg parts => uptoBulkAll parts + 1
  | .iface _ d => uptoBulk d + 1
  | .map entries => uptoBulkEntries entries + 1
  | .held _ => 1
def uptoBulkAll {H : Type} : List (DataW H) → Nat
  | [] => 0
  | d :: r => uptoBulk d + uptoBulkAll r
def uptoBulkEntries {H : Type} : List (Lit × DataW H) → Nat
  | [] => 0
  | x :: r => uptoBulkEntry x + uptoBulkEntries r
def uptoBulkEntry {H : Type} : Lit × DataW H → Nat
  | (.string bytes, d) => bytes.length + uptoBulk d + 1
  | (_, d) => uptoBulk d + 1
 end
def uptoSmall : (H : Type) → List (DataW H) → Bool := fun _ ds => decide (uptoBulkAll ds ≤ 1048576)
def OpenSpec.upto (s : _root_.Go.ChangeSpec) : _root_.Go.OpenSpec := { _root_.Go.OpenSpec.ofChange s with cond := some uptoSmall }

/-- 'cutwaterlaw02.FaultWraps', WHERE WHAT IT READS IS OF BULK AT MOST 1048576: true; the input reads as it did. -/
def faultWrapsUptoRow : OpenClaim := { program := "ythcnjfhfbighkaadoor", sum := "834ae9e2d1e1135aa3fde57f2e47bd87e43a3b2e3fa9e178c8ea416684c29c76", func := "cutwater/cutwaterlaw02.FaultWraps", spec := "faultWraps", inPlace := ["internal/reflectlite.ValueOf", "(internal/reflectlite.Value).Type", "(internal/reflectlite.Value).IsNil", "internal/reflectlite.TypeOf", "(internal/reflectlite.Value).Elem", "(internal/reflectlite.Value).Set"], unfollowed := true, recurses := true, named := ["errors.errorType"], apart := false, laid := [("errors.errorType", laid_errors_errorType)], narrowed := true }
def FaultWrapsUptoSaid : Prop := faultWrapsUptoRow.holds Tryd.pinned (OpenSpec.upto faultWrapsSpec)

/-- 'cutwaterlaw02.FaultFirsts', WHERE WHAT IT READS IS OF BULK AT MOST 1048576: true; the input reads as it did. -/
def faultFirstsUptoRow : OpenClaim := { program := "ythcnjfhfbighkaadoor", sum := "834ae9e2d1e1135aa3fde57f2e47bd87e43a3b2e3fa9e178c8ea416684c29c76", func := "cutwater/cutwaterlaw02.FaultFirsts", spec := "faultFirsts", inPlace := ["internal/reflectlite.ValueOf", "(internal/reflectlite.Value).Type", "(internal/reflectlite.Value).IsNil", "internal/reflectlite.TypeOf", "(internal/reflectlite.Value).Elem", "(internal/reflectlite.Value).Set"], unfollowed := true, recurses := true, named := ["errors.errorType"], apart := false, laid := [("errors.errorType", laid_errors_errorType)], narrowed := true }
def FaultFirstsUptoSaid : Prop := faultFirstsUptoRow.holds Tryd.pinned (OpenSpec.upto faultFirstsSpec)

/-- 'cutwaterlaw02.FaultAsks', WHERE WHAT IT READS IS OF BULK AT MOST 1048576: true; the input reads as it did. -/
def faultAsksUptoRow : OpenClaim := { program := "ythcnjfhfbighkaadoor", sum := "834ae9e2d1e1135aa3fde57f2e47bd87e43a3b2e3fa9e178c8ea416684c29c76", func := "cutwater/cutwaterlaw02.FaultAsks", spec := "faultAsks", inPlace := ["internal/reflectlite.ValueOf", "(internal/reflectlite.Value).Type", "(internal/reflectlite.Value).IsNil", "internal/reflectlite.TypeOf", "(internal/reflectlite.Value).Elem", "(internal/reflectlite.Value).Set"], unfollowed := true, recurses := true, named := ["errors.errorType"], apart := false, laid := [("errors.errorType", laid_errors_errorType)], narrowed := true }
def FaultAsksUptoSaid : Prop := faultAsksUptoRow.holds Tryd.pinned (OpenSpec.upto faultAsksSpec)

/-- 'cutwaterlaw02.FaultKeeps', WHERE WHAT IT READS IS OF BULK AT MOST 1048576: true; the input reads as it did. -/
def faultKeepsUptoRow : OpenClaim := { program := "ythcnjfhfbighkaadoor", sum := "834ae9e2d1e1135aa3fde57f2e47bd87e43a3b2e3fa9e178c8ea416684c29c76", func := "cutwater/cutwaterlaw02.FaultKeeps", spec := "faultKeeps", inPlace := ["internal/reflectlite.ValueOf", "(internal/reflectlite.Value).Type", "(internal/reflectlite.Value).IsNil", "internal/reflectlite.TypeOf", "(internal/reflectlite.Value).Elem", "(internal/reflectlite.Value).Set"], unfollowed := true, recurses := true, named := ["errors.errorType"], apart := false, laid := [("errors.errorType", laid_errors_errorType)], narrowed := true }
def FaultKeepsUptoSaid : Prop := faultKeepsUptoRow.holds Tryd.pinned (OpenSpec.upto faultKeepsSpec)

end Rows
end Go.Proofs.YthcnjfhfbighkaaDoor
