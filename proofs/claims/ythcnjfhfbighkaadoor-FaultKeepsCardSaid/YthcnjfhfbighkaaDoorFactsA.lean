/- Closed facts of the whole program that every row of this seat asks: most of them. -/
import Derived.Test.YthcnjfhfbighkaaDoorRows
import Derived.ProofKit
import Derived.JoinedOf
namespace Go.Proofs.YthcnjfhfbighkaaDoor
theorem band {a b : Bool} (h : a = true) (h2 : b = true) : (a && b) = true := by rw [h, h2]; rfl
abbrev R0 : OpenClaim := { program := "", sum := "", func := "", spec := "" }
theorem Tryd.own : ownKnob Tryd.prog.godebug = none := by kernel_rfl
theorem Tryd.laidOut : laidOutB Tryd.prog = true := by kernel_rfl
theorem f_maps : mapsRowed Tryd.pinned.checked.prog = true := by kernel_rfl
theorem f_heard : Tryd.pinned.checked.prog.stopsHeard = true := by kernel_rfl
theorem f_keys : (R0.plainKeys == Tryd.pinned.checked.prog.plainKeys) = true := by kernel_rfl
end Go.Proofs.YthcnjfhfbighkaaDoor
