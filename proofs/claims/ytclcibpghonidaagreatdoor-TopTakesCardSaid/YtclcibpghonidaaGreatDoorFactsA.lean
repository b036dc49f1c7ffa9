/- Closed facts of the whole program that every row of this seat asks: most of them. -/
import Derived.Test.YtclcibpghonidaaGreatDoorRows
import Derived.ProofKit
import Derived.JoinedOf
namespace Go.Proofs.YtclcibpghonidaaGreatDoor
theorem band {a b : Bool} (h : a = true) (h2 : b = true) : (a && b) = true := by rw [h, h2]; rfl
abbrev R0 : OpenClaim := { program := "", sum := "", func := "", spec := "" }
theorem Tryz.own : ownKnob Tryz.prog.godebug = none := by kernel_rfl
theorem Tryz.laidOut : laidOutB Tryz.prog = true := by kernel_rfl
theorem f_maps : mapsRowed Tryz.pinned.checked.prog = true := by kernel_rfl
theorem f_heard : Tryz.pinned.checked.prog.stopsHeard = true := by kernel_rfl
theorem f_keys : (R0.plainKeys == Tryz.pinned.checked.prog.plainKeys) = true := by kernel_rfl
end Go.Proofs.YtclcibpghonidaaGreatDoor
