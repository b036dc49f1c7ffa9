/- Closed facts of the whole program that every row of this seat asks: most of them. -/
import Derived.Test.YtkmgnfgcgfafcaaRows
import Derived.ProofKit
import Derived.JoinedOf
namespace Go.Proofs.Ytkmgnfgcgfafcaa
theorem band {a b : Bool} (h : a = true) (h2 : b = true) : (a && b) = true := by rw [h, h2]; rfl
abbrev R0 : OpenClaim := { program := "", sum := "", func := "", spec := "" }
theorem Try.own : ownKnob Try.prog.godebug = none := by kernel_rfl
theorem Try.laidOut : laidOutB Try.prog = true := by kernel_rfl
theorem f_maps : mapsRowed Try.pinned.checked.prog = true := by kernel_rfl
theorem f_heard : Try.pinned.checked.prog.stopsHeard = true := by kernel_rfl
theorem f_keys : (R0.plainKeys == Try.pinned.checked.prog.plainKeys) = true := by kernel_rfl
end Go.Proofs.Ytkmgnfgcgfafcaa
