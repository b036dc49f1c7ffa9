/- WireApart, WireBack answer true. -/
import Derived.Test.YtclcibpghonidaaGreatDoorWireW
import Derived.StillTailTactics
import Derived.Deep.RegionHeld3
import Derived.Deep.DrawnRows
namespace Cw
open Go Go.RowKit Go.IntWalk
open Go.Proofs

end Cw
namespace Cw
open Go Go.RowKit Go.IntWalk
open Go.Proofs

theorem Row.free {w : World} {g : Nat} {l : List UInt8} (h : Row w g l) (i : Nat) (hi : i < l.length) : w.frozen? ⟨g, i, none⟩ = false := by
  obtain ⟨cur, t, ⟨lo, hi'⟩, rest, hg, hc, hfz⟩ := h
  simp only [World.frozen?, hg, Bool.and_eq_false_iff, decide_eq_false_iff_not]
  rcases hfz with h | h
  · left; simp only at h; omega
  · right; simp only at h; omega
theorem Row.drew {w : World} {g : Nat} {l : List UInt8} (h : Row w g l) : Row w.drew g l := h

end Cw
namespace Cw
open Go Go.RowKit Go.IntWalk
open Go.Proofs

end Cw
