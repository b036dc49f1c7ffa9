/- WireApart, WireBack answer true. -/
import Derived.Test.YtclcibpghonidaaGreatDoorWireW
import Derived.StillTailTactics
import Derived.Deep.RegionHeld3
import Derived.Deep.DrawnRows
namespace Cw
open Go Go.RowKit Go.IntWalk
open Go.Proofs

end Cw
namespace Cw
open Go Go.RowKit Go.IntWalk
open Go.Proofs

theorem Row.drew {w : World} {g : Nat} {l : List UInt8} (h : Row w g l) : Row w.drew g l := h

end Cw
namespace Cw
open Go Go.RowKit Go.IntWalk
open Go.Proofs

end Cw
