/- The walk by reckoning, for this program: a step, calls of functions that only read, slices of patches. -/
import Derived.Test.YtclcibpghonidaaGreatDoorVcFld
import Derived.Test.YtclcibpghonidaaGreatDoorInoSpec
import Derived.Test.YtclcibpghonidaaGreatDoorGeomW
import Derived.Test.YtclcibpghonidaaGreatDoorWireW
namespace Cw
open Go Vc
open Go.Proofs
def geoT (a b c : Int) : TV := .agg [iT a, iT b, iT c]
theorem check0 (a b c : Int) : Fn0 Tryz.prog 93 [geoT a b c] (.t (.c (iT (gcheck a b c)))) := ⟨fun w => check_any a b c w⟩
theorem inodes0 (a b c : Int) : Fn0 Tryz.prog 88 [geoT a b c] (.t (.c (iT (ginodes a b c)))) := ⟨fun w => inodes_any a b c w⟩
theorem gc_false {a b c : Int} (h : (gcheck a b c != 0) = false) : Gok a b c := by
  by_cases hg : Gok a b c
  · exact hg
  · simp [gcheck, hg] at h
theorem gc_true {a b c : Int} (h : (gcheck a b c != 0) = true) : ¬ Gok a b c := by
  intro hg
  simp [gcheck, hg] at h

end Cw
namespace Cw
open Go Vc
open Go.Proofs
set_option maxRecDepth 100000
end Cw
