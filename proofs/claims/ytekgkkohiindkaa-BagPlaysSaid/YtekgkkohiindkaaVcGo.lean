/- The walk by reckoning, for this program: a step, calls of functions that only read, slices of patches. -/
import Derived.Test.YtekgkkohiindkaaVcFld
import Derived.Test.YtekgkkohiindkaaInoSpec
import Derived.Test.YtekgkkohiindkaaGeomW2
import Derived.Test.YtekgkkohiindkaaWireW3
namespace Cw
open Go Vc
open Go.Proofs
def geoT (a b c : Int) : TV := .agg [iT a, iT b, iT c]
theorem gc_false {a b c : Int} (h : (gcheck a b c != 0) = false) : Gok a b c := by
  by_cases hg : Gok a b c
  · exact hg
  · simp [gcheck, hg] at h
theorem gc_true {a b c : Int} (h : (gcheck a b c != 0) = true) : ¬ Gok a b c := by
  intro hg
  simp [gcheck, hg] at h

end Cw
