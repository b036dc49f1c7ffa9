/- slices.Sorted(maps.Keys(m)) at maps from integers: laid on the library's contracts; the keys of a map that is told by a name. -/
import Derived.Shelf.SlIterI.Nil
import Derived.Test.YtclcibpghonidaaGreatDoorShelf
import Derived.Test.YtclcibpghonidaaGreatDoorSlV
import Derived.Test.YtclcibpghonidaaGreatDoorVcAb
namespace Cw
open Go Vc
open Go.Proofs
set_option maxRecDepth 100000
def srtI (l : List Int) : List Int := l.mergeSort fun x y => decide (x ≤ y)
theorem srtI_sorted {l : List Int} (h : l.Pairwise (· < ·)) : srtI l = l := by
  refine List.Perm.eq_of_pairwise (le := fun a b : Int => a ≤ b) (fun a b _ _ h1 h2 => Int.le_antisymm h1 h2) ?_ (h.imp fun h => Int.le_of_lt h) (List.mergeSort_perm _ _)
  have := List.pairwise_mergeSort (le := fun x y : Int => decide (x ≤ y)) (fun a b c h1 h2 => by simp at *; omega) (fun a b => by simp; omega) l
  exact this.imp fun h => by simpa using h
def rNil : Value → Option (DataW Unit × List MemPlace) := fun _ => some (.nil, [])
theorem srtI_perm {a b : List Int} (h : a.Perm b) : srtI a = srtI b := mergeSort_of_perm_i h
end Cw
namespace Cw
open Go Vc
open Go.Proofs
set_option maxRecDepth 100000
end Cw
