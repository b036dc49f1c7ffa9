/- A disk that goes its own way: slices.Clone, maps.Clone, Fork; Size. -/
import Derived.Test.YtclcibpghonidaaGreatDoorDisk
import Derived.Test.YtclcibpghonidaaGreatDoorFnV
import Derived.Shelf.SlMaps.Clone
namespace Cw
open Go Vc
open Go.Proofs
set_option maxRecDepth 100000
section
variable {H : HL} {nx d b : Nat} {S : List ByteArray} {W : List (Int × Wr)} {last : Int}
theorem sizeA (hd : lookH H d = some (true, .ab (dP S W last b))) : FnH Tryz.prog 81 [.c (.nm d)] H nx ⟨.t (.c (iT (S.length : Nat))), [], [(d, some (.ab (dP S W last b)))], []⟩ := by
  refine fnA (fn := Tryz.f81) 8 rfl rfl rfl hd (ptr b) (disk_pins _ _ _ _) (disk_pins _ _ _ _) rfl rfl rfl (v' := .t (.c (iT (S.length : Nat)))) (news' := []) rfl rfl rfl rfl fun w Wr => ?_
  refine At.unfoldTo 0 (L1 := (0, .t (.c (.p 1 0))) :: []) (H1 := [(1, some (true, .cells [.nm 2, .mp 3, iT (last)] 116)), (2, some (true, .own 9 1 (S).length (svs (S)))), (3, some (true, .mp (wm (W)))), (4, some (false, .pin 1 b)), (0, none), (0, some (true, .ab (dP (S) (W) (last) b)))]) (nx1 := 5) rfl rfl rfl rfl rfl rfl ?_
  refine rn [] rfl (by repeat' (first | exact trivial | exact rfl | refine And.intro ?_ ?_)) ?_
  refine Done.fold [(0, 1), (1, 2), (2, 3), (3, 4)] (diskO b (S) (wm (W)) (last)) (.p 0 0) (by repeat' (first | exact trivial | exact rfl | refine And.intro ?_ ?_)) rfl rfl (fun _ => rfl) ?_
  exact retM tysOk [(0, 5)] rfl (by repeat' (first | exact trivial | exact rfl | refine And.intro ?_ ?_)) (by repeat' (first | exact trivial | exact rfl | refine And.intro ?_ ?_)) rfl rfl
end
end Cw
