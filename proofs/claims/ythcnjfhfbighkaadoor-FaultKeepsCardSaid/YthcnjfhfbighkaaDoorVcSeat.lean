/- The walk by reckoning: this program's types and functions (printed by mkvc.py). -/
import Derived.Test.YthcnjfhfbighkaaDoorProg
import Derived.Test.YthcnjfhfbighkaaDoorVcD
namespace Cw
open Go Vc
def tys : List (Nat × Ty) := [
  (3, ⟨.int .i64, 1, 8, [.i .i64 0], false⟩),
  (28, ⟨.struct [(0, 4), (1, 22), (2, 26)], 3, 40, [.b false, .i .i64 0, .nsl], false⟩),
  (43, ⟨.slice 46, 1, 24, [.nsl], false⟩),
  (46, ⟨.struct [(0, 9), (1, 3)], 2, 24, [.s ⟨#[]⟩, .i .i64 0], true⟩),
  (26, ⟨.slice 50, 1, 24, [.nsl], false⟩),
  (9, ⟨.str, 1, 16, [.s ⟨#[]⟩], false⟩),
  (22, ⟨.int .i64, 1, 8, [.i .i64 0], false⟩),
  (23, ⟨.slice 40, 1, 24, [.nsl], false⟩),
  (40, ⟨.struct [(0, 9), (1, 3)], 2, 24, [.s ⟨#[]⟩, .i .i64 0], true⟩),
  (4, ⟨.bool, 1, 1, [.b false], false⟩),
  (25, ⟨.ifc, 1, 16, [.raw .nilIface], false⟩),
  (53, ⟨.struct [(0, 9), (1, 3), (2, 25)], 3, 40, [.s ⟨#[]⟩, .i .i64 0, .raw .nilIface], false⟩),
  (50, ⟨.struct [(0, 9), (1, 3)], 2, 24, [.s ⟨#[]⟩, .i .i64 0], true⟩),
  (51, ⟨.ptr, 1, 8, [.np], false⟩)]
theorem tysOk : TysOk Go.Proofs.Tryd.prog tys := tysB_ok (by kernel_rfl)
def fns : List Nat := [3, 4, 5, 6, 7, 8, 9, 10, 11, 12, 13, 14, 15, 16, 17, 18, 19, 20, 22, 26, 48]
theorem fnsOk : fnsB Go.Proofs.Tryd.prog fns = true := by kernel_rfl
theorem sd (orc : List (Nat × Orc)) : Sound Go.Proofs.Tryd.prog (step Go.Proofs.Tryd.prog tys fns orc) := step_sound tysOk fnsOk orc
theorem mo : Go.Proofs.Tryd.prog.follows .mixedOrders = true := by kernel_rfl
end Cw
