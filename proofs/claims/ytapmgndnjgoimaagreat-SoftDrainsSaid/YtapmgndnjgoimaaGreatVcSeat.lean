/- The walk by reckoning: this program's types and functions (printed by mkvc.py). -/
import Derived.Test.YtapmgndnjgoimaaGreatProg
import Derived.Test.YtapmgndnjgoimaaGreatVcD
namespace Cw
open Go Vc
def tys : List (Nat × Ty) := [
  (3, ⟨.int .i64, 1, 8, [.i .i64 0], false⟩),
  (33, ⟨.slice 3, 1, 24, [.nsl], false⟩),
  (39, ⟨.struct [(0, 3), (1, 9)], 2, 24, [.i .i64 0, .s ⟨#[]⟩], true⟩),
  (81, ⟨.slice 85, 1, 24, [.nsl], false⟩),
  (85, ⟨.struct [(0, 3), (1, 3), (2, 39), (4, 33), (5, 3)], 6, 72, [.i .i64 0, .i .i64 0, .i .i64 0, .s ⟨#[]⟩, .nsl, .i .i64 0], false⟩),
  (9, ⟨.str, 1, 16, [.s ⟨#[]⟩], false⟩),
  (25, ⟨.int .i64, 1, 8, [.i .i64 0], false⟩),
  (55, ⟨.ptr, 1, 8, [.np], false⟩),
  (83, ⟨.struct [(0, 81), (1, 3)], 2, 32, [.nsl, .i .i64 0], false⟩),
  (58, ⟨.struct [(0, 55), (1, 24), (2, 3), (3, 3), (4, 56)], 5, 40, [.np, .np, .i .i64 0, .i .i64 0, .nmp], false⟩),
  (66, ⟨.arr 2 3, 2, 16, [.i .i64 0, .i .i64 0], true⟩),
  (63, ⟨.struct [(0, 61), (1, 60), (2, 3)], 3, 40, [.nsl, .nmp, .i .i64 0], false⟩),
  (61, ⟨.slice 9, 1, 24, [.nsl], false⟩),
  (37, ⟨.slice 5, 1, 24, [.nsl], false⟩),
  (22, ⟨.slice 35, 1, 24, [.nsl], false⟩),
  (60, ⟨.map 3 75, 1, 8, [.nmp], false⟩),
  (24, ⟨.ptr, 1, 8, [.np], false⟩),
  (102, ⟨.map 3 4, 1, 8, [.nmp], false⟩),
  (127, ⟨.slice 39, 1, 24, [.nsl], false⟩),
  (75, ⟨.struct [(0, 3), (1, 3), (2, 3), (3, 9)], 4, 40, [.i .i64 0, .i .i64 0, .i .i64 0, .s ⟨#[]⟩], true⟩),
  (5, ⟨.int .u8, 1, 1, [.i .u8 0], false⟩),
  (56, ⟨.map 3 3, 1, 8, [.nmp], false⟩),
  (35, ⟨.struct [(0, 3), (1, 3), (2, 5), (3, 33)], 4, 48, [.i .i64 0, .i .i64 0, .i .u8 0, .nsl], false⟩),
  (44, ⟨.struct [(0, 3), (1, 3)], 2, 16, [.i .i64 0, .i .i64 0], true⟩),
  (32, ⟨.slice 33, 1, 24, [.nsl], false⟩),
  (47, ⟨.arr 8 9, 8, 128, repl 8 [.s ⟨#[]⟩], true⟩),
  (29, ⟨.ptr, 1, 8, [.np], false⟩),
  (98, ⟨.int .u64, 1, 8, [.i .u64 0], false⟩),
  (23, ⟨.slice 44, 1, 24, [.nsl], false⟩),
  (4, ⟨.bool, 1, 1, [.b false], false⟩)]
theorem tysOk : TysOk Go.Proofs.Tryz.prog tys := tysB_ok (by kernel_rfl)
def fns : List Nat := [3, 4, 5, 6, 7, 8, 9, 10, 11, 12, 13, 14, 15, 16, 17, 18, 19, 20, 21, 22, 23, 24, 25, 26, 27, 28, 29, 30, 31, 32, 33, 34, 35, 36, 37, 38, 39, 40, 41, 42, 43, 44, 45, 46, 47, 48, 49, 50, 51, 52, 53, 54, 55, 56, 57, 58, 59, 60, 61, 62, 64, 65, 66, 67, 68, 69, 70, 71, 72, 73, 74, 76, 77, 78, 79, 80, 81, 82, 86, 87, 88, 89, 90, 91, 92, 93, 94, 95, 96, 99, 100, 103, 104, 106, 107, 108, 109]
theorem fnsOk : fnsB Go.Proofs.Tryz.prog fns = true := by kernel_rfl
theorem sd (orc : List (Nat × Orc)) : Sound Go.Proofs.Tryz.prog (step Go.Proofs.Tryz.prog tys fns orc) := step_sound tysOk fnsOk orc
theorem mo : Go.Proofs.Tryz.prog.follows .mixedOrders = true := by kernel_rfl
end Cw
