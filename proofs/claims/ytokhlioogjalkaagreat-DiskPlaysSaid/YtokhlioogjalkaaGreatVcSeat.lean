/- The walk by reckoning: this program's types and functions (printed by mkvc.py). -/
import Derived.Test.YtokhlioogjalkaaGreatProg
import Derived.Test.YtokhlioogjalkaaGreatVcD
namespace Cw
open Go Vc
def tys : List (Nat × Ty) := [
  (3, ⟨.int .i64, 1, 8, [.i .i64 0], false⟩),
  (61, ⟨.arr 2 3, 2, 16, [.i .i64 0, .i .i64 0], true⟩),
  (9, ⟨.str, 1, 16, [.s ⟨#[]⟩], false⟩),
  (37, ⟨.struct [(0, 3), (1, 3), (2, 3), (3, 3), (4, 3), (5, 9), (6, 4), (7, 35), (9, 35)], 11, 112, [.i .i64 0, .i .i64 0, .i .i64 0, .i .i64 0, .i .i64 0, .s ⟨#[]⟩, .b false, .i .i64 0, .s ⟨#[]⟩, .i .i64 0, .s ⟨#[]⟩], true⟩),
  (35, ⟨.struct [(0, 3), (1, 9)], 2, 24, [.i .i64 0, .s ⟨#[]⟩], true⟩),
  (79, ⟨.slice 5, 1, 24, [.nsl], false⟩),
  (24, ⟨.int .i64, 1, 8, [.i .i64 0], false⟩),
  (39, ⟨.slice 9, 1, 24, [.nsl], false⟩),
  (5, ⟨.int .u8, 1, 1, [.i .u8 0], false⟩),
  (44, ⟨.slice 3, 1, 24, [.nsl], false⟩),
  (42, ⟨.struct [(0, 39), (1, 40), (2, 3)], 3, 56, [.nsl, .nsl, .i .i64 0], false⟩),
  (58, ⟨.struct [(0, 39), (1, 56), (2, 3)], 3, 40, [.nsl, .nmp, .i .i64 0], false⟩),
  (22, ⟨.slice 37, 1, 24, [.nsl], false⟩),
  (4, ⟨.bool, 1, 1, [.b false], false⟩),
  (108, ⟨.slice 35, 1, 24, [.nsl], false⟩),
  (23, ⟨.ptr, 1, 8, [.np], false⟩),
  (27, ⟨.ptr, 1, 8, [.np], false⟩),
  (56, ⟨.map 3 69, 1, 8, [.nmp], false⟩),
  (40, ⟨.slice 78, 1, 24, [.nsl], false⟩),
  (78, ⟨.struct [(0, 3), (1, 3), (2, 3), (3, 3), (4, 9)], 5, 48, [.i .i64 0, .i .i64 0, .i .i64 0, .i .i64 0, .s ⟨#[]⟩], true⟩),
  (69, ⟨.struct [(0, 3), (1, 3), (2, 3), (3, 9)], 4, 40, [.i .i64 0, .i .i64 0, .i .i64 0, .s ⟨#[]⟩], true⟩)]
theorem tysOk : TysOk Go.Proofs.Tryz.prog tys := tysB_ok (by kernel_rfl)
def fns : List Nat := [3, 4, 5, 6, 7, 8, 9, 10, 11, 12, 13, 14, 15, 16, 17, 18, 19, 20, 21, 22, 23, 24, 25, 26, 27, 28, 29, 30, 31, 32, 33, 34, 35, 36, 37, 38, 39, 40, 41, 42, 43, 44, 45, 46, 47, 48, 49, 50, 52, 53, 54, 55, 56, 57, 58, 59, 60, 61, 63, 64, 65, 66, 67, 68, 69, 70, 71, 72, 73, 74, 75, 76, 77, 82, 83, 84, 85, 86, 87, 88, 89, 90, 91, 92, 93, 94, 95, 100, 101, 103, 104, 105, 106]
theorem fnsOk : fnsB Go.Proofs.Tryz.prog fns = true := by kernel_rfl
theorem sd (orc : List (Nat × Orc)) : Sound Go.Proofs.Tryz.prog (step Go.Proofs.Tryz.prog tys fns orc) := step_sound tysOk fnsOk orc
theorem mo : Go.Proofs.Tryz.prog.follows .mixedOrders = true := by kernel_rfl
end Cw
