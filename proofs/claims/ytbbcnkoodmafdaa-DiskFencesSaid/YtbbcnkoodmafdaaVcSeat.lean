/- The walk by reckoning: this program's types and functions (printed by mkvc.py). -/
import Derived.Test.YtbbcnkoodmafdaaProg
import Derived.Test.YtbbcnkoodmafdaaVcD
namespace Cw
open Go Vc
def tys : List (Nat × Ty) := [
  (3, ⟨.int .i64, 1, 8, [.i .i64 0], false⟩),
  (9, ⟨.str, 1, 16, [.s ⟨#[]⟩], false⟩),
  (38, ⟨.arr 2 3, 2, 16, [.i .i64 0, .i .i64 0], true⟩),
  (25, ⟨.int .i64, 1, 8, [.i .i64 0], false⟩),
  (23, ⟨.struct [(0, 3), (1, 9)], 2, 24, [.i .i64 0, .s ⟨#[]⟩], true⟩),
  (45, ⟨.slice 3, 1, 24, [.nsl], false⟩),
  (41, ⟨.struct [(0, 3), (1, 3), (2, 3), (3, 3), (4, 3), (5, 9), (6, 4), (7, 23), (9, 23)], 11, 112, [.i .i64 0, .i .i64 0, .i .i64 0, .i .i64 0, .i .i64 0, .s ⟨#[]⟩, .b false, .i .i64 0, .s ⟨#[]⟩, .i .i64 0, .s ⟨#[]⟩], true⟩),
  (60, ⟨.slice 5, 1, 24, [.nsl], false⟩),
  (55, ⟨.slice 9, 1, 24, [.nsl], false⟩),
  (5, ⟨.int .u8, 1, 1, [.i .u8 0], false⟩),
  (4, ⟨.bool, 1, 1, [.b false], false⟩),
  (57, ⟨.struct [(0, 55), (1, 54), (2, 3)], 3, 40, [.nsl, .nmp, .i .i64 0], false⟩),
  (37, ⟨.arr 8 9, 8, 128, repl 8 [.s ⟨#[]⟩], true⟩),
  (36, ⟨.slice 41, 1, 24, [.nsl], false⟩),
  (24, ⟨.ptr, 1, 8, [.np], false⟩),
  (39, ⟨.map 3 9, 1, 8, [.nmp], false⟩),
  (75, ⟨.slice 23, 1, 24, [.nsl], false⟩),
  (54, ⟨.map 3 65, 1, 8, [.nmp], false⟩),
  (65, ⟨.struct [(0, 3), (1, 3), (2, 3), (3, 9)], 4, 40, [.i .i64 0, .i .i64 0, .i .i64 0, .s ⟨#[]⟩], true⟩)]
theorem tysOk : TysOk Go.Proofs.Try.prog tys := tysB_ok (by kernel_rfl)
def fns : List Nat := [3, 4, 5, 6, 7, 8, 9, 10, 11, 12, 13, 14, 15, 16, 17, 18, 19, 20, 21, 22, 23, 24, 25, 26, 27, 28, 29, 30, 31, 32, 33, 34, 35, 36, 37, 38, 40, 41, 42, 43, 44, 45, 46, 47, 48, 50, 54, 55, 56, 57, 58, 59, 60, 61, 62, 63, 64, 65, 70, 71, 73, 74, 75, 76]
theorem fnsOk : fnsB Go.Proofs.Try.prog fns = true := by kernel_rfl
theorem sd (orc : List (Nat × Orc)) : Sound Go.Proofs.Try.prog (step Go.Proofs.Try.prog tys fns orc) := step_sound tysOk fnsOk orc
theorem mo : Go.Proofs.Try.prog.follows .mixedOrders = true := by kernel_rfl
end Cw
