/- The walk by reckoning: this program's types and functions (printed by mkvc.py). -/
import Derived.Test.YtkcgmjjngpppdaaProg
import Derived.Test.YtkcgmjjngpppdaaVcD
namespace Cw
open Go Vc
def tys : List (Nat × Ty) := [
  (3, ⟨.int .i64, 1, 8, [.i .i64 0], false⟩),
  (33, ⟨.slice 3, 1, 24, [.nsl], false⟩),
  (26, ⟨.slice 104, 1, 24, [.nsl], false⟩),
  (32, ⟨.struct [(0, 3), (1, 9)], 2, 24, [.i .i64 0, .s ⟨#[]⟩], true⟩),
  (9, ⟨.str, 1, 16, [.s ⟨#[]⟩], false⟩),
  (70, ⟨.slice 86, 1, 24, [.nsl], false⟩),
  (86, ⟨.struct [(0, 3), (1, 3), (2, 32), (4, 33), (5, 3)], 6, 72, [.i .i64 0, .i .i64 0, .i .i64 0, .s ⟨#[]⟩, .nsl, .i .i64 0], false⟩),
  (23, ⟨.ptr, 1, 8, [.np], false⟩),
  (61, ⟨.struct [(0, 23), (1, 58), (9, 58), (17, 54), (18, 59)], 19, 312, [.np, .s ⟨#[]⟩, .s ⟨#[]⟩, .s ⟨#[]⟩, .s ⟨#[]⟩, .s ⟨#[]⟩, .s ⟨#[]⟩, .s ⟨#[]⟩, .s ⟨#[]⟩, .s ⟨#[]⟩, .s ⟨#[]⟩, .s ⟨#[]⟩, .s ⟨#[]⟩, .s ⟨#[]⟩, .s ⟨#[]⟩, .s ⟨#[]⟩, .s ⟨#[]⟩, .nsl, .nsl], false⟩),
  (28, ⟨.struct [(0, 26)], 1, 24, [.nsl], false⟩),
  (64, ⟨.struct [(0, 3), (1, 3), (2, 5), (3, 33)], 4, 48, [.i .i64 0, .i .i64 0, .i .u8 0, .nsl], false⟩),
  (72, ⟨.struct [(0, 70), (1, 3)], 2, 32, [.nsl, .i .i64 0], false⟩),
  (36, ⟨.int .i64, 1, 8, [.i .i64 0], false⟩),
  (104, ⟨.struct [(0, 3), (1, 32), (3, 33), (4, 3)], 5, 64, [.i .i64 0, .i .i64 0, .s ⟨#[]⟩, .nsl, .i .i64 0], false⟩),
  (54, ⟨.slice 64, 1, 24, [.nsl], false⟩),
  (58, ⟨.arr 8 9, 8, 128, repl 8 [.s ⟨#[]⟩], true⟩),
  (35, ⟨.struct [(0, 3), (1, 3), (2, 32), (4, 33)], 5, 64, [.i .i64 0, .i .i64 0, .i .i64 0, .s ⟨#[]⟩, .nsl], false⟩),
  (109, ⟨.slice 32, 1, 24, [.nsl], false⟩),
  (89, ⟨.slice 5, 1, 24, [.nsl], false⟩),
  (90, ⟨.map 3 4, 1, 8, [.nmp], false⟩),
  (59, ⟨.slice 33, 1, 24, [.nsl], false⟩),
  (22, ⟨.slice 35, 1, 24, [.nsl], false⟩),
  (5, ⟨.int .u8, 1, 1, [.i .u8 0], false⟩),
  (113, ⟨.int .u64, 1, 8, [.i .u64 0], false⟩),
  (55, ⟨.slice 67, 1, 24, [.nsl], false⟩),
  (67, ⟨.struct [(0, 3), (1, 4)], 2, 16, [.i .i64 0, .b false], true⟩),
  (4, ⟨.bool, 1, 1, [.b false], false⟩)]
theorem tysOk : TysOk Go.Proofs.Try.prog tys := tysB_ok (by kernel_rfl)
def fns : List Nat := [3, 4, 5, 6, 7, 8, 9, 10, 11, 12, 13, 14, 15, 16, 17, 18, 19, 20, 21, 22, 23, 24, 25, 26, 27, 28, 29, 30, 31, 32, 33, 34, 35, 36, 37, 38, 39, 40, 41, 42, 43, 44, 45, 46, 47, 48, 49, 50, 51, 52, 53, 54, 55, 56, 57, 58, 59, 60, 61, 62, 63, 64, 65, 66, 67, 68, 69, 70, 71, 72, 73, 74, 75, 77, 78, 79, 80, 81, 82, 83, 84, 85, 86, 87, 88, 89, 90, 91, 92, 93, 94, 95, 98, 100, 101, 102, 103, 104, 105, 106, 108, 109, 110, 114, 115, 116]
theorem fnsOk : fnsB Go.Proofs.Try.prog fns = true := by kernel_rfl
theorem sd (orc : List (Nat × Orc)) : Sound Go.Proofs.Try.prog (step Go.Proofs.Try.prog tys fns orc) := step_sound tysOk fnsOk orc
theorem mo : Go.Proofs.Try.prog.follows .mixedOrders = true := by kernel_rfl
end Cw
