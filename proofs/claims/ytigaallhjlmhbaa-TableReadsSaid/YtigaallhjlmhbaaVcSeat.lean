/- The walk by reckoning: this program's types and functions (printed by mkvc.py). -/
import Derived.Test.YtigaallhjlmhbaaProg
import Derived.Test.YtigaallhjlmhbaaVcD
namespace Cw
open Go Vc
def tys : List (Nat × Ty) := [
  (3, ⟨.int .i64, 1, 8, [.i .i64 0], false⟩),
  (34, ⟨.struct [(0, 3), (1, 3), (2, 3)], 3, 24, [.i .i64 0, .i .i64 0, .i .i64 0], true⟩),
  (55, ⟨.struct [(0, 3), (1, 3), (2, 3), (3, 3), (4, 3), (5, 53), (13, 3)], 14, 112, repl 14 [.i .i64 0], true⟩),
  (49, ⟨.struct [(0, 3), (1, 3)], 2, 16, [.i .i64 0, .i .i64 0], true⟩),
  (9, ⟨.str, 1, 16, [.s ⟨#[]⟩], false⟩),
  (23, ⟨.struct [(0, 3), (1, 3), (2, 3), (3, 3), (4, 3), (5, 3)], 6, 48, [.i .i64 0, .i .i64 0, .i .i64 0, .i .i64 0, .i .i64 0, .i .i64 0], true⟩),
  (45, ⟨.struct [(0, 3), (1, 9)], 2, 24, [.i .i64 0, .s ⟨#[]⟩], true⟩),
  (24, ⟨.int .i64, 1, 8, [.i .i64 0], false⟩),
  (35, ⟨.slice 49, 1, 24, [.nsl], false⟩),
  (42, ⟨.slice 3, 1, 24, [.nsl], false⟩),
  (100, ⟨.slice 5, 1, 24, [.nsl], false⟩),
  (36, ⟨.slice 9, 1, 24, [.nsl], false⟩),
  (5, ⟨.int .u8, 1, 1, [.i .u8 0], false⟩),
  (129, ⟨.slice 132, 1, 24, [.nsl], false⟩),
  (96, ⟨.slice 45, 1, 24, [.nsl], false⟩),
  (53, ⟨.arr 8 3, 8, 64, repl 8 [.i .i64 0], true⟩),
  (132, ⟨.struct [(0, 3), (1, 3), (2, 3), (3, 3)], 4, 32, [.i .i64 0, .i .i64 0, .i .i64 0, .i .i64 0], true⟩),
  (84, ⟨.arr 5 3, 5, 40, [.i .i64 0, .i .i64 0, .i .i64 0, .i .i64 0, .i .i64 0], true⟩),
  (63, ⟨.slice 67, 1, 24, [.nsl], false⟩),
  (71, ⟨.arr 32 3, 32, 256, repl 32 [.i .i64 0], true⟩),
  (67, ⟨.struct [(0, 3), (1, 3)], 2, 16, [.i .i64 0, .i .i64 0], true⟩)]
theorem tysOk : TysOk Go.Proofs.Try.prog tys := tysB_ok (by kernel_rfl)
def fns : List Nat := [3, 4, 5, 6, 7, 8, 9, 10, 11, 12, 13, 14, 15, 16, 17, 18, 19, 20, 21, 22, 23, 24, 25, 26, 27, 28, 29, 30, 31, 32, 33, 34, 35, 36, 37, 38, 39, 40, 41, 42, 43, 44, 45, 46, 47, 48, 49, 50, 51, 52, 53, 54, 55, 56, 57, 58, 59, 60, 61, 62, 63, 64, 65, 66, 67, 68, 69, 70, 71, 72, 73, 74, 75, 76, 77, 78, 79, 80, 81, 83, 84, 85, 86, 87, 88, 89, 90, 91, 95, 96, 97]
theorem fnsOk : fnsB Go.Proofs.Try.prog fns = true := by kernel_rfl
theorem sd (orc : List (Nat × Orc)) : Sound Go.Proofs.Try.prog (step Go.Proofs.Try.prog tys fns orc) := step_sound tysOk fnsOk orc
theorem mo : Go.Proofs.Try.prog.follows .mixedOrders = true := by kernel_rfl
end Cw
