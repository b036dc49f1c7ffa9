/- The walk by reckoning: this program's types and functions (printed by mkvc.py). -/
import Derived.Test.YtaopblgnaoojkaaProg
import Derived.Test.YtaopblgnaoojkaaVcD
namespace Cw
open Go Vc
def tys : List (Nat × Ty) := [
  (3, ⟨.int .i64, 1, 8, [.i .i64 0], false⟩),
  (22, ⟨.slice 3, 1, 24, [.nsl], false⟩),
  (38, ⟨.struct [(0, 3), (1, 3), (2, 9), (3, 4), (4, 4), (5, 22)], 6, 64, [.i .i64 0, .i .i64 0, .s ⟨#[]⟩, .b false, .b false, .nsl], false⟩),
  (9, ⟨.str, 1, 16, [.s ⟨#[]⟩], false⟩),
  (4, ⟨.bool, 1, 1, [.b false], false⟩),
  (24, ⟨.int .i64, 1, 8, [.i .i64 0], false⟩),
  (34, ⟨.arr 12 9, 12, 192, repl 12 [.s ⟨#[]⟩], true⟩),
  (36, ⟨.arr 12 3, 12, 96, repl 12 [.i .i64 0], true⟩),
  (35, ⟨.arr 12 4, 12, 12, repl 12 [.b false], true⟩),
  (33, ⟨.slice 38, 1, 24, [.nsl], false⟩),
  (23, ⟨.ptr, 1, 8, [.np], false⟩),
  (60, ⟨.slice 5, 1, 24, [.nsl], false⟩),
  (67, ⟨.struct [(0, 3), (1, 65)], 2, 32, [.i .i64 0, .nsl], false⟩),
  (46, ⟨.ptr, 1, 8, [.np], false⟩),
  (54, ⟨.struct [(0, 3), (1, 3), (2, 52)], 3, 24, [.i .i64 0, .i .i64 0, .nmp], false⟩),
  (52, ⟨.map 3 55, 1, 8, [.nmp], false⟩),
  (55, ⟨.ptr, 1, 8, [.np], false⟩),
  (58, ⟨.struct [(0, 9), (1, 4), (2, 3), (3, 3)], 4, 40, [.s ⟨#[]⟩, .b false, .i .i64 0, .i .i64 0], true⟩),
  (65, ⟨.slice 73, 1, 24, [.nsl], false⟩),
  (73, ⟨.struct [(0, 3), (1, 9), (2, 4), (3, 3)], 4, 40, [.i .i64 0, .s ⟨#[]⟩, .b false, .i .i64 0], true⟩),
  (5, ⟨.int .u8, 1, 1, [.i .u8 0], false⟩)]
theorem tysOk : TysOk Go.Proofs.Try.prog tys := tysB_ok (by kernel_rfl)
def fns : List Nat := [3, 4, 5, 6, 7, 8, 9, 10, 11, 12, 13, 14, 15, 16, 17, 18, 19, 20, 21, 22, 23, 24, 25, 26, 27, 28, 29, 30, 31, 32, 33, 34, 35, 36, 37, 38, 39, 40, 41, 42, 43, 44, 45, 46, 48, 49, 50, 51, 52, 53, 54, 55, 56, 59, 60, 62, 63, 64, 65]
theorem fnsOk : fnsB Go.Proofs.Try.prog fns = true := by kernel_rfl
theorem sd (orc : List (Nat × Orc)) : Sound Go.Proofs.Try.prog (step Go.Proofs.Try.prog tys fns orc) := step_sound tysOk fnsOk orc
theorem mo : Go.Proofs.Try.prog.follows .mixedOrders = true := by kernel_rfl
end Cw
