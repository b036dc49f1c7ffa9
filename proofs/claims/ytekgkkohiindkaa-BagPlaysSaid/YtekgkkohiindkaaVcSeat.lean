/- The walk by reckoning: this program's types and functions (printed by mkvc.py). -/
import Derived.Test.YtekgkkohiindkaaProg
import Derived.Test.YtekgkkohiindkaaVcD
namespace Cw
open Go Vc
def tys : List (Nat × Ty) := [
  (3, ⟨.int .i64, 1, 8, [.i .i64 0], false⟩),
  (31, ⟨.struct [(0, 3), (1, 3), (2, 3), (3, 3), (4, 3), (5, 3)], 6, 48, [.i .i64 0, .i .i64 0, .i .i64 0, .i .i64 0, .i .i64 0, .i .i64 0], true⟩),
  (9, ⟨.str, 1, 16, [.s ⟨#[]⟩], false⟩),
  (41, ⟨.slice 3, 1, 24, [.nsl], false⟩),
  (24, ⟨.int .i64, 1, 8, [.i .i64 0], false⟩),
  (62, ⟨.struct [(0, 3), (1, 3), (2, 9), (3, 4), (4, 4), (5, 41)], 6, 64, [.i .i64 0, .i .i64 0, .s ⟨#[]⟩, .b false, .b false, .nsl], false⟩),
  (99, ⟨.slice 5, 1, 24, [.nsl], false⟩),
  (4, ⟨.bool, 1, 1, [.b false], false⟩),
  (33, ⟨.struct [(0, 3), (1, 3), (2, 31), (8, 9)], 9, 80, [.i .i64 0, .i .i64 0, .i .i64 0, .i .i64 0, .i .i64 0, .i .i64 0, .i .i64 0, .i .i64 0, .s ⟨#[]⟩], true⟩),
  (114, ⟨.struct [(0, 3), (1, 9)], 2, 24, [.i .i64 0, .s ⟨#[]⟩], true⟩),
  (5, ⟨.int .u8, 1, 1, [.i .u8 0], false⟩),
  (28, ⟨.slice 31, 1, 24, [.nsl], false⟩),
  (58, ⟨.arr 12 9, 12, 192, repl 12 [.s ⟨#[]⟩], true⟩),
  (29, ⟨.slice 4, 1, 24, [.nsl], false⟩),
  (60, ⟨.arr 12 3, 12, 96, repl 12 [.i .i64 0], true⟩),
  (109, ⟨.arr 5 3, 5, 40, [.i .i64 0, .i .i64 0, .i .i64 0, .i .i64 0, .i .i64 0], true⟩),
  (59, ⟨.arr 12 4, 12, 12, repl 12 [.b false], true⟩),
  (125, ⟨.slice 114, 1, 24, [.nsl], false⟩),
  (22, ⟨.slice 33, 1, 24, [.nsl], false⟩),
  (51, ⟨.ptr, 1, 8, [.np], false⟩),
  (57, ⟨.slice 62, 1, 24, [.nsl], false⟩),
  (23, ⟨.ptr, 1, 8, [.np], false⟩),
  (103, ⟨.struct [(0, 3), (1, 101)], 2, 32, [.i .i64 0, .nsl], false⟩),
  (44, ⟨.ptr, 1, 8, [.np], false⟩),
  (86, ⟨.struct [(0, 3), (1, 3), (2, 84)], 3, 40, [.i .i64 0, .i .i64 0, .nsl], false⟩),
  (93, ⟨.struct [(0, 3), (1, 3), (2, 91)], 3, 24, [.i .i64 0, .i .i64 0, .nmp], false⟩),
  (76, ⟨.struct [(0, 3), (1, 3), (2, 74)], 3, 24, [.i .i64 0, .i .i64 0, .nmp], false⟩),
  (69, ⟨.ptr, 1, 8, [.np], false⟩),
  (91, ⟨.map 3 94, 1, 8, [.nmp], false⟩),
  (74, ⟨.map 3 31, 1, 8, [.nmp], false⟩),
  (94, ⟨.ptr, 1, 8, [.np], false⟩),
  (97, ⟨.struct [(0, 9), (1, 4), (2, 3), (3, 3)], 4, 40, [.s ⟨#[]⟩, .b false, .i .i64 0, .i .i64 0], true⟩),
  (84, ⟨.slice 88, 1, 24, [.nsl], false⟩),
  (88, ⟨.struct [(0, 3), (1, 31)], 7, 56, repl 7 [.i .i64 0], true⟩),
  (101, ⟨.slice 107, 1, 24, [.nsl], false⟩),
  (107, ⟨.struct [(0, 3), (1, 9), (2, 4), (3, 3)], 4, 40, [.i .i64 0, .s ⟨#[]⟩, .b false, .i .i64 0], true⟩)]
theorem tysOk : TysOk Go.Proofs.Try.prog tys := tysB_ok (by kernel_rfl)
def fns : List Nat := [3, 4, 5, 6, 7, 8, 9, 10, 11, 12, 13, 14, 15, 16, 17, 18, 19, 20, 21, 22, 23, 24, 25, 26, 27, 28, 29, 30, 31, 32, 33, 34, 35, 36, 37, 38, 39, 40, 41, 42, 43, 44, 45, 46, 47, 48, 49, 50, 51, 52, 53, 54, 55, 56, 57, 58, 59, 60, 61, 62, 63, 64, 65, 66, 67, 68, 69, 70, 71, 72, 73, 74, 75, 76, 78, 79, 80, 81, 82, 83, 84, 85, 86, 87, 88, 89, 90, 91, 92, 93, 97, 98, 99, 100, 101, 102, 103, 105, 106, 107, 111, 112, 113]
theorem fnsOk : fnsB Go.Proofs.Try.prog fns = true := by kernel_rfl
theorem sd (orc : List (Nat × Orc)) : Sound Go.Proofs.Try.prog (step Go.Proofs.Try.prog tys fns orc) := step_sound tysOk fnsOk orc
theorem mo : Go.Proofs.Try.prog.follows .mixedOrders = true := by kernel_rfl
end Cw
