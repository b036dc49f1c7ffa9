/- The walk by reckoning: this program's types and functions (printed by mkvc.py). -/
import Derived.Test.YtjnbdhgkoolhnaaGreatProg
import Derived.Test.YtjnbdhgkoolhnaaGreatVcD
namespace Cw
open Go Vc
def tys : List (Nat × Ty) := [
  (3, ⟨.int .i64, 1, 8, [.i .i64 0], false⟩),
  (23, ⟨.struct [(0, 3), (1, 3), (2, 3)], 3, 24, [.i .i64 0, .i .i64 0, .i .i64 0], true⟩),
  (9, ⟨.str, 1, 16, [.s ⟨#[]⟩], false⟩),
  (46, ⟨.struct [(0, 3), (1, 3)], 2, 16, [.i .i64 0, .i .i64 0], true⟩),
  (26, ⟨.slice 9, 1, 24, [.nsl], false⟩),
  (55, ⟨.slice 3, 1, 24, [.nsl], false⟩),
  (27, ⟨.int .i64, 1, 8, [.i .i64 0], false⟩),
  (143, ⟨.struct [(0, 3), (1, 9)], 2, 24, [.i .i64 0, .s ⟨#[]⟩], true⟩),
  (53, ⟨.arr 2 3, 2, 16, [.i .i64 0, .i .i64 0], true⟩),
  (34, ⟨.struct [(0, 3), (1, 3), (2, 3), (3, 3), (4, 9)], 5, 48, [.i .i64 0, .i .i64 0, .i .i64 0, .i .i64 0, .s ⟨#[]⟩], true⟩),
  (78, ⟨.struct [(0, 3), (1, 3), (2, 3), (3, 3), (4, 3), (5, 76), (13, 3)], 14, 112, repl 14 [.i .i64 0], true⟩),
  (129, ⟨.slice 5, 1, 24, [.nsl], false⟩),
  (35, ⟨.slice 46, 1, 24, [.nsl], false⟩),
  (133, ⟨.slice 147, 1, 24, [.nsl], false⟩),
  (145, ⟨.struct [(0, 3), (1, 3), (2, 143), (4, 55), (5, 3)], 6, 72, [.i .i64 0, .i .i64 0, .i .i64 0, .s ⟨#[]⟩, .nsl, .i .i64 0], false⟩),
  (65, ⟨.slice 70, 1, 24, [.nsl], false⟩),
  (43, ⟨.struct [(0, 38), (1, 39), (2, 40), (3, 41)], 4, 32, [.np, .np, .np, .np], false⟩),
  (139, ⟨.slice 145, 1, 24, [.nsl], false⟩),
  (5, ⟨.int .u8, 1, 1, [.i .u8 0], false⟩),
  (147, ⟨.struct [(0, 3), (1, 143), (3, 55), (4, 3)], 5, 64, [.i .i64 0, .i .i64 0, .s ⟨#[]⟩, .nsl, .i .i64 0], false⟩),
  (135, ⟨.struct [(0, 133)], 1, 24, [.nsl], false⟩),
  (70, ⟨.struct [(0, 3), (1, 3), (2, 3), (3, 3)], 4, 32, [.i .i64 0, .i .i64 0, .i .i64 0, .i .i64 0], true⟩),
  (117, ⟨.struct [(0, 26), (1, 115), (2, 3)], 3, 40, [.nsl, .nmp, .i .i64 0], false⟩),
  (38, ⟨.ptr, 1, 8, [.np], false⟩),
  (93, ⟨.struct [(0, 26), (1, 91), (2, 3)], 3, 56, [.nsl, .nsl, .i .i64 0], false⟩),
  (203, ⟨.slice 143, 1, 24, [.nsl], false⟩),
  (40, ⟨.ptr, 1, 8, [.np], false⟩),
  (96, ⟨.ptr, 1, 8, [.np], false⟩),
  (141, ⟨.struct [(0, 139), (1, 3)], 2, 32, [.nsl, .i .i64 0], false⟩),
  (148, ⟨.map 3 4, 1, 8, [.nmp], false⟩),
  (110, ⟨.struct [(0, 38), (1, 23), (4, 3), (5, 3)], 6, 48, [.np, .i .i64 0, .i .i64 0, .i .i64 0, .i .i64 0, .i .i64 0], false⟩),
  (76, ⟨.arr 8 3, 8, 64, repl 8 [.i .i64 0], true⟩),
  (99, ⟨.struct [(0, 96), (1, 38), (2, 3), (3, 3), (4, 97)], 5, 40, [.np, .np, .i .i64 0, .i .i64 0, .nmp], false⟩),
  (103, ⟨.struct [(0, 40), (1, 3), (2, 3), (3, 100), (4, 101)], 5, 56, [.np, .i .i64 0, .i .i64 0, .np, .nsl], false⟩),
  (24, ⟨.slice 34, 1, 24, [.nsl], false⟩),
  (39, ⟨.ptr, 1, 8, [.np], false⟩),
  (41, ⟨.ptr, 1, 8, [.np], false⟩),
  (100, ⟨.ptr, 1, 8, [.np], false⟩),
  (159, ⟨.int .u64, 1, 8, [.i .u64 0], false⟩),
  (115, ⟨.map 3 257, 1, 8, [.nmp], false⟩),
  (97, ⟨.map 3 3, 1, 8, [.nmp], false⟩),
  (30, ⟨.ptr, 1, 8, [.np], false⟩),
  (257, ⟨.struct [(0, 3), (1, 3), (2, 3), (3, 9)], 4, 40, [.i .i64 0, .i .i64 0, .i .i64 0, .s ⟨#[]⟩], true⟩),
  (101, ⟨.slice 255, 1, 24, [.nsl], false⟩),
  (255, ⟨.struct [(0, 3), (1, 3)], 2, 16, [.i .i64 0, .i .i64 0], true⟩),
  (91, ⟨.slice 253, 1, 24, [.nsl], false⟩),
  (253, ⟨.struct [(0, 3), (1, 3), (2, 3), (3, 3), (4, 9)], 5, 48, [.i .i64 0, .i .i64 0, .i .i64 0, .i .i64 0, .s ⟨#[]⟩], true⟩),
  (4, ⟨.bool, 1, 1, [.b false], false⟩)]
theorem tysOk : TysOk Go.Proofs.Tryz.prog tys := tysB_ok (by kernel_rfl)
def fns : List Nat := [3, 4, 5, 6, 7, 8, 9, 10, 11, 12, 13, 14, 15, 16, 17, 18, 19, 20, 21, 22, 23, 24, 25, 26, 27, 28, 29, 30, 31, 32, 33, 34, 35, 36, 37, 38, 39, 40, 41, 42, 43, 44, 45, 46, 47, 48, 49, 50, 51, 52, 53, 54, 55, 56, 57, 58, 59, 60, 61, 62, 63, 64, 65, 66, 67, 68, 69, 70, 71, 72, 73, 74, 75, 76, 77, 78, 79, 80, 81, 82, 83, 84, 85, 86, 87, 88, 89, 90, 91, 92, 93, 94, 95, 96, 97, 98, 99, 100, 101, 102, 103, 104, 105, 106, 107, 108, 109, 110, 111, 112, 113, 114, 115, 116, 117, 118, 120, 121, 122, 123, 124, 125, 126, 127, 128, 129, 130, 131, 132, 133, 134, 135, 136, 137, 138, 139, 140, 141, 143, 144, 145, 146, 147, 148, 149, 150, 151, 152, 153, 154, 155, 156, 157, 158, 159, 160, 163, 164, 165, 166, 167, 168, 169, 170, 174, 175, 176, 177, 178, 180, 181, 182, 183, 184, 187, 188]
theorem fnsOk : fnsB Go.Proofs.Tryz.prog fns = true := by kernel_rfl
theorem sd (orc : List (Nat × Orc)) : Sound Go.Proofs.Tryz.prog (step Go.Proofs.Tryz.prog tys fns orc) := step_sound tysOk fnsOk orc
theorem mo : Go.Proofs.Tryz.prog.follows .mixedOrders = true := by kernel_rfl
end Cw
