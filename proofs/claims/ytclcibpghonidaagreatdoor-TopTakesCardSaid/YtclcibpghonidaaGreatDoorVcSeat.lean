/- The walk by reckoning: this program's types and functions (printed by mkvc.py). -/
import Derived.Test.YtclcibpghonidaaGreatDoorProg
import Derived.Test.YtclcibpghonidaaGreatDoorVcD
namespace Cw
open Go Vc
def tys : List (Nat × Ty) := [
  (3, ⟨.int .i64, 1, 8, [.i .i64 0], false⟩),
  (41, ⟨.struct [(0, 3), (1, 3), (2, 3)], 3, 24, [.i .i64 0, .i .i64 0, .i .i64 0], true⟩),
  (24, ⟨.int .i64, 1, 8, [.i .i64 0], false⟩),
  (86, ⟨.struct [(0, 3), (1, 9)], 2, 24, [.i .i64 0, .s ⟨#[]⟩], true⟩),
  (9, ⟨.str, 1, 16, [.s ⟨#[]⟩], false⟩),
  (34, ⟨.slice 3, 1, 24, [.nsl], false⟩),
  (31, ⟨.struct [(0, 3), (1, 3), (2, 3), (3, 3), (4, 3), (5, 3)], 6, 48, [.i .i64 0, .i .i64 0, .i .i64 0, .i .i64 0, .i .i64 0, .i .i64 0], true⟩),
  (57, ⟨.slice 9, 1, 24, [.nsl], false⟩),
  (136, ⟨.slice 140, 1, 24, [.nsl], false⟩),
  (59, ⟨.struct [(0, 3), (1, 3)], 2, 16, [.i .i64 0, .i .i64 0], true⟩),
  (140, ⟨.struct [(0, 3), (1, 3), (2, 86), (4, 34), (5, 3)], 6, 72, [.i .i64 0, .i .i64 0, .i .i64 0, .s ⟨#[]⟩, .nsl, .i .i64 0], false⟩),
  (189, ⟨.struct [(0, 3), (1, 3), (2, 3), (3, 3), (4, 3), (5, 187), (13, 3)], 14, 112, repl 14 [.i .i64 0], true⟩),
  (76, ⟨.ptr, 1, 8, [.np], false⟩),
  (138, ⟨.struct [(0, 136), (1, 3)], 2, 32, [.nsl, .i .i64 0], false⟩),
  (161, ⟨.struct [(0, 43), (1, 3), (2, 9), (3, 3)], 4, 40, [.np, .i .i64 0, .s ⟨#[]⟩, .i .i64 0], false⟩),
  (116, ⟨.struct [(0, 57), (1, 114), (2, 3)], 3, 40, [.nsl, .nmp, .i .i64 0], false⟩),
  (149, ⟨.arr 2 3, 2, 16, [.i .i64 0, .i .i64 0], true⟩),
  (79, ⟨.struct [(0, 76), (1, 42), (2, 3), (3, 3), (4, 77)], 5, 40, [.np, .np, .i .i64 0, .i .i64 0, .nmp], false⟩),
  (142, ⟨.slice 5, 1, 24, [.nsl], false⟩),
  (46, ⟨.arr 20 3, 20, 160, repl 20 [.i .i64 0], true⟩),
  (176, ⟨.slice 86, 1, 24, [.nsl], false⟩),
  (54, ⟨.slice 59, 1, 24, [.nsl], false⟩),
  (5, ⟨.int .u8, 1, 1, [.i .u8 0], false⟩),
  (114, ⟨.map 3 130, 1, 8, [.nmp], false⟩),
  (83, ⟨.struct [(0, 3), (1, 3), (2, 81)], 3, 24, [.i .i64 0, .i .i64 0, .nmp], false⟩),
  (81, ⟨.map 3 31, 1, 8, [.nmp], false⟩),
  (42, ⟨.ptr, 1, 8, [.np], false⟩),
  (22, ⟨.slice 31, 1, 24, [.nsl], false⟩),
  (4, ⟨.bool, 1, 1, [.b false], false⟩),
  (166, ⟨.map 3 4, 1, 8, [.nmp], false⟩),
  (130, ⟨.struct [(0, 3), (1, 3), (2, 3), (3, 9)], 4, 40, [.i .i64 0, .i .i64 0, .i .i64 0, .s ⟨#[]⟩], true⟩),
  (143, ⟨.arr 5 3, 5, 40, [.i .i64 0, .i .i64 0, .i .i64 0, .i .i64 0, .i .i64 0], true⟩),
  (107, ⟨.struct [(0, 42), (1, 41), (4, 3), (5, 3)], 6, 48, [.np, .i .i64 0, .i .i64 0, .i .i64 0, .i .i64 0, .i .i64 0], false⟩),
  (77, ⟨.map 3 3, 1, 8, [.nmp], false⟩),
  (187, ⟨.arr 8 3, 8, 64, repl 8 [.i .i64 0], true⟩),
  (62, ⟨.arr 9 4, 9, 9, repl 9 [.b false], true⟩),
  (39, ⟨.slice 49, 1, 24, [.nsl], false⟩),
  (43, ⟨.ptr, 1, 8, [.np], false⟩),
  (23, ⟨.ptr, 1, 8, [.np], false⟩),
  (118, ⟨.int .u64, 1, 8, [.i .u64 0], false⟩),
  (49, ⟨.struct [(0, 3), (1, 3), (2, 3)], 3, 24, [.i .i64 0, .i .i64 0, .i .i64 0], true⟩),
  (61, ⟨.slice 4, 1, 24, [.nsl], false⟩)]
theorem tysOk : TysOk Go.Proofs.Tryz.prog tys := tysB_ok (by kernel_rfl)
def fns : List Nat := [3, 4, 5, 6, 7, 8, 9, 10, 11, 12, 13, 14, 15, 16, 17, 18, 19, 20, 21, 22, 23, 24, 25, 26, 27, 28, 29, 30, 31, 32, 33, 34, 35, 36, 37, 38, 39, 40, 41, 42, 43, 44, 45, 46, 47, 48, 49, 50, 51, 52, 53, 54, 55, 56, 57, 58, 59, 60, 61, 62, 63, 64, 65, 66, 67, 68, 69, 70, 71, 72, 73, 74, 75, 76, 77, 78, 79, 80, 81, 82, 83, 84, 85, 86, 87, 88, 89, 90, 91, 92, 93, 94, 95, 96, 97, 98, 99, 100, 101, 102, 103, 104, 105, 106, 107, 108, 109, 110, 111, 113, 114, 115, 116, 117, 118, 119, 120, 121, 122, 123, 124, 125, 126, 127, 128, 129, 130, 131, 132, 133, 135, 136, 137, 138, 139, 140, 141, 142, 143, 144, 145, 146, 147, 148, 151, 152, 153, 154, 156, 157, 158, 159, 160, 161, 162, 163, 164, 165, 169, 170, 171, 172, 174, 175, 176, 177, 182, 183, 184, 185, 187, 191, 195, 197]
theorem fnsOk : fnsB Go.Proofs.Tryz.prog fns = true := by kernel_rfl
theorem sd (orc : List (Nat × Orc)) : Sound Go.Proofs.Tryz.prog (step Go.Proofs.Tryz.prog tys fns orc) := step_sound tysOk fnsOk orc
theorem mo : Go.Proofs.Tryz.prog.follows .mixedOrders = true := by kernel_rfl
end Cw
