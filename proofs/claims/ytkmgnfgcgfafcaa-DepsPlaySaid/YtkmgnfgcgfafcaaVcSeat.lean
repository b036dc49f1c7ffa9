/- The walk by reckoning: this program's types and functions (printed by mkvc.py). -/
import Derived.Test.YtkmgnfgcgfafcaaProg
import Derived.Test.YtkmgnfgcgfafcaaVcD
namespace Cw
open Go Vc
def tys : List (Nat × Ty) := [
  (3, ⟨.int .i64, 1, 8, [.i .i64 0], false⟩),
  (34, ⟨.slice 3, 1, 24, [.nsl], false⟩),
  (26, ⟨.slice 74, 1, 24, [.nsl], false⟩),
  (33, ⟨.struct [(0, 3), (1, 9)], 2, 24, [.i .i64 0, .s ⟨#[]⟩], true⟩),
  (45, ⟨.slice 53, 1, 24, [.nsl], false⟩),
  (53, ⟨.struct [(0, 3), (1, 3), (2, 33), (4, 34), (5, 3)], 6, 72, [.i .i64 0, .i .i64 0, .i .i64 0, .s ⟨#[]⟩, .nsl, .i .i64 0], false⟩),
  (28, ⟨.struct [(0, 26)], 1, 24, [.nsl], false⟩),
  (9, ⟨.str, 1, 16, [.s ⟨#[]⟩], false⟩),
  (47, ⟨.struct [(0, 45), (1, 3)], 2, 32, [.nsl, .i .i64 0], false⟩),
  (74, ⟨.struct [(0, 3), (1, 33), (3, 34), (4, 3)], 5, 64, [.i .i64 0, .i .i64 0, .s ⟨#[]⟩, .nsl, .i .i64 0], false⟩),
  (23, ⟨.ptr, 1, 8, [.np], false⟩),
  (36, ⟨.struct [(0, 3), (1, 3), (2, 33), (4, 34)], 5, 64, [.i .i64 0, .i .i64 0, .i .i64 0, .s ⟨#[]⟩, .nsl], false⟩),
  (38, ⟨.int .i64, 1, 8, [.i .i64 0], false⟩),
  (91, ⟨.slice 33, 1, 24, [.nsl], false⟩),
  (75, ⟨.slice 5, 1, 24, [.nsl], false⟩),
  (82, ⟨.map 3 4, 1, 8, [.nmp], false⟩),
  (22, ⟨.slice 36, 1, 24, [.nsl], false⟩),
  (100, ⟨.int .u64, 1, 8, [.i .u64 0], false⟩),
  (4, ⟨.bool, 1, 1, [.b false], false⟩),
  (5, ⟨.int .u8, 1, 1, [.i .u8 0], false⟩)]
theorem tysOk : TysOk Go.Proofs.Try.prog tys := tysB_ok (by kernel_rfl)
def fns : List Nat := [3, 4, 5, 6, 7, 8, 9, 10, 11, 12, 13, 14, 15, 16, 17, 18, 19, 20, 21, 22, 23, 24, 25, 26, 27, 28, 29, 30, 31, 32, 33, 34, 35, 36, 37, 38, 39, 40, 41, 42, 43, 44, 45, 46, 47, 48, 49, 50, 51, 52, 53, 54, 55, 56, 57, 58, 59, 60, 61, 62, 63, 64, 65, 66, 67, 68, 69, 70, 71, 73, 74, 75, 76, 77, 78, 79, 80, 81, 82, 83, 84, 87, 88, 89, 91, 92, 93, 94]
theorem fnsOk : fnsB Go.Proofs.Try.prog fns = true := by kernel_rfl
theorem sd (orc : List (Nat × Orc)) : Sound Go.Proofs.Try.prog (step Go.Proofs.Try.prog tys fns orc) := step_sound tysOk fnsOk orc
theorem mo : Go.Proofs.Try.prog.follows .mixedOrders = true := by kernel_rfl
end Cw
