/- The walk by reckoning: this program's types and functions (printed by mkvc.py). -/
import Derived.Test.YtmhbblieldglmaaProg
import Derived.Test.YtmhbblieldglmaaVcD
namespace Cw
open Go Vc
def tys : List (Nat × Ty) := [
  (22, ⟨.slice 3, 1, 24, [.nsl], false⟩),
  (3, ⟨.int .i64, 1, 8, [.i .i64 0], false⟩)]
theorem tysOk : TysOk Go.Proofs.Try.prog tys := tysB_ok (by kernel_rfl)
def fns : List Nat := [3, 4, 5, 6, 7, 8, 9, 10, 11, 12, 13, 14, 15, 16, 17, 18, 19, 21, 22, 23, 24, 25, 26, 27, 28, 29, 30, 33, 34, 36, 37, 38, 39]
theorem fnsOk : fnsB Go.Proofs.Try.prog fns = true := by kernel_rfl
theorem sd (orc : List (Nat × Orc)) : Sound Go.Proofs.Try.prog (step Go.Proofs.Try.prog tys fns orc) := step_sound tysOk fnsOk orc
theorem mo : Go.Proofs.Try.prog.follows .mixedOrders = true := by kernel_rfl
end Cw
