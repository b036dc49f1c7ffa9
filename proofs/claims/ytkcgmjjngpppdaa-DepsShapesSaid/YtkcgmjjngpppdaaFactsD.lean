/- A closed fact of the whole program that every row of this seat asks. -/
import Derived.Test.YtkcgmjjngpppdaaFactsA
namespace Go.Proofs.Ytkcgmjjngpppdaa
theorem f_make : (Try.pinned.checked.prog.make == some R0.make) = true := by kernel_rfl
end Go.Proofs.Ytkcgmjjngpppdaa
