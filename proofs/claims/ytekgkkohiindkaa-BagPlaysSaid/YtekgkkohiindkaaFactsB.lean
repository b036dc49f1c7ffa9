/- A closed fact of the whole program that every row of this seat asks. -/
import Derived.Test.YtekgkkohiindkaaFactsA
namespace Go.Proofs.Ytekgkkohiindkaa
theorem f_enter : Try.pinned.checked.prog.mayEnter = true := by kernel_rfl
end Go.Proofs.Ytekgkkohiindkaa
