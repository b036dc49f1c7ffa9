/- A closed fact of the whole program that every row of this seat asks. -/
import Derived.Test.YtkmgnfgcgfafcaaFactsA
namespace Go.Proofs.Ytkmgnfgcgfafcaa
theorem f_enter : Try.pinned.checked.prog.mayEnter = true := by kernel_rfl
end Go.Proofs.Ytkmgnfgcgfafcaa
