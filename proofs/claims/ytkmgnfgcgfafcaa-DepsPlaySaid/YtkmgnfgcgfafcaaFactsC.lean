/- A closed fact of the whole program that every row of this seat asks. -/
import Derived.Test.YtkmgnfgcgfafcaaFactsA
namespace Go.Proofs.Ytkmgnfgcgfafcaa
theorem f_lift : (R0.lifted == Try.pinned.checked.prog.liftsFinal) = true := by kernel_rfl
end Go.Proofs.Ytkmgnfgcgfafcaa
