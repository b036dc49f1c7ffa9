/- A closed fact of the whole program that every row of this seat asks. -/
import Derived.Test.YthcnjfhfbighkaaDoorFactsA
namespace Go.Proofs.YthcnjfhfbighkaaDoor
theorem f_lift : (R0.lifted == Tryd.pinned.checked.prog.liftsFinal) = true := by kernel_rfl
end Go.Proofs.YthcnjfhfbighkaaDoor
