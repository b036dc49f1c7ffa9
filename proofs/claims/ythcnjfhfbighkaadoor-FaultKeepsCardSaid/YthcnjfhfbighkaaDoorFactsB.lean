/- A closed fact of the whole program that every row of this seat asks. -/
import Derived.Test.YthcnjfhfbighkaaDoorFactsA
namespace Go.Proofs.YthcnjfhfbighkaaDoor
theorem f_enter : Tryd.pinned.checked.prog.mayEnter = true := by kernel_rfl
end Go.Proofs.YthcnjfhfbighkaaDoor
