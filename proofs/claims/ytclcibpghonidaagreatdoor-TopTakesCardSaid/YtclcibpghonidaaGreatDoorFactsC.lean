/- A closed fact of the whole program that every row of this seat asks. -/
import Derived.Test.YtclcibpghonidaaGreatDoorFactsA
namespace Go.Proofs.YtclcibpghonidaaGreatDoor
theorem f_lift : (R0.lifted == Tryz.pinned.checked.prog.liftsFinal) = true := by kernel_rfl
end Go.Proofs.YtclcibpghonidaaGreatDoor
