/- A closed fact of the whole program that every row of this seat asks. -/
import Derived.Test.YtclcibpghonidaaGreatDoorFactsA
namespace Go.Proofs.YtclcibpghonidaaGreatDoor
theorem f_make : (Tryz.pinned.checked.prog.make == some R0.make) = true := by kernel_rfl
end Go.Proofs.YtclcibpghonidaaGreatDoor
