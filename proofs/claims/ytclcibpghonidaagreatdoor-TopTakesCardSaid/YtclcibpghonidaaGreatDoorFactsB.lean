/- A closed fact of the whole program that every row of this seat asks. -/
import Derived.Test.YtclcibpghonidaaGreatDoorFactsA
namespace Go.Proofs.YtclcibpghonidaaGreatDoor
theorem f_enter : Tryz.pinned.checked.prog.mayEnter = true := by kernel_rfl
end Go.Proofs.YtclcibpghonidaaGreatDoor
