/- A closed fact of the whole program that every row of this seat asks. -/
import Derived.Test.YtokhlioogjalkaaGreatFactsA
namespace Go.Proofs.YtokhlioogjalkaaGreat
theorem f_enter : Tryz.pinned.checked.prog.mayEnter = true := by kernel_rfl
end Go.Proofs.YtokhlioogjalkaaGreat
