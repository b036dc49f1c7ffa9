/- book.Among, walked by reckoning. -/
import Derived.Test.YtclcibpghonidaaGreatDoorSlV
namespace Cw
open Go Vc
open Go.Proofs
set_option maxRecDepth 100000
end Cw
