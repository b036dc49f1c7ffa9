/- book.Among, walked by reckoning. -/
import Derived.Test.YtjnbdhgkoolhnaaGreatSlV
namespace Cw
open Go Vc
open Go.Proofs
set_option maxRecDepth 100000
end Cw
