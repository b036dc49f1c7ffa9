/- The disk's writes that wait: their numbers, sorted. -/
import Derived.Test.YtapmgndnjgoimaaGreatMapK
namespace Cw
open Go Vc
open Go.Proofs
set_option maxRecDepth 100000
end Cw
