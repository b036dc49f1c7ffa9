/- The example of the chapter on geometry, walked. -/
import Derived.Test.YtigaallhjlmhbaaGeomW2
namespace Cw
open Go Go.RowKit
open Go.Proofs

end Cw
