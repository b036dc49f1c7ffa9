/- The walks of the program's package geom: what each function computes. -/
import Derived.Test.YtekgkkohiindkaaProg
import Derived.Test.YtekgkkohiindkaaBase
import Derived.Test.YtekgkkohiindkaaGeoSpec
namespace Cw
open Go Go.RowKit
open Go.Proofs
abbrev geo (a b c : Int) : Value := .agg #[.int .i64 a, .int .i64 b, .int .i64 c]

end Cw
