/- The walks of the program's package geom, behind What: Map, Inode, Block, Place, Table, Region. -/
import Derived.Test.YtekgkkohiindkaaGeomW
namespace Cw
open Go Go.RowKit
open Go.Proofs

end Cw
