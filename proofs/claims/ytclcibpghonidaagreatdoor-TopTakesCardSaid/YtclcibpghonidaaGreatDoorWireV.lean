/- The document's answer for the package wire, by reckoning: Bytes, Encode, Decode. -/
import Derived.Test.YtclcibpghonidaaGreatDoorVcGo
import Derived.Test.YtclcibpghonidaaGreatDoorWireTr
namespace Cw
open Go Vc
open Go.Proofs
set_option maxRecDepth 100000
def msT (m : Ms) : TV := .agg [iT m.k, iT m.f, iT m.t, iT m.r, iT m.s, iT m.e]
/-- The sum of bytes, as a number. -/
def isum (l : List UInt8) : Int := l.foldr (fun b n => (b.toNat : Int) + n) 0
end Cw
