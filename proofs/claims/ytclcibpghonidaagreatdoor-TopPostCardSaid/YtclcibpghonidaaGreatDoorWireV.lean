/- The document's answer for the package wire, by reckoning: Bytes, Encode, Decode. -/
import Derived.Test.YtclcibpghonidaaGreatDoorVcGo
import Derived.Test.YtclcibpghonidaaGreatDoorWireTr
namespace Cw
open Go Vc
open Go.Proofs
set_option maxRecDepth 100000
def msT (m : Ms) : TV := .agg [iT m.k, iT m.f, iT m.t, iT m.r, iT m.s, iT m.e]
theorem wcheck0 (m : Ms) : Fn0 Tryz.prog 31 [msT m] (.t (.c (iT (mcheck m)))) := ⟨fun w => wcheck_any m w⟩
theorem wenc0 (m : Ms) : Fn0 Tryz.prog 8 [msT m] (.tup [.c (.s (S (menc m))), .c (iT (mcheck m))]) := ⟨fun w => wenc_any m w⟩
theorem wdec0 (s : ByteArray) (hs : s.size ≤ 9223372036854775807) : Fn0 Tryz.prog 35 [.c (.s s)] (.tup [msT (mdec s.data.toList), .c (iT (mdece s.data.toList))]) := ⟨fun w => wdec_any s hs w⟩
/-- The sum of bytes, as a number. -/
def isum (l : List UInt8) : Int := l.foldr (fun b n => (b.toNat : Int) + n) 0
end Cw
