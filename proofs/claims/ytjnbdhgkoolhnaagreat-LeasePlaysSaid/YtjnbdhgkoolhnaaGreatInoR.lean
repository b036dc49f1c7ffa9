/- inode.List, SameInts, by reckoning. -/
import Derived.Test.YtjnbdhgkoolhnaaGreatInoV
import Derived.Test.YtjnbdhgkoolhnaaGreatVcGo
namespace Cw
open Go Vc
open Go.Proofs
set_option maxRecDepth 100000
def item (s : ByteArray) (i : Nat) : Int := (getn s (2 * (i : Int)) 2 : Nat)
def items (s : ByteArray) (k : Nat) : List Int := (List.range k).map (item s)
def lok (a b c : Int) (s : ByteArray) : Prop := s.size = 64 ∧ (items s 32).all (okb a b c) = true
instance (a b c : Int) (s : ByteArray) : Decidable (lok a b c s) := by unfold lok; infer_instance
end Cw
