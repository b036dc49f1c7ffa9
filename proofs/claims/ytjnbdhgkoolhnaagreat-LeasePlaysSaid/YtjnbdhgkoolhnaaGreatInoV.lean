/- The walks of the program's package inode: blocks; the patches of parts. -/
import Derived.Test.YtjnbdhgkoolhnaaGreatInoSpec
import Derived.Test.YtjnbdhgkoolhnaaGreatRiseW
import Derived.Test.YtjnbdhgkoolhnaaGreatVcGo
import Derived.Test.YtjnbdhgkoolhnaaGreatFieldW
import Derived.Test.YtjnbdhgkoolhnaaGreatWireW
namespace Cw
open Go Go.RowKit Go.IntWalk
open Go.Proofs

end Cw
namespace Cw
open Go Vc
open Go.Proofs
set_option maxRecDepth 100000
def inoT (n : Ino) : TV := .agg [.i .i64 n.k, .i .i64 n.l, .i .i64 n.z, .i .i64 n.p, .i .i64 n.g, .i .i64 (n.d 0), .i .i64 (n.d 1), .i .i64 (n.d 2), .i .i64 (n.d 3), .i .i64 (n.d 4), .i .i64 (n.d 5), .i .i64 (n.d 6), .i .i64 (n.d 7), .i .i64 n.m]
end Cw
/- The walks of the program's package inode, by reckoning: Encode, Decode. -/
namespace Cw
open Go Vc
open Go.Proofs
set_option maxRecDepth 100000
def pat (o b n : Int) : Pt := (putoff o b n, S (putb o b n))
def ipats (n : Ino) : List Pt := [pat 0 1 n.k, pat 1 1 n.l, pat 2 2 n.z, pat 4 2 n.p, pat 6 2 n.g, pat 24 2 n.m, pat 8 2 (n.d 0), pat 10 2 (n.d 1), pat 12 2 (n.d 2), pat 14 2 (n.d 3), pat 16 2 (n.d 4), pat 18 2 (n.d 5), pat 20 2 (n.d 6), pat 22 2 (n.d 7)]
def ienc (a b c : Int) (n : Ino) : ByteArray := if ichk a b c n = 0 then pt B0 (ipats n) else ⟨#[]⟩
def ience (a b c : Int) (n : Ino) : Int := if ichk a b c n = 0 then pte B0 (ipats n) else ichk a b c n
/-- The numbers of a sector. -/
def dn (s : ByteArray) : Ino := ⟨(getn s 0 1 : Nat), (getn s 1 1 : Nat), (getn s 2 2 : Nat), (getn s 4 2 : Nat), (getn s 6 2 : Nat), fun i => [((getn s 8 2 : Nat) : Int), (getn s 10 2 : Nat), (getn s 12 2 : Nat), (getn s 14 2 : Nat), (getn s 16 2 : Nat), (getn s 18 2 : Nat), (getn s 20 2 : Nat), (getn s 22 2 : Nat)].getD i 0, (getn s 24 2 : Nat)⟩
def iz : Ino := ⟨0, 0, 0, 0, 0, fun _ => 0, 0⟩
def idok (a b c : Int) (s : ByteArray) : Prop := s.size = 64 ∧ ience a b c (dn s) = 0 ∧ ienc a b c (dn s) = s
instance (a b c : Int) (s : ByteArray) : Decidable (idok a b c s) := by unfold idok; infer_instance
def idec (a b c : Int) (s : ByteArray) : Ino := if Gok a b c ∧ idok a b c s then dn s else iz
def idece (a b c : Int) (s : ByteArray) : Int := if Gok a b c then (if idok a b c s then 0 else 60) else 4
end Cw
namespace Cw
open Go Go.RowKit
/-- The same inode, told by its cells. -/
def norm (n : Ino) : Ino := ⟨n.k, n.l, n.z, n.p, n.g, fun i => [n.d 0, n.d 1, n.d 2, n.d 3, n.d 4, n.d 5, n.d 6, n.d 7].getD i 0, n.m⟩
structure Ibd (n : Ino) : Prop where
  k : 0 ≤ n.k ∧ n.k ≤ 2
  l : 0 ≤ n.l ∧ n.l ≤ 255
  z : 0 ≤ n.z ∧ n.z ≤ 2560
  p : 0 ≤ n.p ∧ n.p ≤ 128
  g : 0 ≤ n.g ∧ n.g ≤ 65535
  d : ∀ i, i < 8 → 0 ≤ n.d i ∧ n.d i ≤ 402
  m : 0 ≤ n.m ∧ n.m ≤ 402
def ibytes (n : Ino) : List UInt8 := [UInt8.ofNat n.k.toNat, UInt8.ofNat n.l.toNat, UInt8.ofNat n.z.toNat, UInt8.ofNat (n.z.toNat / 256), UInt8.ofNat n.p.toNat, UInt8.ofNat (n.p.toNat / 256), UInt8.ofNat n.g.toNat, UInt8.ofNat (n.g.toNat / 256), UInt8.ofNat (n.d 0).toNat, UInt8.ofNat ((n.d 0).toNat / 256), UInt8.ofNat (n.d 1).toNat, UInt8.ofNat ((n.d 1).toNat / 256), UInt8.ofNat (n.d 2).toNat, UInt8.ofNat ((n.d 2).toNat / 256), UInt8.ofNat (n.d 3).toNat, UInt8.ofNat ((n.d 3).toNat / 256), UInt8.ofNat (n.d 4).toNat, UInt8.ofNat ((n.d 4).toNat / 256), UInt8.ofNat (n.d 5).toNat, UInt8.ofNat ((n.d 5).toNat / 256), UInt8.ofNat (n.d 6).toNat, UInt8.ofNat ((n.d 6).toNat / 256), UInt8.ofNat (n.d 7).toNat, UInt8.ofNat ((n.d 7).toNat / 256), UInt8.ofNat n.m.toNat, UInt8.ofNat (n.m.toNat / 256), 0, 0, 0, 0, 0, 0, 0, 0, 0, 0, 0, 0, 0, 0, 0, 0, 0, 0, 0, 0, 0, 0, 0, 0, 0, 0, 0, 0, 0, 0, 0, 0, 0, 0, 0, 0, 0, 0]
theorem ibytes_length (n : Ino) : (ibytes n).length = 64 := rfl
end Cw
/- The laws InodeFree, InodeBack, by reckoning. -/
namespace Cw
open Go Vc
open Go.Proofs
set_option maxRecDepth 100000
def iex : Ino := ⟨1, 1, 5, 0, 0, fun _ => 0, 0⟩
def ifree (g : Int) : Ino := ⟨0, 0, 0, 0, g, fun _ => 0, 0⟩
end Cw
