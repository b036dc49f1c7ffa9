/- The document's answer for the package inode, by reckoning: block, blocks, Check, Text, Encode. -/
import Derived.Test.YtjnbdhgkoolhnaaGreatInoR
import Derived.Test.YtjnbdhgkoolhnaaGreatRefGeomW
import Derived.Test.YtjnbdhgkoolhnaaGreatVcGo
namespace Cw
open Go Vc
open Go.Proofs
set_option maxRecDepth 100000
end Cw
namespace Cw
open Go Vc
open Go.Proofs
set_option maxRecDepth 100000
set_option maxRecDepth 100000 in
set_option maxHeartbeats 4000000 in
theorem ritext0 (n : Ino) (h : Ibd n) : Fn0 Tryz.prog 33 [inoT n] (.t (.c (.s (S (ibytes n))))) := by
  obtain ⟨hk, hl, hz, hp, hg, hd0, hm⟩ := h
  have T2 : ∀ x : Int, 0 ≤ x ∧ x ≤ 65535 → Fn0 Tryz.prog 79 [.c (iT x), .c (iT 2)] (.t (.c (.s (S (le 2 x.toNat))))) := fun x hx => by
    have := text0 2 x.toNat (by decide) (by omega)
    rwa [Int.toNat_of_nonneg hx.1] at this
  have hd : ∀ i, i < 8 → 0 ≤ n.d i ∧ n.d i ≤ 65535 := fun i hi => by have := hd0 i hi; omega
  refine fn0 (fn := Tryz.f33) 48 rfl rfl rfl rfl rfl fun w => ?_
  refine rn [(15, .ret (.t (.c (.s (S (le 2 n.z.toNat)))))), (19, .ret (.t (.c (.s (S (le 2 n.p.toNat)))))), (23, .ret (.t (.c (.s (S (le 2 n.g.toNat))))))] rfl (by (repeat' (first | exact trivial | exact rfl | exact T2 n.z (by omega) | exact fun _ => T2 n.z (by omega) | first | exact T2 n.p (by omega) | exact T2 n.g (by omega) | (simp only [ByteArray.size_append, S_size, le_length, sz2]; decide) | refine And.intro ?_ ?_))) ?_
  refine At.unroll ?_
  refine rn [(26, .dec true), (34, .ret (.t (.c (.s (S (le 2 (n.d 0).toNat))))))] rfl (by (repeat' (first | exact trivial | exact rfl | exact T2 _ (hd 0 (by decide)) | exact fun _ => T2 _ (hd 0 (by decide)) | first | (simp only [ByteArray.size_append, S_size, le_length, sz2]; decide) | decide | refine And.intro ?_ ?_))) (nextRound ?_)
  refine rn [(26, .dec true), (34, .ret (.t (.c (.s (S (le 2 (n.d 1).toNat))))))] rfl (by (repeat' (first | exact trivial | exact rfl | exact T2 _ (hd 1 (by decide)) | exact fun _ => T2 _ (hd 1 (by decide)) | first | (simp only [ByteArray.size_append, S_size, le_length, sz2]; decide) | decide | refine And.intro ?_ ?_))) (nextRound ?_)
  refine rn [(26, .dec true), (34, .ret (.t (.c (.s (S (le 2 (n.d 2).toNat))))))] rfl (by (repeat' (first | exact trivial | exact rfl | exact T2 _ (hd 2 (by decide)) | exact fun _ => T2 _ (hd 2 (by decide)) | first | (simp only [ByteArray.size_append, S_size, le_length, sz2]; decide) | decide | refine And.intro ?_ ?_))) (nextRound ?_)
  refine rn [(26, .dec true), (34, .ret (.t (.c (.s (S (le 2 (n.d 3).toNat))))))] rfl (by (repeat' (first | exact trivial | exact rfl | exact T2 _ (hd 3 (by decide)) | exact fun _ => T2 _ (hd 3 (by decide)) | first | (simp only [ByteArray.size_append, S_size, le_length, sz2]; decide) | decide | refine And.intro ?_ ?_))) (nextRound ?_)
  refine rn [(26, .dec true), (34, .ret (.t (.c (.s (S (le 2 (n.d 4).toNat))))))] rfl (by (repeat' (first | exact trivial | exact rfl | exact T2 _ (hd 4 (by decide)) | exact fun _ => T2 _ (hd 4 (by decide)) | first | (simp only [ByteArray.size_append, S_size, le_length, sz2]; decide) | decide | refine And.intro ?_ ?_))) (nextRound ?_)
  refine rn [(26, .dec true), (34, .ret (.t (.c (.s (S (le 2 (n.d 5).toNat))))))] rfl (by (repeat' (first | exact trivial | exact rfl | exact T2 _ (hd 5 (by decide)) | exact fun _ => T2 _ (hd 5 (by decide)) | first | (simp only [ByteArray.size_append, S_size, le_length, sz2]; decide) | decide | refine And.intro ?_ ?_))) (nextRound ?_)
  refine rn [(26, .dec true), (34, .ret (.t (.c (.s (S (le 2 (n.d 6).toNat))))))] rfl (by (repeat' (first | exact trivial | exact rfl | exact T2 _ (hd 6 (by decide)) | exact fun _ => T2 _ (hd 6 (by decide)) | first | (simp only [ByteArray.size_append, S_size, le_length, sz2]; decide) | decide | refine And.intro ?_ ?_))) (nextRound ?_)
  refine rn [(26, .dec true), (34, .ret (.t (.c (.s (S (le 2 (n.d 7).toNat))))))] rfl (by (repeat' (first | exact trivial | exact rfl | exact T2 _ (hd 7 (by decide)) | exact fun _ => T2 _ (hd 7 (by decide)) | first | (simp only [ByteArray.size_append, S_size, le_length, sz2]; decide) | decide | refine And.intro ?_ ?_))) (nextRound ?_)
  refine rn [(26, .dec false)] rfl (by repeat' (first | exact trivial | exact rfl | refine And.intro ?_ ?_)) (nextExit rfl ?_)
  refine rnA [(39, .ret (.t (.c (.s (S (le 2 n.m.toNat)))))), (46, .ret (.t (.c (.s (S (List.replicate 38 0))))))] rfl ?_ ?_
  · (repeat' (first | exact trivial | exact rfl | exact T2 n.m (by omega) | exact fun _ => T2 n.m (by omega) | first | (simp only [ByteArray.size_append, S_size, le_length, sz2, List.length_replicate]; decide) | (simp only [ByteArray.size_append, S_size, le_length, sz2, List.length_replicate]; rfl) | refine And.intro ?_ ?_))
  · refine ret0 tysOk rfl ⟨?_, trivial⟩ rfl
    have qk : IntKind.u8.wrap n.k = n.k := by rw [IntKind.wrap_u8]; omega
    have ql : IntKind.u8.wrap n.l = n.l := by rw [IntKind.wrap_u8]; omega
    rw [qk, ql, show (⟨#[UInt8.ofNat n.k.toNat, UInt8.ofNat n.l.toNat]⟩ : ByteArray) = S [UInt8.ofNat n.k.toNat, UInt8.ofNat n.l.toNat] from rfl]
    simp only [S_append, le_two]
    rfl
end Cw
