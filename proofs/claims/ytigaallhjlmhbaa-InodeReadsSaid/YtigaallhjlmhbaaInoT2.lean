/- The document's answer for the package inode, by reckoning: Text, Encode, Decode; the law InodeWrites. -/
import Derived.Test.YtigaallhjlmhbaaInoT
namespace Cw
open Go Vc
open Go.Proofs
set_option maxRecDepth 100000
set_option maxRecDepth 100000 in
set_option maxHeartbeats 4000000 in
theorem ritext0 (n : Ino) (h : Ibd n) : Fn0 Try.prog 63 [inoT n] (.t (.c (.s (S (ibytes n))))) := by
  obtain ⟨hk, hl, hz, hp, hg, hd0, hm⟩ := h
  have T2 : ∀ x : Int, 0 ≤ x ∧ x ≤ 65535 → Fn0 Try.prog 79 [.c (iT x), .c (iT 2)] (.t (.c (.s (S (le 2 x.toNat))))) := fun x hx => by
    have := text0 2 x.toNat (by decide) (by omega)
    rwa [Int.toNat_of_nonneg hx.1] at this
  have hd : ∀ i, i < 8 → 0 ≤ n.d i ∧ n.d i ≤ 65535 := fun i hi => by have := hd0 i hi; omega
  refine fn0 (fn := Try.f63) 48 rfl rfl rfl rfl rfl fun w => ?_
  refine rn [(15, .ret (.t (.c (.s (S (le 2 n.z.toNat)))))), (19, .ret (.t (.c (.s (S (le 2 n.p.toNat)))))), (23, .ret (.t (.c (.s (S (le 2 n.g.toNat))))))] rfl (by (repeat' (first | exact trivial | exact rfl | exact T2 n.z (by omega) | exact fun _ => T2 n.z (by omega) | first | exact T2 n.p (by omega) | exact T2 n.g (by omega) | (simp only [ByteArray.size_append, S_size, le_length, sz2]; decide) | refine And.intro ?_ ?_))) ?_
  refine At.unroll ?_
  refine rn [(26, .dec true), (34, .ret (.t (.c (.s (S (le 2 (n.d 0).toNat))))))] rfl (by (repeat' (first | exact trivial | exact rfl | exact T2 _ (hd 0 (by decide)) | exact fun _ => T2 _ (hd 0 (by decide)) | first | (simp only [ByteArray.size_append, S_size, le_length, sz2]; decide) | decide | refine And.intro ?_ ?_))) (nextRound ?_)
  refine rn [(26, .dec true), (34, .ret (.t (.c (.s (S (le 2 (n.d 1).toNat))))))] rfl (by (repeat' (first | exact trivial | exact rfl | exact T2 _ (hd 1 (by decide)) | exact fun _ => T2 _ (hd 1 (by decide)) | first | (simp only [ByteArray.size_append, S_size, le_length, sz2]; decide) | decide | refine And.intro ?_ ?_))) (nextRound ?_)
  refine rn [(26, .dec true), (34, .ret (.t (.c (.s (S (le 2 (n.d 2).toNat))))))] rfl (by (repeat' (first | exact trivial | exact rfl | exact T2 _ (hd 2 (by decide)) | exact fun _ => T2 _ (hd 2 (by decide)) | first | (simp only [ByteArray.size_append, S_size, le_length, sz2]; decide) | decide | refine And.intro ?_ ?_))) (nextRound ?_)
  refine rn [(26, .dec true), (34, .ret (.t (.c (.s (S (le 2 (n.d 3).toNat))))))] rfl (by (repeat' (first | exact trivial | exact rfl | exact T2 _ (hd 3 (by decide)) | exact fun _ => T2 _ (hd 3 (by decide)) | first | (simp only [ByteArray.size_append, S_size, le_length, sz2]; decide) | decide | refine And.intro ?_ ?_))) (nextRound ?_)
  refine rn [(26, .dec true), (34, .ret (.t (.c (.s (S (le 2 (n.d 4).toNat))))))] rfl (by (repeat' (first | exact trivial | exact rfl | exact T2 _ (hd 4 (by decide)) | exact fun _ => T2 _ (hd 4 (by decide)) | first | (simp only [ByteArray.size_append, S_size, le_length, sz2]; decide) | decide | refine And.intro ?_ ?_))) (nextRound ?_)
  refine rn [(26, .dec true), (34, .ret (.t (.c (.s (S (le 2 (n.d 5).toNat))))))] rfl (by (repeat' (first | exact trivial | exact rfl | exact T2 _ (hd 5 (by decide)) | exact fun _ => T2 _ (hd 5 (by decide)) | first | (simp only [ByteArray.size_append, S_size, le_length, sz2]; decide) | decide | refine And.intro ?_ ?_))) (nextRound ?_)
  refine rn [(26, .dec true), (34, .ret (.t (.c (.s (S (le 2 (n.d 6).toNat))))))] rfl (by (repeat' (first | exact trivial | exact rfl | exact T2 _ (hd 6 (by decide)) | exact fun _ => T2 _ (hd 6 (by decide)) | first | (simp only [ByteArray.size_append, S_size, le_length, sz2]; decide) | decide | refine And.intro ?_ ?_))) (nextRound ?_)
  refine rn [(26, .dec true), (34, .ret (.t (.c (.s (S (le 2 (n.d 7).toNat))))))] rfl (by (repeat' (first | exact trivial | exact rfl | exact T2 _ (hd 7 (by decide)) | exact fun _ => T2 _ (hd 7 (by decide)) | first | (simp only [ByteArray.size_append, S_size, le_length, sz2]; decide) | decide | refine And.intro ?_ ?_))) (nextRound ?_)
  refine rn [(26, .dec false)] rfl (by repeat' (first | exact trivial | exact rfl | refine And.intro ?_ ?_)) (nextExit rfl ?_)
  refine rnA [(39, .ret (.t (.c (.s (S (le 2 n.m.toNat)))))), (46, .ret (.t (.c (.s (S (List.replicate 38 0))))))] rfl ?_ ?_
  · (repeat' (first | exact trivial | exact rfl | exact T2 n.m (by omega) | exact fun _ => T2 n.m (by omega) | first | (simp only [ByteArray.size_append, S_size, le_length, sz2, List.length_replicate]; decide) | (simp only [ByteArray.size_append, S_size, le_length, sz2, List.length_replicate]; rfl) | refine And.intro ?_ ?_))
  · refine ret0 tysOk rfl ⟨?_, trivial⟩ rfl
    have qk : IntKind.u8.wrap n.k = n.k := by rw [IntKind.wrap_u8]; omega
    have ql : IntKind.u8.wrap n.l = n.l := by rw [IntKind.wrap_u8]; omega
    rw [qk, ql, show (⟨#[UInt8.ofNat n.k.toNat, UInt8.ofNat n.l.toNat]⟩ : ByteArray) = S [UInt8.ofNat n.k.toNat, UInt8.ofNat n.l.toNat] from rfl]
    simp only [S_append, le_two]
    rfl
theorem rienc0 (a b c : Int) (n : Ino) : Fn0 Try.prog 32 [geoT a b c, inoT n] (.tup [.c (.s (ienc a b c n)), .c (iT (ience a b c n))]) := by
  refine fn0 (fn := Try.f32) 15 rfl rfl rfl rfl rfl fun w => ?_
  by_cases h : ichk a b c n = 0
  · rw [(enc_ok h).1, (enc_ok h).2]
    refine rn [(9, .ret (.t (.c (iT 0)))), (11, .dec false), (14, .ret (.t (.c (.s (S (ibytes n))))))] rfl (by (repeat' (first | exact trivial | exact rfl | exact h ▸ richeck0 a b c n | exact fun _ => h ▸ richeck0 a b c n | exact ritext0 n (iok_bd (ichk_ok h).2) | refine And.intro ?_ ?_))) ?_
    exact ret0 tysOk rfl (by repeat' (first | exact trivial | exact rfl | refine And.intro ?_ ?_)) rfl
  · rw [(enc_no h).1, (enc_no h).2]
    refine rn [(9, .ret (.t (.c (iT (ichk a b c n))))), (11, .dec true)] rfl (by (repeat' (first | exact trivial | exact rfl | exact richeck0 a b c n | exact fun _ => richeck0 a b c n | simpa using h | refine And.intro ?_ ?_))) ?_
    exact ret0 tysOk rfl (by repeat' (first | exact trivial | exact rfl | refine And.intro ?_ ?_)) rfl
theorem getn_num {s : ByteArray} (hs : s.size = 64) (o n : Nat) (hn : n = 1 ∨ n = 2 ∨ n = 4) (ho : o + n ≤ 64) : getn s (o : Int) (n : Int) = numAt s o n := by
  have h1 : gete (s.size : Nat) (o : Int) (n : Int) = 0 := by
    rw [hs, gete, if_neg (by simp), if_pos]
    refine ⟨?_, ?_⟩
    · simp only [fwide, decide_eq_true_eq]; omega
    · simp only [finside, decide_eq_true_eq]; omega
  rw [getn, if_pos h1]
  rfl
theorem dn_num {s : ByteArray} (hs : s.size = 64) : dn s = ⟨(numAt s 0 1 : Nat), (numAt s 1 1 : Nat), (numAt s 2 2 : Nat), (numAt s 4 2 : Nat), (numAt s 6 2 : Nat), fun i => [((numAt s 8 2 : Nat) : Int), (numAt s 10 2 : Nat), (numAt s 12 2 : Nat), (numAt s 14 2 : Nat), (numAt s 16 2 : Nat), (numAt s 18 2 : Nat), (numAt s 20 2 : Nat), (numAt s 22 2 : Nat)].getD i 0, (numAt s 24 2 : Nat)⟩ := by
  have g := fun o n hn ho => congrArg (fun x : Nat => (x : Int)) (getn_num hs o n hn ho)
  unfold dn
  rw [show ((getn s 0 1 : Nat) : Int) = (numAt s 0 1 : Nat) from g 0 1 (by decide) (by decide), show ((getn s 1 1 : Nat) : Int) = (numAt s 1 1 : Nat) from g 1 1 (by decide) (by decide), show ((getn s 2 2 : Nat) : Int) = (numAt s 2 2 : Nat) from g 2 2 (by decide) (by decide), show ((getn s 4 2 : Nat) : Int) = (numAt s 4 2 : Nat) from g 4 2 (by decide) (by decide), show ((getn s 6 2 : Nat) : Int) = (numAt s 6 2 : Nat) from g 6 2 (by decide) (by decide), show ((getn s 24 2 : Nat) : Int) = (numAt s 24 2 : Nat) from g 24 2 (by decide) (by decide), show ((getn s 8 2 : Nat) : Int) = (numAt s 8 2 : Nat) from g 8 2 (by decide) (by decide), show ((getn s 10 2 : Nat) : Int) = (numAt s 10 2 : Nat) from g 10 2 (by decide) (by decide), show ((getn s 12 2 : Nat) : Int) = (numAt s 12 2 : Nat) from g 12 2 (by decide) (by decide), show ((getn s 14 2 : Nat) : Int) = (numAt s 14 2 : Nat) from g 14 2 (by decide) (by decide), show ((getn s 16 2 : Nat) : Int) = (numAt s 16 2 : Nat) from g 16 2 (by decide) (by decide), show ((getn s 18 2 : Nat) : Int) = (numAt s 18 2 : Nat) from g 18 2 (by decide) (by decide), show ((getn s 20 2 : Nat) : Int) = (numAt s 20 2 : Nat) from g 20 2 (by decide) (by decide), show ((getn s 22 2 : Nat) : Int) = (numAt s 22 2 : Nat) from g 22 2 (by decide) (by decide)]
theorem byte_w {s : ByteArray} {o : Nat} (h : o < s.size) : IntKind.i64.wrap (byteAt s o) = (numAt s o 1 : Nat) := by
  have := byteAt_lt s o
  rw [IntKind.wrap_i64, ← byteAt_num s o h]
  omega
theorem ridec0 (a b c : Int) (s : ByteArray) (hs : s.size ≤ 9223372036854775807) : Fn0 Try.prog 45 [geoT a b c, .c (.s s)] (.tup [inoT (idec a b c s), .c (iT (idece a b c s))]) := by
  refine fn0 (fn := Try.f45) 55 rfl rfl rfl rfl rfl fun w => ?_
  by_cases hg : Gok a b c
  · by_cases hz : s.size = 64
    · refine rn [(9, .ret (.t (.c (iT 0)))), (10, .dec false), (14, .dec false), (23, .ret (.t (.c (iT (numAt s 2 2 : Nat))))), (25, .ret (.t (.c (iT (numAt s 4 2 : Nat))))), (27, .ret (.t (.c (iT (numAt s 6 2 : Nat))))), (29, .ret (.t (.c (iT (numAt s 24 2 : Nat)))))] rfl ?_ ?_
      · (repeat' (first | exact trivial | exact rfl | exact gc_eq hg ▸ rcheck0 a b c | exact fun _ => gc_eq hg ▸ rcheck0 a b c | first | exact num0 s 2 2 (by decide) (by omega) hs | exact num0 s 4 2 (by decide) (by omega) hs | exact num0 s 6 2 (by decide) (by omega) hs | exact num0 s 24 2 (by decide) (by omega) hs | (rw [hz]; decide) | decide | refine And.intro ?_ ?_))
      refine At.unroll ?_
      refine rn [(32, .dec true), (40, .ret (.t (.c (iT (numAt s 8 2 : Nat)))))] rfl (by (repeat' (first | exact trivial | exact rfl | exact num0 s 8 2 (by decide) (by omega) (by omega) | exact fun _ => num0 s 8 2 (by decide) (by omega) (by omega) | decide | refine And.intro ?_ ?_))) (nextRound ?_)
      refine rn [(32, .dec true), (40, .ret (.t (.c (iT (numAt s 10 2 : Nat)))))] rfl (by (repeat' (first | exact trivial | exact rfl | exact num0 s 10 2 (by decide) (by omega) (by omega) | exact fun _ => num0 s 10 2 (by decide) (by omega) (by omega) | decide | refine And.intro ?_ ?_))) (nextRound ?_)
      refine rn [(32, .dec true), (40, .ret (.t (.c (iT (numAt s 12 2 : Nat)))))] rfl (by (repeat' (first | exact trivial | exact rfl | exact num0 s 12 2 (by decide) (by omega) (by omega) | exact fun _ => num0 s 12 2 (by decide) (by omega) (by omega) | decide | refine And.intro ?_ ?_))) (nextRound ?_)
      refine rn [(32, .dec true), (40, .ret (.t (.c (iT (numAt s 14 2 : Nat)))))] rfl (by (repeat' (first | exact trivial | exact rfl | exact num0 s 14 2 (by decide) (by omega) (by omega) | exact fun _ => num0 s 14 2 (by decide) (by omega) (by omega) | decide | refine And.intro ?_ ?_))) (nextRound ?_)
      refine rn [(32, .dec true), (40, .ret (.t (.c (iT (numAt s 16 2 : Nat)))))] rfl (by (repeat' (first | exact trivial | exact rfl | exact num0 s 16 2 (by decide) (by omega) (by omega) | exact fun _ => num0 s 16 2 (by decide) (by omega) (by omega) | decide | refine And.intro ?_ ?_))) (nextRound ?_)
      refine rn [(32, .dec true), (40, .ret (.t (.c (iT (numAt s 18 2 : Nat)))))] rfl (by (repeat' (first | exact trivial | exact rfl | exact num0 s 18 2 (by decide) (by omega) (by omega) | exact fun _ => num0 s 18 2 (by decide) (by omega) (by omega) | decide | refine And.intro ?_ ?_))) (nextRound ?_)
      refine rn [(32, .dec true), (40, .ret (.t (.c (iT (numAt s 20 2 : Nat)))))] rfl (by (repeat' (first | exact trivial | exact rfl | exact num0 s 20 2 (by decide) (by omega) (by omega) | exact fun _ => num0 s 20 2 (by decide) (by omega) (by omega) | decide | refine And.intro ?_ ?_))) (nextRound ?_)
      refine rn [(32, .dec true), (40, .ret (.t (.c (iT (numAt s 22 2 : Nat)))))] rfl (by (repeat' (first | exact trivial | exact rfl | exact num0 s 22 2 (by decide) (by omega) (by omega) | exact fun _ => num0 s 22 2 (by decide) (by omega) (by omega) | decide | refine And.intro ?_ ?_))) (nextRound ?_)
      refine rn [(32, .dec false)] rfl (by repeat' (first | exact trivial | exact rfl | refine And.intro ?_ ?_)) (nextExit rfl ?_)
      have hD := dn_num hz
      have b0 : IntKind.i64.wrap (byteAt s (Int.toNat 0)) = (numAt s 0 1 : Nat) := byte_w (o := 0) (by omega)
      have b1 : IntKind.i64.wrap (byteAt s (Int.toNat 1)) = (numAt s 1 1 : Nat) := byte_w (o := 1) (by omega)
      have hC := richeck0 a b c (dn s)
      have hT := fun h => ritext0 (dn s) (iok_bd (a := a) (b := b) (c := c) h)
      by_cases hk : ichk a b c (dn s) = 0
      · rw [hk] at hC
        have hT := hT (ichk_ok hk).2
        have hE : inoT (dn s) = .agg [.i .i64 (IntKind.i64.wrap (byteAt s (Int.toNat 0))), .i .i64 (IntKind.i64.wrap (byteAt s (Int.toNat 1))), .i .i64 (numAt s 2 2 : Nat), .i .i64 (numAt s 4 2 : Nat), .i .i64 (numAt s 6 2 : Nat), .i .i64 (numAt s 8 2 : Nat), .i .i64 (numAt s 10 2 : Nat), .i .i64 (numAt s 12 2 : Nat), .i .i64 (numAt s 14 2 : Nat), .i .i64 (numAt s 16 2 : Nat), .i .i64 (numAt s 18 2 : Nat), .i .i64 (numAt s 20 2 : Nat), .i .i64 (numAt s 22 2 : Nat), .i .i64 (numAt s 24 2 : Nat)] := by rw [hD, b0, b1]; rfl
        rw [hE] at hC hT
        by_cases he : S (ibytes (dn s)) = s
        · have hd : idok a b c s := ⟨hz, (enc_ok hk).2, (enc_ok hk).1.trans he⟩
          rw [he] at hT
          refine rnA [(45, .ret (.t (.c (iT 0)))), (49, .ret (.t (.c (.s s)))), (52, .dec false)] rfl (by (repeat' (first | exact trivial | exact rfl | exact hC | exact fun _ => hC | first | exact fun _ => hT | (simp [polB]) | refine And.intro ?_ ?_))) ?_
          rw [idec, if_pos ⟨hg, hd⟩, idece, if_pos hg, if_pos hd, hE]
          exact ret0 tysOk rfl (by repeat' (first | exact trivial | exact rfl | refine And.intro ?_ ?_)) rfl
        · have hd : ¬ idok a b c s := fun hd => he ((enc_ok hk).1.symm.trans hd.2.2)
          refine rnA [(45, .ret (.t (.c (iT 0)))), (49, .ret (.t (.c (.s (S (ibytes (dn s))))))), (52, .dec true)] rfl (by (repeat' (first | exact trivial | exact rfl | exact hC | exact fun _ => hC | first | exact fun _ => hT | (simp [polB, bt_iff2, he]) | refine And.intro ?_ ?_))) ?_
          rw [idec, if_neg (fun h => hd h.2), idece, if_pos hg, if_neg hd]
          exact ret0 tysOk rfl (by repeat' (first | exact trivial | exact rfl | refine And.intro ?_ ?_)) rfl
      · have hE : inoT (dn s) = .agg [.i .i64 (IntKind.i64.wrap (byteAt s (Int.toNat 0))), .i .i64 (IntKind.i64.wrap (byteAt s (Int.toNat 1))), .i .i64 (numAt s 2 2 : Nat), .i .i64 (numAt s 4 2 : Nat), .i .i64 (numAt s 6 2 : Nat), .i .i64 (numAt s 8 2 : Nat), .i .i64 (numAt s 10 2 : Nat), .i .i64 (numAt s 12 2 : Nat), .i .i64 (numAt s 14 2 : Nat), .i .i64 (numAt s 16 2 : Nat), .i .i64 (numAt s 18 2 : Nat), .i .i64 (numAt s 20 2 : Nat), .i .i64 (numAt s 22 2 : Nat), .i .i64 (numAt s 24 2 : Nat)] := by rw [hD, b0, b1]; rfl
        rw [hE] at hC
        have hd : ¬ idok a b c s := fun hd => by
          have := hd.2.1
          rw [(enc_no hk).2] at this
          exact hk this
        refine rnA [(45, .ret (.t (.c (iT (ichk a b c (dn s)))))), (47, .dec true), (52, .dec true)] rfl (by (repeat' (first | exact trivial | exact rfl | exact hC | exact fun _ => hC | simp [polB, hk] | refine And.intro ?_ ?_))) ?_
        rw [idec, if_neg (fun h => hd h.2), idece, if_pos hg, if_neg hd]
        exact ret0 tysOk rfl (by repeat' (first | exact trivial | exact rfl | refine And.intro ?_ ?_)) rfl
    · have hd : ¬ idok a b c s := fun hd => hz hd.1
      refine rn [(9, .ret (.t (.c (iT 0)))), (10, .dec false), (14, .dec true)] rfl (by (repeat' (first | exact trivial | exact rfl | exact gc_eq hg ▸ rcheck0 a b c | exact fun _ => gc_eq hg ▸ rcheck0 a b c | (simp; omega) | refine And.intro ?_ ?_))) ?_
      rw [idec, if_neg (fun h => hd h.2), idece, if_pos hg, if_neg hd]
      exact ret0 tysOk rfl (by repeat' (first | exact trivial | exact rfl | refine And.intro ?_ ?_)) rfl
  · refine rn [(9, .ret (.t (.c (iT 4)))), (10, .dec true)] rfl (by (repeat' (first | exact trivial | exact rfl | exact gc_ne hg ▸ rcheck0 a b c | exact fun _ => gc_ne hg ▸ rcheck0 a b c | refine And.intro ?_ ?_))) ?_
    rw [idec, if_neg (fun h => hg h.1), idece, if_neg hg]
    exact ret0 tysOk rfl (by repeat' (first | exact trivial | exact rfl | refine And.intro ?_ ?_)) rfl
theorem iwrites0 (a b c : Int) (n : Ino) : Fn0 Try.prog 6 [geoT a b c, inoT n] (.t (.c (.b true))) := by
  refine fn0 (fn := Try.f6) 45 rfl rfl rfl rfl rfl fun w => ?_
  refine rn [(13, .ret (.tup [.c (.s (ienc a b c n)), .c (iT (ience a b c n))])), (19, .ret (.tup [.c (.s (ienc a b c n)), .c (iT (ience a b c n))])), (36, .ret (.t (.c (iT (ichk a b c n))))), (39, .ret (.t (.c (iT (ichk a b c n))))), (43, .ret (.t (.c (.b true))))] rfl (by (repeat' (first | exact trivial | exact rfl | exact ienc0 a b c n | exact fun _ => ienc0 a b c n | first | exact rienc0 a b c n | exact fun _ => icheck0 a b c n | exact fun _ => richeck0 a b c n | exact fun _ => iworks0 | refine And.intro ?_ ?_))) ?_
  refine ret0 tysOk rfl ⟨?_, trivial⟩ rfl
  simp [polB, bq]
theorem inodeWrites_true (a b c : Int) (n : Ino) (w : World) : Calls Try.prog 6 #[geo a b c, ival n] w fun e w' => e = .returned (.bool true) ∧ RowKit.Below w.heap.size w w' := (iwrites0 a b c n).h w
end Cw
