/- The laws InodeFree, InodeBack, by reckoning. -/
import Derived.Test.YtigaallhjlmhbaaInoL
namespace Cw
open Go Vc
open Go.Proofs
set_option maxRecDepth 100000
theorem enc_ok {a b c : Int} {n : Ino} (h : ichk a b c n = 0) : ienc a b c n = S (ibytes n) ∧ ience a b c n = 0 := by
  obtain ⟨h1, h2⟩ := ipats_fine n (iok_bd (ichk_ok h).2)
  rw [ienc, if_pos h, ience, if_pos h]
  exact ⟨h2, h1⟩
theorem enc_no {a b c : Int} {n : Ino} (h : ichk a b c n ≠ 0) : ienc a b c n = ⟨#[]⟩ ∧ ience a b c n = ichk a b c n := by
  rw [ienc, if_neg h, ience, if_neg h]
  exact ⟨rfl, rfl⟩
theorem dec_ok {a b c : Int} {n : Ino} (h : ichk a b c n = 0) : idec a b c (S (ibytes n)) = norm n ∧ idece a b c (S (ibytes n)) = 0 := by
  obtain ⟨hg, hk⟩ := ichk_ok h
  have hb := dn_bytes (iok_bd hk)
  have hd : idok a b c (S (ibytes n)) := by
    refine ⟨rfl, ?_, ?_⟩
    · rw [hb]; exact (enc_ok (n := norm n) h).2
    · rw [hb]; exact (enc_ok (n := norm n) h).1
  rw [idec, if_pos ⟨hg, hd⟩, idece, if_pos hg, if_pos hd]
  exact ⟨hb, rfl⟩
theorem encOk0 {a b c : Int} {n : Ino} (h : ichk a b c n = 0) : Fn0 Try.prog 31 [geoT a b c, inoT n] (.tup [.c (.s (S (ibytes n))), .c (iT 0)]) := by
  have := ienc0 a b c n
  rwa [(enc_ok h).1, (enc_ok h).2] at this
theorem encNo0 {a b c : Int} {n : Ino} (h : ichk a b c n ≠ 0) : Fn0 Try.prog 31 [geoT a b c, inoT n] (.tup [.c (.s ⟨#[]⟩), .c (iT (ichk a b c n))]) := by
  have := ienc0 a b c n
  rwa [(enc_no h).1, (enc_no h).2] at this
theorem decBack0 {a b c : Int} {n : Ino} (h : ichk a b c n = 0) : Fn0 Try.prog 44 [geoT a b c, .c (.s (S (ibytes n)))] (.tup [inoT n, .c (iT 0)]) := by
  have := idec0 a b c (S (ibytes n)) (by rw [S_size, ibytes_length]; decide)
  rw [(dec_ok h).1, (dec_ok h).2] at this
  exact this
def iex : Ino := ⟨1, 1, 5, 0, 0, fun _ => 0, 0⟩
theorem iex_ok : ichk 1 1 1 iex = 0 ∧ S (ibytes iex) = fit ⟨#[1, 1, 5]⟩ := by decide +kernel
theorem iworks0 : Fn0 Try.prog 35 [] (.t (.c (.b true))) := by
  refine fn0 (fn := Try.f35) 16 rfl rfl rfl rfl rfl fun w => ?_
  refine rn [(6, .ret (.tup [.c (.s (S (ibytes iex))), .c (iT 0)])), (13, .ret (.t (.c (.s (fit ⟨#[1, 1, 5]⟩)))))] rfl (by (repeat' (first | exact trivial | exact rfl | exact encOk0 iex_ok.1 | exact fun _ => encOk0 iex_ok.1 | exact fun _ => fit0 _ (by decide) | refine And.intro ?_ ?_))) ?_
  refine ret0 tysOk rfl ⟨?_, trivial⟩ rfl
  rw [iex_ok.2]
  simp
def ifree (g : Int) : Ino := ⟨0, 0, 0, 0, g, fun _ => 0, 0⟩
theorem decOk0 (a b c : Int) (s : ByteArray) (hs : s.size ≤ 9223372036854775807) (hd : idece a b c s = 0) : Fn0 Try.prog 44 [geoT a b c, .c (.s s)] (.tup [inoT (dn s), .c (iT 0)]) := by
  have := idec0 a b c s hs
  have hg : Gok a b c := by
    unfold idece at hd
    split at hd
    · assumption
    · cases hd
  have hk : idok a b c s := by
    rw [idece, if_pos hg] at hd
    split at hd
    · assumption
    · cases hd
  rw [hd, idec, if_pos ⟨hg, hk⟩] at this
  exact this
theorem idece_ok {a b c : Int} {s : ByteArray} (hd : idece a b c s = 0) : Gok a b c ∧ idok a b c s := by
  unfold idece at hd
  split at hd
  · refine ⟨by assumption, ?_⟩
    split at hd
    · assumption
    · cases hd
  · cases hd
theorem encBack0 {a b c : Int} {s : ByteArray} (hd : idece a b c s = 0) : Fn0 Try.prog 31 [geoT a b c, inoT (dn s)] (.tup [.c (.s s), .c (iT 0)]) := by
  have := ienc0 a b c (dn s)
  rwa [(idece_ok hd).2.2.1, (idece_ok hd).2.2.2] at this
theorem decNo0 (a b c : Int) (s : ByteArray) (hs : s.size ≤ 9223372036854775807) (hd : idece a b c s ≠ 0) : Fn0 Try.prog 44 [geoT a b c, .c (.s s)] (.tup [inoT iz, .c (iT (idece a b c s))]) := by
  have := idec0 a b c s hs
  rw [idec, if_neg] at this
  · exact this
  · rintro ⟨hg, hk⟩
    exact hd (by rw [idece, if_pos hg, if_pos hk])
end Cw
