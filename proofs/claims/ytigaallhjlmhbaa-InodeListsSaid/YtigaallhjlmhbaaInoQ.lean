/- The laws InodeParts, InodePatched, by reckoning. -/
import Derived.Test.YtigaallhjlmhbaaInoP
import Derived.Test.YtigaallhjlmhbaaInoW2
namespace Cw
open Go Vc
open Go.Proofs
set_option maxRecDepth 100000
structure Iw (n : Ino) : Prop where
  k : 0 ≤ n.k ∧ n.k ≤ 255
  l : 0 ≤ n.l ∧ n.l ≤ 255
  z : 0 ≤ n.z ∧ n.z ≤ 65535
  p : 0 ≤ n.p ∧ n.p ≤ 65535
  g : 0 ≤ n.g ∧ n.g ≤ 65535
  d : ∀ i, i < 8 → 0 ≤ n.d i ∧ n.d i ≤ 65535
  m : 0 ≤ n.m ∧ n.m ≤ 65535
theorem Ibd.w {n : Ino} (h : Ibd n) : Iw n := by
  obtain ⟨hk, hl, hz, hp, hg, hd, hm⟩ := h
  exact ⟨by omega, by omega, by omega, by omega, by omega, fun i hi => by have := hd i hi; omega, by omega⟩
theorem dn_wide {n : Ino} (h : Iw n) : dn (S (ibytes n)) = norm n := by
  obtain ⟨hk, hl, hz, hp, hg, hd, hm⟩ := h
  have d0 := hd 0 (by omega)
  have d1 := hd 1 (by omega)
  have d2 := hd 2 (by omega)
  have d3 := hd 3 (by omega)
  have d4 := hd 4 (by omega)
  have d5 := hd 5 (by omega)
  have d6 := hd 6 (by omega)
  have d7 := hd 7 (by omega)
  have g := fun o b hn ho => getn_at (ibytes n) (ibytes_length n) o b hn ho
  have e0 : ((getn (S (ibytes n)) 0 1 : Nat) : Int) = n.k := (congrArg Nat.cast (g 0 1 (by omega) (by omega))).trans (num_one (by omega) (by omega))
  have e1 : ((getn (S (ibytes n)) 1 1 : Nat) : Int) = n.l := (congrArg Nat.cast (g 1 1 (by omega) (by omega))).trans (num_one (by omega) (by omega))
  have e2 : ((getn (S (ibytes n)) 2 2 : Nat) : Int) = n.z := (congrArg Nat.cast (g 2 2 (by omega) (by omega))).trans (num_two (by omega) (by omega))
  have e3 : ((getn (S (ibytes n)) 4 2 : Nat) : Int) = n.p := (congrArg Nat.cast (g 4 2 (by omega) (by omega))).trans (num_two (by omega) (by omega))
  have e4 : ((getn (S (ibytes n)) 6 2 : Nat) : Int) = n.g := (congrArg Nat.cast (g 6 2 (by omega) (by omega))).trans (num_two (by omega) (by omega))
  have e5 : ((getn (S (ibytes n)) 24 2 : Nat) : Int) = n.m := (congrArg Nat.cast (g 24 2 (by omega) (by omega))).trans (num_two (by omega) (by omega))
  have e6 : ((getn (S (ibytes n)) 8 2 : Nat) : Int) = (n.d 0) := (congrArg Nat.cast (g 8 2 (by omega) (by omega))).trans (num_two (by omega) (by omega))
  have e7 : ((getn (S (ibytes n)) 10 2 : Nat) : Int) = (n.d 1) := (congrArg Nat.cast (g 10 2 (by omega) (by omega))).trans (num_two (by omega) (by omega))
  have e8 : ((getn (S (ibytes n)) 12 2 : Nat) : Int) = (n.d 2) := (congrArg Nat.cast (g 12 2 (by omega) (by omega))).trans (num_two (by omega) (by omega))
  have e9 : ((getn (S (ibytes n)) 14 2 : Nat) : Int) = (n.d 3) := (congrArg Nat.cast (g 14 2 (by omega) (by omega))).trans (num_two (by omega) (by omega))
  have e10 : ((getn (S (ibytes n)) 16 2 : Nat) : Int) = (n.d 4) := (congrArg Nat.cast (g 16 2 (by omega) (by omega))).trans (num_two (by omega) (by omega))
  have e11 : ((getn (S (ibytes n)) 18 2 : Nat) : Int) = (n.d 5) := (congrArg Nat.cast (g 18 2 (by omega) (by omega))).trans (num_two (by omega) (by omega))
  have e12 : ((getn (S (ibytes n)) 20 2 : Nat) : Int) = (n.d 6) := (congrArg Nat.cast (g 20 2 (by omega) (by omega))).trans (num_two (by omega) (by omega))
  have e13 : ((getn (S (ibytes n)) 22 2 : Nat) : Int) = (n.d 7) := (congrArg Nat.cast (g 22 2 (by omega) (by omega))).trans (num_two (by omega) (by omega))
  unfold dn norm
  rw [e0, e1, e2, e3, e4, e5, e6, e7, e8, e9, e10, e11, e12, e13]
/-- An inode with one part made anew. -/
def part (n : Ino) (q i : Nat) (x : Int) : Ino := match q with
  | 0 => ⟨n.k, x, n.z, n.p, n.g, n.d, n.m⟩
  | 1 => ⟨n.k, n.l, x, n.p, n.g, n.d, n.m⟩
  | 2 => ⟨n.k, n.l, n.z, x, n.g, n.d, n.m⟩
  | 3 => ⟨n.k, n.l, n.z, n.p, n.g, n.d, x⟩
  | _ => ⟨n.k, n.l, n.z, n.p, n.g, fun j => ([n.d 0, n.d 1, n.d 2, n.d 3, n.d 4, n.d 5, n.d 6, n.d 7].set i x).getD j 0, n.m⟩
def poff (q i : Nat) : Int := match q with
  | 0 => 1
  | 1 => 2
  | 2 => 4
  | 3 => 24
  | _ => 8 + 2 * i
def pby (q : Nat) : Int := match q with
  | 0 => 1
  | _ => 2
theorem item0 (i n : Int) : Fn0 Try.prog 42 [.c (iT i), .c (iT n)] (.tup [patT (ato 0 i 32 n) (atb 0 i 32 n), .c (iT (ate 0 i 32 n))]) := ⟨fun w => iitem_any i n w⟩
def pv (o b n : Int) : SV := .tup [patT (putoff o b n) (putb o b n), .c (iT (pute o b n))]
def av (f i m n : Int) : SV := .tup [patT (ato f i m n) (atb f i m n), .c (iT (ate f i m n))]
theorem dec_bad {a b c : Int} {m : Ino} (hg : Gok a b c) (hw : Iw m) (hm : ichk a b c m ≠ 0) : idece a b c (S (ibytes m)) = 60 := by
  rw [idece, if_pos hg, if_neg]
  rintro ⟨_, h, _⟩
  rw [dn_wide hw] at h
  have : ience a b c (norm m) = ichk a b c m := (enc_no (n := norm m) hm).2
  exact hm (this.symm.trans h)
theorem pute_ok {o b x : Int} (hb : b = 1 ∨ b = 2 ∨ b = 4) (h0 : 0 ≤ o) (h1 : o ≤ 64 - b) (x0 : 0 ≤ x) (x1 : x < 256 ^ b.toNat) : pute o b x = 0 := by
  rw [pute, if_pos ⟨hb, h0, h1, x0, x1⟩]
theorem pute_bd {o b x : Int} (h : pute o b x = 0) : 0 ≤ x ∧ x < 256 ^ b.toNat := by
  unfold pute at h
  split at h
  · rename_i hp; exact hp.2.2.2
  · cases h
theorem pt_one (l : List UInt8) (hl : l.length = 64) {o b x : Int} (h : pute o b x = 0) (hb : b = 1 ∨ b = 2 ∨ b = 4) (h0 : 0 ≤ o) (h1 : o ≤ 64 - b) : pte (S l) [pat o b x] = 0 ∧ pt (S l) [pat o b x] = S (one l (o, S (le b.toNat x.toNat))) := by
  obtain ⟨x0, x1⟩ := pute_bd h
  rw [pat_ok hb h0 h1 x0 x1]
  obtain ⟨e1, e2⟩ := pt_ok (S l) [(o, S (le b.toNat x.toNat))] (by rw [S_size, hl]) (by simp) (by
    simp [okp, finside, S_size, le_length]
    omega)
  exact ⟨e1, by rw [e2, S_data]; rfl⟩
end Cw
