/- The document's answer for the package wire, by reckoning: Bytes, Encode, Decode. -/
import Derived.Test.YtekgkkohiindkaaNumV
import Derived.Test.YtekgkkohiindkaaWireTurn
import Derived.Test.YtekgkkohiindkaaWireRef
namespace Cw
open Go Vc
open Go.Proofs
set_option maxRecDepth 100000
def msT (m : Ms) : TV := .agg [iT m.k, iT m.f, iT m.t, iT m.r, iT m.s, iT m.e]
theorem rwcheck0 (m : Ms) : Fn0 Try.prog 43 [msT m] (.t (.c (iT (mcheck m)))) := ⟨fun w => rwcheck_any m w⟩
theorem wcheck0 (m : Ms) : Fn0 Try.prog 12 [msT m] (.t (.c (iT (mcheck m)))) := ⟨fun w => wcheck_any m w⟩
theorem wenc0 (m : Ms) : Fn0 Try.prog 68 [msT m] (.tup [.c (.s (S (menc m))), .c (iT (mcheck m))]) := ⟨fun w => wenc_any m w⟩
theorem wdec0 (s : ByteArray) (hs : s.size ≤ 9223372036854775807) : Fn0 Try.prog 45 [.c (.s s)] (.tup [msT (mdec s.data.toList), .c (iT (mdece s.data.toList))]) := ⟨fun w => wdec_any s hs w⟩
/-- The sum of bytes, as a number. -/
def isum (l : List UInt8) : Int := l.foldr (fun b n => (b.toNat : Int) + n) 0
theorem isum_append (l m : List UInt8) : isum (l ++ m) = isum l + isum m := by
  induction l with
  | nil => simp [isum]
  | cons b l ih => simp only [isum, List.cons_append, List.foldr_cons] at *; omega
theorem isum_bd (l : List UInt8) : 0 ≤ isum l ∧ isum l ≤ 255 * l.length := by
  induction l with
  | nil => simp [isum]
  | cons b l ih => have := b.toNat_lt; simp only [isum, List.foldr_cons, List.length_cons] at *; omega
theorem isum_succ (l : List UInt8) (k : Nat) (h : k < l.length) : isum (l.take (k + 1)) = isum (l.take k) + (l[k].toNat : Int) := by
  rw [List.take_succ_eq_append_getElem h, isum_append]
  simp [isum]
theorem bsum_isum (l : List UInt8) : ((bsum l).toNat : Int) = isum l % 256 := by
  induction l with
  | nil => rfl
  | cons b l ih =>
    have h : bsum (b :: l) = b + bsum l := by
      have := bsum_append [b] l
      simpa [bsum] using this
    rw [h, UInt8.toNat_add]
    simp only [isum, List.foldr_cons] at *
    omega
set_option maxRecDepth 100000 in
set_option maxHeartbeats 4000000 in
theorem rwbytes0 (m : Ms) (h : mok m = true) : Fn0 Try.prog 70 [msT m] (.t (.c (.s (S (mbytes m))))) := by
  obtain ⟨⟨k0, k1⟩, ⟨f0, f1⟩, ⟨r0, r1⟩, ⟨s0, s1⟩, ⟨e0, e1⟩⟩ := mpre_bound m h
  clear h
  obtain ⟨k, f, t, r, s, e⟩ := m
  simp only at *
  obtain ⟨k, rfl⟩ := Int.eq_ofNat_of_zero_le k0
  obtain ⟨f, rfl⟩ := Int.eq_ofNat_of_zero_le f0
  obtain ⟨r, rfl⟩ := Int.eq_ofNat_of_zero_le r0
  obtain ⟨s, rfl⟩ := Int.eq_ofNat_of_zero_le s0
  obtain ⟨e, rfl⟩ := Int.eq_ofNat_of_zero_le e0
  have hall : (⟨#[UInt8.ofNat (IntKind.u8.wrap (k : Int)).toNat, UInt8.ofNat (IntKind.u8.wrap (f : Int)).toNat]⟩ : ByteArray) ++ S (le 2 r) ++ S (le 4 s) ++ S (le 4 e) = S (mbody ⟨k, f, t, r, s, e⟩) := by
    have qk : IntKind.u8.wrap (k : Int) = k := by rw [IntKind.wrap_u8]; omega
    have qf : IntKind.u8.wrap (f : Int) = f := by rw [IntKind.wrap_u8]; omega
    rw [qk, qf, show (⟨#[UInt8.ofNat (k : Int).toNat, UInt8.ofNat (f : Int).toNat]⟩ : ByteArray) = S (le 1 k ++ le 1 f) by simp [S, le_one], S_append, S_append, S_append]
    simp [mbody]
  have hm12 := mbody_length ⟨k, f, t, r, s, e⟩
  have hmb : mbytes ⟨k, f, t, r, s, e⟩ = mbody ⟨k, f, t, r, s, e⟩ ++ [bsum (mbody ⟨k, f, t, r, s, e⟩)] := rfl
  refine fn0 (fn := Try.f70) 45 rfl rfl rfl rfl rfl fun w => ?_
  refine rn [(16, .ret (.t (.c (.s (S (le 2 r)))))), (20, .ret (.t (.c (.s (S (le 4 s)))))), (24, .ret (.t (.c (.s (S (le 4 e))))))] rfl ?_ ?_
  · repeat' (first | exact trivial | exact rfl | exact text0 2 r (by decide) (by omega) | exact text0 4 s (by decide) (by omega) | exact text0 4 e (by decide) (by omega) | (simp only [ByteArray.size_append, S_size, le_length, sz2]; decide) | refine And.intro ?_ ?_)
  generalize mbody ⟨k, f, t, r, s, e⟩ = bo at *
  refine At.loop (X := (k : Nat) ×' k ≤ 12) 1 (fun k => 12 - k.1)
    (fun k => [(3, .t (.c (.s (S bo)))), (4, .t (.c (iT (isum (bo.take k.1))))), (5, .t (.c (iT (k.1 : Nat))))])
    (fun _ => H0) ⟨0, by omega⟩ [] (fun k => wf rfl rfl) (by (repeat' (first | exact trivial | exact rfl | exact hall | exact fun _ => hall | refine And.intro ?_ ?_))) (by repeat' (first | exact trivial | exact rfl | refine And.intro ?_ ?_)) rfl fun k => ?_
  obtain ⟨k, hk⟩ := k
  have hz : (S bo).size = 12 := by rw [S_size, hm12]
  refine rn [] rfl (by repeat' (first | exact trivial | exact rfl | refine And.intro ?_ ?_)) ?_
  refine ⟨fun h => ?_, fun h => ?_⟩
  · have hlt : k < 12 := by have : (k : Int) < ((S bo).size : Int) := of_decide_eq_true h; omega
    have hb := isum_bd (bo.take k)
    have hbl : (bo.take k).length ≤ 12 := by rw [List.length_take]; omega
    have hv : byteAt (S bo) k = ((bo[k]'(by omega)).toNat : Int) := by
      unfold byteAt
      rw [getElem?_pos (S bo) k (by omega)]
      rfl
    have hlt8 := (bo[k]'(by omega)).toNat_lt
    refine rn [] rfl ⟨⟨by omega, by show (k : Int) < ((S bo).size : Int); rw [hz]; omega⟩, trivial⟩ ?_
    refine roundEnd ⟨k + 1, by omega⟩ [] (by show 12 - (k + 1) < 12 - k; omega) ?_ (by repeat' (first | exact trivial | exact rfl | refine And.intro ?_ ?_)) rfl
    refine ⟨rfl, ?_, ?_, trivial⟩
    · show IntKind.i64.wrap (isum (bo.take k) + IntKind.i64.wrap (byteAt (S bo) (k : Int).toNat)) = isum (bo.take (k + 1))
      rw [Int.toNat_natCast, hv, isum_succ _ _ (by omega), IntKind.wrap_i64, IntKind.wrap_i64]
      omega
    · show IntKind.i64.wrap ((k : Int) + 1) = ((k + 1 : Nat) : Int)
      rw [IntKind.wrap_i64]
      omega
  · have hlt : k = 12 := by have : ¬ (k : Int) < ((S bo).size : Int) := of_decide_eq_false h; omega
    subst hlt
    refine rn [] rfl (by repeat' (first | exact trivial | exact rfl | refine And.intro ?_ ?_)) (roundExit rfl ?_)
    refine rnA [] rfl (by (repeat' (first | exact trivial | exact rfl | exact trivial | exact fun _ => trivial | first | decide | (simp only [S_size, sz1, hm12]; decide) | refine And.intro ?_ ?_))) ?_
    refine ret0 tysOk rfl ⟨?_, trivial⟩ rfl
    rw [hmb, ← S_append]
    have hb := isum_bd bo
    have hi := bsum_isum bo
    have ht : bo.take 12 = bo := List.take_of_length_le (by omega)
    dsimp only
    rw [ht]
    have : (UInt8.ofNat (IntKind.u8.wrap ((isum bo).tmod 256)).toNat) = bsum bo := by
      apply UInt8.toNat_inj.1
      rw [IntKind.wrap_u8, Int.tmod_eq_emod_of_nonneg (by omega)]
      simp only [UInt8.toNat_ofNat']
      have := (bsum bo).toNat_lt
      omega
    rw [this]
    rfl
end Cw
