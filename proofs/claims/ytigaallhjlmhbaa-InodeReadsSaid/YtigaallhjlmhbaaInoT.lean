/- The document's answer for the package inode, by reckoning: block, blocks, Check, Text, Encode. -/
import Derived.Test.YtigaallhjlmhbaaInoR
import Derived.Test.YtigaallhjlmhbaaRefGeomW3
import Derived.Test.YtigaallhjlmhbaaNumV
namespace Cw
open Go Vc
open Go.Proofs
set_option maxRecDepth 100000
theorem rcheck0 (a b c : Int) : Fn0 Try.prog 54 [geoT a b c] (.t (.c (iT (gcheck a b c)))) := ⟨fun w => rcheck_any a b c w⟩
theorem rinodes0 (a b c : Int) : Fn0 Try.prog 67 [geoT a b c] (.t (.c (iT (ginodes a b c)))) := ⟨fun w => rinodes_any a b c w⟩
theorem rwhat0 (a b c s : Int) : Fn0 Try.prog 88 [geoT a b c, .c (iT s)] (.tup [.c (iT (wk a b c s)), .c (iT (wn a b c s)), .c (iT (we a b c s))]) := ⟨fun w => rwhat_any a b c s w⟩
theorem rblock0 (a b c x : Int) : Fn0 Try.prog 76 [geoT a b c, .c (iT x)] (.t (.c (.b (okb a b c x)))) := by
  refine fn0 (fn := Try.f76) 23 rfl rfl rfl rfl rfl fun w => ?_
  refine rn [] rfl (by repeat' (first | exact trivial | exact rfl | refine And.intro ?_ ?_)) ?_
  refine ⟨fun h => ?_, fun h => ?_⟩
  · refine rn [] rfl (by repeat' (first | exact trivial | exact rfl | refine And.intro ?_ ?_)) ?_
    refine ret0 tysOk rfl ⟨?_, trivial⟩ rfl
    simp [okb, h]
  · refine rn [(13, .ret (.tup [.c (iT (wk a b c x)), .c (iT (wn a b c x)), .c (iT (we a b c x))]))] rfl (by (repeat' (first | exact trivial | exact rfl | exact rwhat0 a b c x | exact fun _ => rwhat0 a b c x | refine And.intro ?_ ?_))) ?_
    refine ret0 tysOk rfl ⟨?_, trivial⟩ rfl
    simp [okb, h]
theorem rblocks0 (a b c : Int) (n : Ino) : Fn0 Try.prog 68 [geoT a b c, inoT n] (.t (.c (.b (iblk a b c n)))) := by
  refine fn0 (fn := Try.f68) 21 rfl rfl rfl rfl rfl fun w => ?_
  refine rn [] rfl (by repeat' (first | exact trivial | exact rfl | refine And.intro ?_ ?_)) ?_
  refine At.unroll ?_
  refine rn [(7, .dec true), (15, .ret (.t (.c (.b (okb a b c (n.d 0))))))] rfl (by (repeat' (first | exact trivial | exact rfl | exact rblock0 a b c (n.d 0) | exact fun _ => rblock0 a b c (n.d 0) | decide | refine And.intro ?_ ?_))) ?_
  refine ⟨fun h => ?_, fun h => ?_⟩
  · refine rn [] rfl (by repeat' (first | exact trivial | exact rfl | refine And.intro ?_ ?_)) (nextRet ?_)
    refine ret0 tysOk rfl ⟨?_, trivial⟩ rfl
    have hf : okb a b c (n.d 0) = false := by simpa using h
    simp [iblk, ids, hf]
  have q0 : okb a b c (n.d 0) = true := by simpa using h
  clear h
  refine rn [] rfl (by repeat' (first | exact trivial | exact rfl | refine And.intro ?_ ?_)) (nextRound ?_)
  refine rn [(7, .dec true), (15, .ret (.t (.c (.b (okb a b c (n.d 1))))))] rfl (by (repeat' (first | exact trivial | exact rfl | exact rblock0 a b c (n.d 1) | exact fun _ => rblock0 a b c (n.d 1) | decide | refine And.intro ?_ ?_))) ?_
  refine ⟨fun h => ?_, fun h => ?_⟩
  · refine rn [] rfl (by repeat' (first | exact trivial | exact rfl | refine And.intro ?_ ?_)) (nextRet ?_)
    refine ret0 tysOk rfl ⟨?_, trivial⟩ rfl
    have hf : okb a b c (n.d 1) = false := by simpa using h
    simp [iblk, ids, hf]
  have q1 : okb a b c (n.d 1) = true := by simpa using h
  clear h
  refine rn [] rfl (by repeat' (first | exact trivial | exact rfl | refine And.intro ?_ ?_)) (nextRound ?_)
  refine rn [(7, .dec true), (15, .ret (.t (.c (.b (okb a b c (n.d 2))))))] rfl (by (repeat' (first | exact trivial | exact rfl | exact rblock0 a b c (n.d 2) | exact fun _ => rblock0 a b c (n.d 2) | decide | refine And.intro ?_ ?_))) ?_
  refine ⟨fun h => ?_, fun h => ?_⟩
  · refine rn [] rfl (by repeat' (first | exact trivial | exact rfl | refine And.intro ?_ ?_)) (nextRet ?_)
    refine ret0 tysOk rfl ⟨?_, trivial⟩ rfl
    have hf : okb a b c (n.d 2) = false := by simpa using h
    simp [iblk, ids, hf]
  have q2 : okb a b c (n.d 2) = true := by simpa using h
  clear h
  refine rn [] rfl (by repeat' (first | exact trivial | exact rfl | refine And.intro ?_ ?_)) (nextRound ?_)
  refine rn [(7, .dec true), (15, .ret (.t (.c (.b (okb a b c (n.d 3))))))] rfl (by (repeat' (first | exact trivial | exact rfl | exact rblock0 a b c (n.d 3) | exact fun _ => rblock0 a b c (n.d 3) | decide | refine And.intro ?_ ?_))) ?_
  refine ⟨fun h => ?_, fun h => ?_⟩
  · refine rn [] rfl (by repeat' (first | exact trivial | exact rfl | refine And.intro ?_ ?_)) (nextRet ?_)
    refine ret0 tysOk rfl ⟨?_, trivial⟩ rfl
    have hf : okb a b c (n.d 3) = false := by simpa using h
    simp [iblk, ids, hf]
  have q3 : okb a b c (n.d 3) = true := by simpa using h
  clear h
  refine rn [] rfl (by repeat' (first | exact trivial | exact rfl | refine And.intro ?_ ?_)) (nextRound ?_)
  refine rn [(7, .dec true), (15, .ret (.t (.c (.b (okb a b c (n.d 4))))))] rfl (by (repeat' (first | exact trivial | exact rfl | exact rblock0 a b c (n.d 4) | exact fun _ => rblock0 a b c (n.d 4) | decide | refine And.intro ?_ ?_))) ?_
  refine ⟨fun h => ?_, fun h => ?_⟩
  · refine rn [] rfl (by repeat' (first | exact trivial | exact rfl | refine And.intro ?_ ?_)) (nextRet ?_)
    refine ret0 tysOk rfl ⟨?_, trivial⟩ rfl
    have hf : okb a b c (n.d 4) = false := by simpa using h
    simp [iblk, ids, hf]
  have q4 : okb a b c (n.d 4) = true := by simpa using h
  clear h
  refine rn [] rfl (by repeat' (first | exact trivial | exact rfl | refine And.intro ?_ ?_)) (nextRound ?_)
  refine rn [(7, .dec true), (15, .ret (.t (.c (.b (okb a b c (n.d 5))))))] rfl (by (repeat' (first | exact trivial | exact rfl | exact rblock0 a b c (n.d 5) | exact fun _ => rblock0 a b c (n.d 5) | decide | refine And.intro ?_ ?_))) ?_
  refine ⟨fun h => ?_, fun h => ?_⟩
  · refine rn [] rfl (by repeat' (first | exact trivial | exact rfl | refine And.intro ?_ ?_)) (nextRet ?_)
    refine ret0 tysOk rfl ⟨?_, trivial⟩ rfl
    have hf : okb a b c (n.d 5) = false := by simpa using h
    simp [iblk, ids, hf]
  have q5 : okb a b c (n.d 5) = true := by simpa using h
  clear h
  refine rn [] rfl (by repeat' (first | exact trivial | exact rfl | refine And.intro ?_ ?_)) (nextRound ?_)
  refine rn [(7, .dec true), (15, .ret (.t (.c (.b (okb a b c (n.d 6))))))] rfl (by (repeat' (first | exact trivial | exact rfl | exact rblock0 a b c (n.d 6) | exact fun _ => rblock0 a b c (n.d 6) | decide | refine And.intro ?_ ?_))) ?_
  refine ⟨fun h => ?_, fun h => ?_⟩
  · refine rn [] rfl (by repeat' (first | exact trivial | exact rfl | refine And.intro ?_ ?_)) (nextRet ?_)
    refine ret0 tysOk rfl ⟨?_, trivial⟩ rfl
    have hf : okb a b c (n.d 6) = false := by simpa using h
    simp [iblk, ids, hf]
  have q6 : okb a b c (n.d 6) = true := by simpa using h
  clear h
  refine rn [] rfl (by repeat' (first | exact trivial | exact rfl | refine And.intro ?_ ?_)) (nextRound ?_)
  refine rn [(7, .dec true), (15, .ret (.t (.c (.b (okb a b c (n.d 7))))))] rfl (by (repeat' (first | exact trivial | exact rfl | exact rblock0 a b c (n.d 7) | exact fun _ => rblock0 a b c (n.d 7) | decide | refine And.intro ?_ ?_))) ?_
  refine ⟨fun h => ?_, fun h => ?_⟩
  · refine rn [] rfl (by repeat' (first | exact trivial | exact rfl | refine And.intro ?_ ?_)) (nextRet ?_)
    refine ret0 tysOk rfl ⟨?_, trivial⟩ rfl
    have hf : okb a b c (n.d 7) = false := by simpa using h
    simp [iblk, ids, hf]
  have q7 : okb a b c (n.d 7) = true := by simpa using h
  clear h
  refine rn [] rfl (by repeat' (first | exact trivial | exact rfl | refine And.intro ?_ ?_)) (nextRound ?_)
  refine rn [(7, .dec false)] rfl (by repeat' (first | exact trivial | exact rfl | refine And.intro ?_ ?_)) (nextExit rfl ?_)
  refine rnA [(20, .ret (.t (.c (.b (okb a b c n.m)))))] rfl (by (repeat' (first | exact trivial | exact rfl | exact rblock0 a b c n.m | exact fun _ => rblock0 a b c n.m | refine And.intro ?_ ?_))) ?_
  refine ret0 tysOk rfl ⟨?_, trivial⟩ rfl
  simp [iblk, ids, q0, q1, q2, q3, q4, q5, q6, q7]
theorem gc_ne {a b c : Int} (h : ¬ Gok a b c) : gcheck a b c = 4 := by rw [gcheck, if_neg h]
theorem gc_eq {a b c : Int} (h : Gok a b c) : gcheck a b c = 0 := by rw [gcheck, if_pos h]
/-- What Check tells of the kinds. -/
theorem rk0 {a b c : Int} {n : Ino} (hk : n.k = 0) : (!polB true
                (n.k == 0 && (n.l == 0 && (n.z == 0 && (n.p == 0 && (n.g == n.g && (n.d 0 == 0 && (n.d 1 == 0 && (n.d 2 == 0 && (n.d 3 == 0 && (n.d 4 == 0 && (n.d 5 == 0 && (n.d 6 == 0 && (n.d 7 == 0 && true))))))) && (n.m == 0 && true))))))) ||
            !(decide (0 ≤ n.l) && decide (n.l ≤ 255) && decide (0 ≤ n.z) && decide (n.z ≤ 2560)) || decide (n.g < 0) || decide (65535 < n.g) || !iblk a b c n) = !iok a b c n := by
  by_cases hb : ibare n = true
  · have hb' := hb
    simp only [ibare, ids, Bool.and_eq_true, beq_iff_eq, List.all_cons, List.all_nil, and_true] at hb'
    obtain ⟨⟨⟨⟨⟨q0, q1⟩, q2⟩, q3⟩, q4, q5, q6, q7, q8, q9, q10, q11⟩, q12⟩ := hb'
    have hi : iblk a b c n = true := by simp [iblk, ids, okb, q4, q5, q6, q7, q8, q9, q10, q11, q12]
    rw [Bool.eq_iff_iff]
    simp [iok, hk, hb, hi, ibad, polB, q0, q1, q2, q3, q4, q5, q6, q7, q8, q9, q10, q11, q12]
  · have hb' := hb
    have h2 : ((n.k == 0 && (n.l == 0 && (n.z == 0 && (n.p == 0 && (n.g == n.g && (n.d 0 == 0 && (n.d 1 == 0 && (n.d 2 == 0 && (n.d 3 == 0 && (n.d 4 == 0 && (n.d 5 == 0 && (n.d 6 == 0 && (n.d 7 == 0 && true))))))) && (n.m == 0 && true)))))))) = ibare n := by
      rw [Bool.eq_iff_iff]
      simp [ibare, ids]
      omega
    rw [h2]
    have h3 : ibare n = false := by simpa using hb
    simp [h3, polB, iok, hk]
theorem rk1 {a b c : Int} {n : Ino} (hk : n.k = 1) : (!(n.p == 0) || !(decide (0 ≤ n.l) && decide (n.l ≤ 255) && decide (0 ≤ n.z) && decide (n.z ≤ 2560)) || decide (n.g < 0) || decide (65535 < n.g) || !iblk a b c n) = !iok a b c n := by
  rw [Bool.eq_iff_iff]
  cases hi : iblk a b c n
  · simp [iok, hk, hi]
  · simp [iok, hk, hi, ibad]
    omega
theorem rk2 {a b c : Int} {n : Ino} (hk : n.k = 2) : (!(n.z.tmod 64 == 0 && decide (1 ≤ n.p) && decide (n.p ≤ ginodes a b c)) || !(decide (0 ≤ n.l) && decide (n.l ≤ 255) && decide (0 ≤ n.z) && decide (n.z ≤ 2560)) || decide (n.g < 0) || decide (65535 < n.g) || !iblk a b c n) = !iok a b c n := by
  have hz : n.z.tmod 64 = 0 ↔ n.z % 64 = 0 := by rw [← Int.dvd_iff_tmod_eq_zero, Int.dvd_iff_emod_eq_zero]
  rw [Bool.eq_iff_iff]
  cases hi : iblk a b c n
  · simp [iok, hk, hi]
  · simp [iok, hk, hi, ibad, idir, hz]
    omega
theorem richeck0 (a b c : Int) (n : Ino) : Fn0 Try.prog 34 [geoT a b c, inoT n] (.t (.c (iT (ichk a b c n)))) := by
  refine fn0 (fn := Try.f34) 82 rfl rfl rfl rfl rfl fun w => ?_
  by_cases hg : Gok a b c
  · have hi : ichk a b c n = if iok a b c n = true then 0 else 60 := by rw [ichk, if_pos hg]
    refine rn [(8, .ret (.t (.c (iT 0)))), (9, .dec false)] rfl (by (repeat' (first | exact trivial | exact rfl | exact gc_eq hg ▸ rcheck0 a b c | exact fun _ => gc_eq hg ▸ rcheck0 a b c | refine And.intro ?_ ?_))) ?_
    refine ⟨fun h0 => ?_, fun h0 => ?_⟩
    · have hk : n.k = 0 := by simpa using h0
      refine rn [(79, .ret (.t (.c (.b (iblk a b c n)))))] rfl (by (repeat' (first | exact trivial | exact rfl | exact rblocks0 a b c n | exact fun _ => rblocks0 a b c n | refine And.intro ?_ ?_))) ?_
      refine ⟨fun h1 => ?_, fun h1 => ?_⟩
      all_goals
        refine rn [] rfl trivial ?_
        refine ret0 tysOk rfl ⟨?_, trivial⟩ rfl
        have h2 := (rk0 hk (a := a) (b := b) (c := c)).symm.trans h1
        rw [hi]
        simp at h2
        simp [h2]
    refine rn [] rfl trivial ?_
    refine ⟨fun h2 => ?_, fun h2 => ?_⟩
    · have hk : n.k = 1 := by simpa using h2
      refine rn [(79, .ret (.t (.c (.b (iblk a b c n)))))] rfl (by (repeat' (first | exact trivial | exact rfl | exact rblocks0 a b c n | exact fun _ => rblocks0 a b c n | refine And.intro ?_ ?_))) ?_
      refine ⟨fun h1 => ?_, fun h1 => ?_⟩
      all_goals
        refine rn [] rfl trivial ?_
        refine ret0 tysOk rfl ⟨?_, trivial⟩ rfl
        have h2 := (rk1 hk (a := a) (b := b) (c := c)).symm.trans h1
        rw [hi]
        simp at h2
        simp [h2]
    refine rn [] rfl trivial ?_
    refine ⟨fun h3 => ?_, fun h3 => ?_⟩
    · have hk : n.k = 2 := by simpa using h3
      refine rn [(39, .ret (.t (.c (iT (ginodes a b c))))), (79, .ret (.t (.c (.b (iblk a b c n)))))] rfl (by (repeat' (first | exact trivial | exact rfl | exact rblocks0 a b c n | exact fun _ => rblocks0 a b c n | first | exact fun _ => rinodes0 a b c | decide | exact fun _ => by decide | refine And.intro ?_ ?_))) ?_
      refine ⟨fun h1 => ?_, fun h1 => ?_⟩
      all_goals
        refine rn [] rfl trivial ?_
        refine ret0 tysOk rfl ⟨?_, trivial⟩ rfl
        have h2 := (rk2 hk (a := a) (b := b) (c := c)).symm.trans h1
        rw [hi]
        simp at h2
        simp [h2]
    have hf : iok a b c n = false := by
      have k0 : n.k ≠ 0 := by simpa using h0
      have k1 : n.k ≠ 1 := by simpa using h2
      have k2 : n.k ≠ 2 := by simpa using h3
      simp [iok, k0, k1, k2]
    refine rn [(79, .ret (.t (.c (.b (iblk a b c n))))), (81, .dec true)] rfl (by (repeat' (first | exact trivial | exact rfl | exact rblocks0 a b c n | exact fun _ => rblocks0 a b c n | refine And.intro ?_ ?_))) ?_
    refine ret0 tysOk rfl ⟨?_, trivial⟩ rfl
    rw [hi, hf]
    rfl
  · refine rn [(8, .ret (.t (.c (iT 4)))), (9, .dec true)] rfl (by (repeat' (first | exact trivial | exact rfl | exact gc_ne hg ▸ rcheck0 a b c | exact fun _ => gc_ne hg ▸ rcheck0 a b c | refine And.intro ?_ ?_))) ?_
    refine ret0 tysOk rfl ⟨?_, trivial⟩ rfl
    rw [ichk, if_neg hg]
end Cw
