/- The laws WireWrites, WireReads, by reckoning. -/
import Derived.Test.YtekgkkohiindkaaWireV
namespace Cw
open Go Vc
open Go.Proofs
set_option maxRecDepth 100000
theorem dm_num (s : ByteArray) : dm s.data.toList = ⟨(numAt s 0 1 : Nat), (numAt s 1 1 : Nat), 1 - (numAt s 1 1 : Nat), (numAt s 2 2 : Nat), (numAt s 4 4 : Nat), (numAt s 8 4 : Nat)⟩ := by
  simp [dm, numAt]
theorem rwdec0 (s : ByteArray) (hs : s.size ≤ 9223372036854775807) : Fn0 Try.prog 46 [.c (.s s)] (.tup [msT (mdec s.data.toList), .c (iT (mdece s.data.toList))]) := by
  refine fn0 (fn := Try.f46) 37 rfl rfl rfl rfl rfl fun w => ?_
  by_cases hz : s.size = 13
  · have hD := dm_num s
    have b0 : IntKind.i64.wrap (byteAt s (Int.toNat 0)) = (numAt s 0 1 : Nat) := by
      have := byteAt_lt s 0
      rw [IntKind.wrap_i64, ← byteAt_num s 0 (by omega)]
      show (byteAt s 0 + _) % _ - _ = _
      omega
    have b1 : IntKind.i64.wrap (byteAt s (Int.toNat 1)) = (numAt s 1 1 : Nat) := by
      have := byteAt_lt s 1
      rw [IntKind.wrap_i64, ← byteAt_num s 1 (by omega)]
      show (byteAt s 1 + _) % _ - _ = _
      omega
    have b2 : IntKind.i64.wrap (1 - IntKind.i64.wrap (byteAt s (Int.toNat 1))) = 1 - (numAt s 1 1 : Nat) := by
      have := byteAt_lt s 1
      have h := byteAt_num s 1 (by omega)
      rw [b1, IntKind.wrap_i64]
      omega
    have hE : msT (dm s.data.toList) = .agg [.i .i64 (IntKind.i64.wrap (byteAt s (Int.toNat 0))), .i .i64 (IntKind.i64.wrap (byteAt s (Int.toNat 1))), .i .i64 (IntKind.i64.wrap (1 - IntKind.i64.wrap (byteAt s (Int.toNat 1)))), .i .i64 (numAt s 2 2 : Nat), .i .i64 (numAt s 4 4 : Nat), .i .i64 (numAt s 8 4 : Nat)] := by
      rw [hD, b2, b0, b1]; rfl
    have hC := rwcheck0 (dm s.data.toList)
    have hB := rwbytes0 (dm s.data.toList)
    rw [hE] at hC hB
    have hl : s.data.toList.length = 13 := by simpa using hz
    cases hk : mok (dm s.data.toList)
    · have e1 : mcheck (dm s.data.toList) = 210 := by simp [mcheck, hk]
      have e2 : dok s.data.toList = false := by simp [dok, hk]
      rw [e1] at hC
      refine rn [(7, .dec false), (20, .ret (.t (.c (iT (numAt s 2 2 : Nat))))), (22, .ret (.t (.c (iT (numAt s 4 4 : Nat))))), (24, .ret (.t (.c (iT (numAt s 8 4 : Nat))))), (27, .ret (.t (.c (iT 210)))), (29, .dec true), (34, .dec true)] rfl (by (repeat' (first | exact trivial | exact rfl | exact hC | exact fun _ => hC | first | exact num0 s 2 2 (by decide) (by omega) hs | exact num0 s 4 4 (by decide) (by omega) hs | exact num0 s 8 4 (by decide) (by omega) hs | (rw [hz]; decide) | decide | refine And.intro ?_ ?_))) ?_
      rw [mdec, mdece, e2]
      exact ret0 tysOk rfl (by repeat' (first | exact trivial | exact rfl | refine And.intro ?_ ?_)) rfl
    · have e1 : mcheck (dm s.data.toList) = 0 := by simp [mcheck, hk]
      have hB := hB hk
      rw [e1] at hC
      by_cases he : mbytes (dm s.data.toList) = s.data.toList
      · have e2 : dok s.data.toList = true := by simp only [dok, decide_eq_true_eq]; exact ⟨hl, hk, he⟩
        have hss : S s.data.toList = s := by simp [S]
        rw [he, hss] at hB
        refine rn [(7, .dec false), (20, .ret (.t (.c (iT (numAt s 2 2 : Nat))))), (22, .ret (.t (.c (iT (numAt s 4 4 : Nat))))), (24, .ret (.t (.c (iT (numAt s 8 4 : Nat))))), (27, .ret (.t (.c (iT 0)))), (31, .ret (.t (.c (.s s)))), (34, .dec false)] rfl (by (repeat' (first | exact trivial | exact rfl | exact hC | exact fun _ => hC | first | exact fun _ => hB | exact num0 s 2 2 (by decide) (by omega) hs | exact num0 s 4 4 (by decide) (by omega) hs | exact num0 s 8 4 (by decide) (by omega) hs | (rw [hz]; decide) | decide | simp [polB] | refine And.intro ?_ ?_))) ?_
        rw [mdec, mdece, e2]
        simp only [if_true]
        rw [hE]
        exact ret0 tysOk rfl (by repeat' (first | exact trivial | exact rfl | refine And.intro ?_ ?_)) rfl
      · have e2 : dok s.data.toList = false := by simp [dok, he]
        have hne : S (mbytes (dm s.data.toList)) ≠ s := fun h => he (by have := congrArg (fun b : ByteArray => b.data.toList) h; rwa [S_data] at this)
        refine rn [(7, .dec false), (20, .ret (.t (.c (iT (numAt s 2 2 : Nat))))), (22, .ret (.t (.c (iT (numAt s 4 4 : Nat))))), (24, .ret (.t (.c (iT (numAt s 8 4 : Nat))))), (27, .ret (.t (.c (iT 0)))), (31, .ret (.t (.c (.s (S (mbytes (dm s.data.toList))))))), (34, .dec true)] rfl (by (repeat' (first | exact trivial | exact rfl | exact hC | exact fun _ => hC | first | exact fun _ => hB | exact num0 s 2 2 (by decide) (by omega) hs | exact num0 s 4 4 (by decide) (by omega) hs | exact num0 s 8 4 (by decide) (by omega) hs | (rw [hz]; decide) | decide | simp [polB, bt_iff2, hne] | refine And.intro ?_ ?_))) ?_
        rw [mdec, mdece, e2]
        exact ret0 tysOk rfl (by repeat' (first | exact trivial | exact rfl | refine And.intro ?_ ?_)) rfl
  · have e2 : dok s.data.toList = false := by
      have : ¬ s.data.toList.length = 13 := by simpa using hz
      simp only [dok, decide_eq_false_iff_not]
      exact fun h => this h.1
    refine rn [(7, .dec true)] rfl (by (repeat' (first | exact trivial | exact rfl | exact trivial | exact fun _ => trivial | (simp; omega) | refine And.intro ?_ ?_))) ?_
    rw [mdec, mdece, e2]
    exact ret0 tysOk rfl (by repeat' (first | exact trivial | exact rfl | refine And.intro ?_ ?_)) rfl
end Cw
