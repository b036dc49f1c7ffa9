/- The document's fence and patches: cutwaterref04 and cutwaterref01, by reckoning. -/
import Derived.Test.YtokhlioogjalkaaGreatDisk8
namespace Cw
open Go Vc
open Go.Proofs
set_option maxRecDepth 100000
theorem rtext0 (n x : Nat) (hn : n ≤ 8) (hx : x < 9223372036854775808) : Fn0 Tryz.prog 49 [.c (iT x), .c (iT n)] (.t (.c (.s (S (le n x))))) := ⟨fun w => text_any n x hn hx w⟩
theorem rnum0 (s : ByteArray) (o n : Nat) (hn : n ≤ 7) (h : o + n ≤ s.size) (hs : s.size ≤ 9223372036854775807) : Fn0 Tryz.prog 86 [.c (.s s), .c (iT o), .c (iT n)] (.t (.c (iT (numAt s o n : Nat)))) :=
  ⟨fun w => (num_any s o n hn h hs w).mono fun e w' ⟨h, hw⟩ => ⟨h, hw ▸ RowKit.Below.refl _ _⟩⟩
theorem rblank0 : Fn0 Tryz.prog 24 [] (.t (.c (.s B0))) := ⟨fun w => rblank_any w⟩
theorem rcheck0 (p : Pt) : Fn0 Tryz.prog 56 [ptT p] (.t (.c (iT (fcheck p.1 p.2.size)))) := ⟨fun w => rfcheck_any p.1 p.2 w⟩
theorem rone0 (s : ByteArray) (p : Pt) (hs : s.size = 64) (hp : okp p = true) : Fn0 Tryz.prog 57 [.c (.s s), ptT p] (.t (.c (.s (pt s [p])))) := ⟨fun w => by
  have h := okp_iff hp
  have e0 : pte s [p] = 0 := by simp [pte, hs, hp]
  have e1 : pt s [p] = S (one s.data.toList (p.1, p.2)) := by
    rw [pt, if_pos e0]
    rfl
  have := one_any s p.1.toNat p.2 hs h.2.1 h.2.2.1 (by omega) w
  rw [Int.toNat_of_nonneg h.1, ← e1] at this
  exact this⟩
theorem rpadded0 (s : ByteArray) (hs : s.size = 12) : Fn0 Tryz.prog 48 [.c (.s s)] (.t (.c (.s (s ++ S (List.replicate 52 0))))) := by
  refine fn0 (fn := Tryz.f48) 10 rfl rfl rfl rfl rfl fun w => ?_
  have w1 : IntKind.i64.wrap (64 - (s.size : Int)) = 52 := by rw [hs]; rfl
  have hz : s.size + (S (List.replicate 52 0)).size ≤ 9223372036854775807 := by rw [hs, S_size]; decide
  have c1 : (0 : Int) ≤ IntKind.i64.wrap (64 - (s.size : Int)) := by rw [w1]; decide
  have c2 : 1 * (IntKind.i64.wrap (64 - (s.size : Int))).toNat ≤ 281474976710656 := by rw [w1]; decide
  have c3 : (IntKind.i64.wrap (64 - (s.size : Int))).toNat ≤ maxLen := by rw [w1]; decide
  have c4 : (repl (IntKind.i64.wrap (64 - (s.size : Int))).toNat [CV.i .u8 0]).map (CV.den e0) = (S (List.replicate 52 0)).data.toList.map (fun c => Value.int .u8 c.toNat) := by rw [w1]; rfl
  have c5 : (IntKind.i64.wrap (64 - (s.size : Int))).toNat = (S (List.replicate 52 0)).size := by rw [w1]; rfl
  refine rn [(8, .ret (.t (.c (.s (S (List.replicate 52 0))))))] rfl (by (repeat' (first | exact trivial | exact rfl | exact trivial | exact fun _ => trivial | first | exact hz | exact c1 | exact c2 | exact c3 | exact c4 | exact c5 | refine And.intro ?_ ?_))) ?_
  exact ret0 tysOk rfl (by repeat' (first | exact trivial | exact rfl | refine And.intro ?_ ?_)) rfl
theorem rwall0 (a b : Nat) (ha : a < 4294967296) (hb : b < 4294967296) : Fn0 Tryz.prog 25 [.agg [iT a, iT b]] (.t (.c (.s (wallB a b)))) := by
  refine fn0 (fn := Tryz.f25) 12 rfl rfl rfl rfl rfl fun w => ?_
  have z1 : fenc.size + (S (le 4 a)).size ≤ 9223372036854775807 := by rw [S_size, le_length]; decide
  have z2 : (fenc ++ S (le 4 a)).size + (S (le 4 b)).size ≤ 9223372036854775807 := by rw [bsz, S_size, le_length, S_size, le_length]; decide
  have z3 : (fenc ++ S (le 4 a) ++ S (le 4 b)).size = 12 := by rw [bsz, bsz, S_size, le_length, S_size, le_length]; rfl
  have p3 := rpadded0 _ z3
  refine rn [(5, .ret (.t (.c (.s (S (le 4 a)))))), (9, .ret (.t (.c (.s (S (le 4 b)))))), (11, .ret (.t (.c (.s (wallB a b)))))] rfl (by (repeat' (first | exact trivial | exact rfl | exact rtext0 4 a (by decide) (by omega) | exact fun _ => rtext0 4 a (by decide) (by omega) | first | exact rtext0 4 b (by decide) (by omega) | exact rtext0 4 a (by decide) (by omega) | exact p3 | exact z1 | exact z2 | decide | refine And.intro ?_ ?_))) ?_
  exact ret0 tysOk rfl (by repeat' (first | exact trivial | exact rfl | refine And.intro ?_ ?_)) rfl
theorem repoch0 (n : Int) : Fn0 Tryz.prog 73 [.c (iT n)] (.t (.c (.b (mayE n)))) := by
  refine fn0 (fn := Tryz.f73) 9 rfl rfl rfl rfl rfl fun w => ?_
  refine rn [] rfl (by repeat' (first | exact trivial | exact rfl | refine And.intro ?_ ?_)) ?_
  exact ret0 tysOk rfl (by repeat' (first | exact trivial | exact rfl | refine And.intro ?_ ?_)) rfl
theorem repochs0 (s : ByteArray) (hz : s.size ≤ 9223372036854775807) : Fn0 Tryz.prog 72 [.c (.s s)] (.tup [.agg [iT (if fok s then ((ep s).1 : Nat) else 0), iT (if fok s then ((ep s).2 : Nat) else 0)], .c (iT (if fok s then 0 else 40))]) := by
  refine fn0 (fn := Tryz.f72) 20 rfl rfl rfl rfl rfl fun w => ?_
  by_cases hs : s.size = 64
  · have d1 : (((s.size : Nat) : Int) != 64) = false := by rw [hs]; rfl
    refine rn [(7, .dec false), (10, .ret (.t (.c (iT (numAt s 4 4 : Nat))))), (12, .ret (.t (.c (iT (numAt s 8 4 : Nat))))), (15, .ret (.t (.c (.s (wallB (numAt s 4 4) (numAt s 8 4))))))] rfl
      (by (repeat' (first | exact trivial | exact rfl | exact d1 | exact fun _ => d1 | first | exact rnum0 s 4 4 (by decide) (by omega) hz | exact rnum0 s 8 4 (by decide) (by omega) hz | exact rwall0 _ _ (numAt4 _ _) (numAt4 _ _) | decide | refine And.intro ?_ ?_))) ?_
    refine ⟨fun h => ?_, fun h => ?_⟩
    · have hf : fok s = false := by
        have : ¬ wallB (numAt s 4 4) (numAt s 8 4) = s := by simpa [bt_iff2] using h
        simp [fok, ep, this]
      refine rn [] rfl (by repeat' (first | exact trivial | exact rfl | refine And.intro ?_ ?_)) ?_
      rw [hf]
      exact ret0 tysOk rfl (by repeat' (first | exact trivial | exact rfl | refine And.intro ?_ ?_)) rfl
    · have hf : fok s = true := by
        have : wallB (numAt s 4 4) (numAt s 8 4) = s := by simpa [bt_iff2] using h
        simp [fok, ep, hs, this]
      refine rn [] rfl (by repeat' (first | exact trivial | exact rfl | refine And.intro ?_ ?_)) ?_
      rw [hf]
      exact ret0 tysOk rfl (by repeat' (first | exact trivial | exact rfl | refine And.intro ?_ ?_)) rfl
  · have d1 : (((s.size : Nat) : Int) != 64) = true := by simp; omega
    have hf : fok s = false := by simp [fok, hs]
    refine rn [(7, .dec true)] rfl (by (repeat' (first | exact trivial | exact rfl | exact d1 | exact fun _ => d1 | refine And.intro ?_ ?_))) ?_
    rw [hf]
    exact ret0 tysOk rfl (by repeat' (first | exact trivial | exact rfl | refine And.intro ?_ ?_)) rfl
set_option maxRecDepth 100000 in
set_option maxHeartbeats 1000000 in
theorem rraise0 (s : ByteArray) (node n : Int) (hz : s.size ≤ 9223372036854775807) : Fn0 Tryz.prog 53 [.c (.s s), .c (iT node), .c (iT n)] (.tup [.c (.s (raiseS s node n)), .c (iT (raiseE s node n))]) := by
  have h0 := repochs0 s hz
  cases hf : fok s with
  | false =>
    rw [hf] at h0
    have e1 : raiseE s node n = 40 := by simp [raiseE, hf]
    have e2 : raiseS s node n = ⟨#[]⟩ := by rw [raiseS, e1]; rfl
    rw [e1, e2]
    refine fn0 (fn := Tryz.f53) 41 rfl rfl rfl rfl rfl fun w => ?_
    refine rn [(12, .ret (.tup [.agg [iT 0, iT 0], .c (iT 40)])), (16, .dec true)] rfl (by (repeat' (first | exact trivial | exact rfl | exact h0 | exact fun _ => h0 | decide | refine And.intro ?_ ?_))) ?_
    exact ret0 tysOk rfl (by repeat' (first | exact trivial | exact rfl | refine And.intro ?_ ?_)) rfl
  | true =>
    rw [hf] at h0
    simp only [if_true] at h0
    by_cases hn : node = 0 ∨ node = 1
    · have d1 : (decide (node < 0) || decide (2 ≤ node)) = false := by
        rcases hn with h | h <;> subst h <;> rfl
      have d3 : (!mayE n) = false ∨ (!mayE n) = true := by cases mayE n <;> simp
      by_cases hok : mayE n = true ∧ (epN s node : Int) ≤ n
      · have e1 : raiseE s node n = 0 := by simp [raiseE, hf, hn, hok]
        have e2 : raiseS s node n = setE s node n := by rw [raiseS, if_pos e1]
        have m1 : Fn0 Tryz.prog 73 [.c (iT n)] (.t (.c (.b true))) := by have := repoch0 n; rwa [hok.1] at this
        have hb := mayE_iff.1 hok.1
        obtain ⟨m, rfl⟩ : ∃ m : Nat, n = (m : Int) := ⟨n.toNat, by omega⟩
        rw [e1, e2]
        refine fn0 (fn := Tryz.f53) 41 rfl rfl rfl rfl rfl fun w => ?_
        rcases hn with h | h
        · subst h
          have d5 : decide ((m : Int) < ((ep s).1 : Nat)) = false := decide_eq_false (by have : ((ep s).1 : Int) ≤ m := hok.2; omega)
          refine rn [(12, .ret (.tup [.agg [iT ((ep s).1 : Nat), iT ((ep s).2 : Nat)], .c (iT 0)])), (16, .dec false), (20, .dec false), (24, .dec false), (26, .ret (.t (.c (.b true)))), (29, .dec false), (35, .dec false), (40, .ret (.t (.c (.s (wallB m (ep s).2)))))] rfl (by (repeat' (first | exact trivial | exact rfl | exact h0 | exact fun _ => h0 | first | exact m1 | exact d5 | exact rwall0 _ _ (by omega) (numAt_max s 8 4) | decide | refine And.intro ?_ ?_))) ?_
          exact ret0 tysOk rfl (by repeat' (first | exact trivial | exact rfl | refine And.intro ?_ ?_)) rfl
        · subst h
          have d5 : decide ((m : Int) < ((ep s).2 : Nat)) = false := decide_eq_false (by have : ((ep s).2 : Int) ≤ m := hok.2; omega)
          refine rn [(12, .ret (.tup [.agg [iT ((ep s).1 : Nat), iT ((ep s).2 : Nat)], .c (iT 0)])), (16, .dec false), (20, .dec false), (24, .dec false), (26, .ret (.t (.c (.b true)))), (29, .dec false), (35, .dec false), (40, .ret (.t (.c (.s (wallB (ep s).1 m)))))] rfl (by (repeat' (first | exact trivial | exact rfl | exact h0 | exact fun _ => h0 | first | exact m1 | exact d5 | exact rwall0 _ _ (numAt_max s 4 4) (by omega) | decide | refine And.intro ?_ ?_))) ?_
          exact ret0 tysOk rfl (by repeat' (first | exact trivial | exact rfl | refine And.intro ?_ ?_)) rfl
      · have e1 : raiseE s node n = 1 := by simp [raiseE, hf, hn, hok]
        have e2 : raiseS s node n = ⟨#[]⟩ := by rw [raiseS, e1]; rfl
        rw [e1, e2]
        refine fn0 (fn := Tryz.f53) 41 rfl rfl rfl rfl rfl fun w => ?_
        cases hm : mayE n with
        | false =>
          have m1 : Fn0 Tryz.prog 73 [.c (iT n)] (.t (.c (.b false))) := by have := repoch0 n; rwa [hm] at this
          rcases hn with h | h
          · subst h
            refine rn [(12, .ret (.tup [.agg [iT ((ep s).1 : Nat), iT ((ep s).2 : Nat)], .c (iT 0)])), (16, .dec false), (20, .dec false), (24, .dec false), (26, .ret (.t (.c (.b false)))), (29, .dec true), (35, .dec true)] rfl (by (repeat' (first | exact trivial | exact rfl | exact h0 | exact fun _ => h0 | first | exact m1 | decide | refine And.intro ?_ ?_))) ?_
            exact ret0 tysOk rfl (by repeat' (first | exact trivial | exact rfl | refine And.intro ?_ ?_)) rfl
          · subst h
            refine rn [(12, .ret (.tup [.agg [iT ((ep s).1 : Nat), iT ((ep s).2 : Nat)], .c (iT 0)])), (16, .dec false), (20, .dec false), (24, .dec false), (26, .ret (.t (.c (.b false)))), (29, .dec true), (35, .dec true)] rfl (by (repeat' (first | exact trivial | exact rfl | exact h0 | exact fun _ => h0 | first | exact m1 | decide | refine And.intro ?_ ?_))) ?_
            exact ret0 tysOk rfl (by repeat' (first | exact trivial | exact rfl | refine And.intro ?_ ?_)) rfl
        | true =>
          have m1 : Fn0 Tryz.prog 73 [.c (iT n)] (.t (.c (.b true))) := by have := repoch0 n; rwa [hm] at this
          have hlt : n < (epN s node : Int) := by
            rcases Int.lt_or_le n (epN s node : Int) with h | h
            · exact h
            · exact absurd ⟨hm, h⟩ hok
          rcases hn with h | h
          · subst h
            have d5 : decide (n < ((ep s).1 : Nat)) = true := decide_eq_true hlt
            refine rn [(12, .ret (.tup [.agg [iT ((ep s).1 : Nat), iT ((ep s).2 : Nat)], .c (iT 0)])), (16, .dec false), (20, .dec false), (24, .dec false), (26, .ret (.t (.c (.b true)))), (29, .dec false), (35, .dec true)] rfl (by (repeat' (first | exact trivial | exact rfl | exact h0 | exact fun _ => h0 | first | exact m1 | exact d5 | decide | refine And.intro ?_ ?_))) ?_
            exact ret0 tysOk rfl (by repeat' (first | exact trivial | exact rfl | refine And.intro ?_ ?_)) rfl
          · subst h
            have d5 : decide (n < ((ep s).2 : Nat)) = true := decide_eq_true hlt
            refine rn [(12, .ret (.tup [.agg [iT ((ep s).1 : Nat), iT ((ep s).2 : Nat)], .c (iT 0)])), (16, .dec false), (20, .dec false), (24, .dec false), (26, .ret (.t (.c (.b true)))), (29, .dec false), (35, .dec true)] rfl (by (repeat' (first | exact trivial | exact rfl | exact h0 | exact fun _ => h0 | first | exact m1 | exact d5 | decide | refine And.intro ?_ ?_))) ?_
            exact ret0 tysOk rfl (by repeat' (first | exact trivial | exact rfl | refine And.intro ?_ ?_)) rfl
    · have e1 : raiseE s node n = 1 := by simp [raiseE, hf, hn]
      have e2 : raiseS s node n = ⟨#[]⟩ := by rw [raiseS, e1]; rfl
      rw [e1, e2]
      refine fn0 (fn := Tryz.f53) 41 rfl rfl rfl rfl rfl fun w => ?_
      by_cases hn0 : node < 0
      · refine rn [(12, .ret (.tup [.agg [iT ((ep s).1 : Nat), iT ((ep s).2 : Nat)], .c (iT 0)])), (16, .dec false), (20, .dec true), (24, .dec true), (29, .dec true), (35, .dec true)] rfl (by (repeat' (first | exact trivial | exact rfl | exact h0 | exact fun _ => h0 | first | exact decide_eq_true hn0 | decide | refine And.intro ?_ ?_))) ?_
        exact ret0 tysOk rfl (by repeat' (first | exact trivial | exact rfl | refine And.intro ?_ ?_)) rfl
      · have hn2 : 1 < node := by omega
        refine rn [(12, .ret (.tup [.agg [iT ((ep s).1 : Nat), iT ((ep s).2 : Nat)], .c (iT 0)])), (16, .dec false), (20, .dec false), (24, .dec true), (29, .dec true), (35, .dec true)] rfl (by (repeat' (first | exact trivial | exact rfl | exact h0 | exact fun _ => h0 | first | exact decide_eq_false hn0 | exact decide_eq_true hn2 | decide | refine And.intro ?_ ?_))) ?_
        exact ret0 tysOk rfl (by repeat' (first | exact trivial | exact rfl | refine And.intro ?_ ?_)) rfl
theorem rpasses0 (s : ByteArray) (node n : Int) (hz : s.size ≤ 9223372036854775807) : Fn0 Tryz.prog 71 [.c (.s s), .c (iT node), .c (iT n)] (.tup [.c (.b (passB s node n)), .c (iT (passE s node))]) := by
  have h0 := repochs0 s hz
  cases hf : fok s with
  | false =>
    rw [hf] at h0
    have e1 : passE s node = 40 := by simp [passE, hf]
    have e2 : passB s node n = false := by simp [passB, e1]
    rw [e1, e2]
    refine fn0 (fn := Tryz.f71) 29 rfl rfl rfl rfl rfl fun w => ?_
    refine rn [(12, .ret (.tup [.agg [iT 0, iT 0], .c (iT 40)])), (16, .dec true)] rfl (by (repeat' (first | exact trivial | exact rfl | exact h0 | exact fun _ => h0 | decide | refine And.intro ?_ ?_))) ?_
    exact ret0 tysOk rfl (by repeat' (first | exact trivial | exact rfl | refine And.intro ?_ ?_)) rfl
  | true =>
    rw [hf] at h0
    simp only [if_true] at h0
    refine fn0 (fn := Tryz.f71) 29 rfl rfl rfl rfl rfl fun w => ?_
    by_cases hn : node = 0 ∨ node = 1
    · have e1 : passE s node = 0 := by simp [passE, hf, hn]
      have e2 : passB s node n = decide ((epN s node : Int) ≤ n) := by simp [passB, e1]
      rw [e1, e2]
      rcases hn with h | h
      · subst h
        refine rn [(12, .ret (.tup [.agg [iT ((ep s).1 : Nat), iT ((ep s).2 : Nat)], .c (iT 0)])), (16, .dec false), (20, .dec false), (23, .dec false)] rfl (by (repeat' (first | exact trivial | exact rfl | exact h0 | exact fun _ => h0 | decide | refine And.intro ?_ ?_))) ?_
        exact ret0 tysOk rfl (by repeat' (first | exact trivial | exact rfl | refine And.intro ?_ ?_)) rfl
      · subst h
        refine rn [(12, .ret (.tup [.agg [iT ((ep s).1 : Nat), iT ((ep s).2 : Nat)], .c (iT 0)])), (16, .dec false), (20, .dec false), (23, .dec false)] rfl (by (repeat' (first | exact trivial | exact rfl | exact h0 | exact fun _ => h0 | decide | refine And.intro ?_ ?_))) ?_
        exact ret0 tysOk rfl (by repeat' (first | exact trivial | exact rfl | refine And.intro ?_ ?_)) rfl
    · have e1 : passE s node = 1 := by simp [passE, hf, hn]
      have e2 : passB s node n = false := by simp [passB, e1]
      rw [e1, e2]
      have d1 : (decide (node < 0) || decide (1 < node)) = true := by
        rw [Bool.or_eq_true, decide_eq_true_eq, decide_eq_true_eq]
        omega
      refine rn [(12, .ret (.tup [.agg [iT ((ep s).1 : Nat), iT ((ep s).2 : Nat)], .c (iT 0)])), (16, .dec false), (23, .dec true)] rfl (by (repeat' (first | exact trivial | exact rfl | exact h0 | exact fun _ => h0 | first | exact d1 | decide | refine And.intro ?_ ?_))) ?_
      exact ret0 tysOk rfl (by repeat' (first | exact trivial | exact rfl | refine And.intro ?_ ?_)) rfl
end Cw
