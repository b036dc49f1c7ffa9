/- The document's fence and patches: cutwaterref04 and cutwaterref01, by reckoning. -/
import Derived.Test.YtjnbdhgkoolhnaaGreatDisk
import Derived.Test.YtjnbdhgkoolhnaaGreatFnV
namespace Cw
open Go Vc
open Go.Proofs
set_option maxRecDepth 100000
theorem r1text0 (n x : Nat) (hn : n ≤ 8) (hx : x < 9223372036854775808) : Fn0 Tryz.prog 79 [.c (iT x), .c (iT n)] (.t (.c (.s (S (le n x))))) := ⟨fun w => text_any n x hn hx w⟩
theorem rnum0 (s : ByteArray) (o n : Nat) (hn : n ≤ 7) (h : o + n ≤ s.size) (hs : s.size ≤ 9223372036854775807) : Fn0 Tryz.prog 103 [.c (.s s), .c (iT o), .c (iT n)] (.t (.c (iT (numAt s o n : Nat)))) :=
  ⟨fun w => (num_any s o n hn h hs w).mono fun e w' ⟨h, hw⟩ => ⟨h, hw ▸ RowKit.Below.refl _ _⟩⟩
theorem rblank0 : Fn0 Tryz.prog 29 [] (.t (.c (.s B0))) := ⟨fun w => rblank_any w⟩
theorem r11check0 (p : Pt) : Fn0 Tryz.prog 164 [ptT p] (.t (.c (iT (fcheck p.1 p.2.size)))) := ⟨fun w => rfcheck_any p.1 p.2 w⟩
theorem rone0 (s : ByteArray) (p : Pt) (hs : s.size = 64) (hp : okp p = true) : Fn0 Tryz.prog 166 [.c (.s s), ptT p] (.t (.c (.s (pt s [p])))) := ⟨fun w => by
  have h := okp_iff hp
  have e0 : pte s [p] = 0 := by simp [pte, hs, hp]
  have e1 : pt s [p] = S (one s.data.toList (p.1, p.2)) := by
    rw [pt, if_pos e0]
    rfl
  have := one_any s p.1.toNat p.2 hs h.2.1 h.2.2.1 (by omega) w
  rw [Int.toNat_of_nonneg h.1, ← e1] at this
  exact this⟩
theorem rpadded0 (s : ByteArray) (hs : s.size = 12) : Fn0 Tryz.prog 78 [.c (.s s)] (.t (.c (.s (s ++ S (List.replicate 52 0))))) := by
  refine fn0 (fn := Tryz.f78) 10 rfl rfl rfl rfl rfl fun w => ?_
  have w1 : IntKind.i64.wrap (64 - (s.size : Int)) = 52 := by rw [hs]; rfl
  have hz : s.size + (S (List.replicate 52 0)).size ≤ 9223372036854775807 := by rw [hs, S_size]; decide
  have c1 : (0 : Int) ≤ IntKind.i64.wrap (64 - (s.size : Int)) := by rw [w1]; decide
  have c2 : 1 * (IntKind.i64.wrap (64 - (s.size : Int))).toNat ≤ 281474976710656 := by rw [w1]; decide
  have c3 : (IntKind.i64.wrap (64 - (s.size : Int))).toNat ≤ maxLen := by rw [w1]; decide
  have c4 : (repl (IntKind.i64.wrap (64 - (s.size : Int))).toNat [CV.i .u8 0]).map (CV.den e0) = (S (List.replicate 52 0)).data.toList.map (fun c => Value.int .u8 c.toNat) := by rw [w1]; rfl
  have c5 : (IntKind.i64.wrap (64 - (s.size : Int))).toNat = (S (List.replicate 52 0)).size := by rw [w1]; rfl
  refine rn [(8, .ret (.t (.c (.s (S (List.replicate 52 0))))))] rfl (by (repeat' (first | exact trivial | exact rfl | exact trivial | exact fun _ => trivial | first | exact hz | exact c1 | exact c2 | exact c3 | exact c4 | exact c5 | refine And.intro ?_ ?_))) ?_
  exact ret0 tysOk rfl (by repeat' (first | exact trivial | exact rfl | refine And.intro ?_ ?_)) rfl
theorem rwall0 (a b : Nat) (ha : a < 4294967296) (hb : b < 4294967296) : Fn0 Tryz.prog 31 [.agg [iT a, iT b]] (.t (.c (.s (wallB a b)))) := by
  refine fn0 (fn := Tryz.f31) 12 rfl rfl rfl rfl rfl fun w => ?_
  have z1 : fenc.size + (S (le 4 a)).size ≤ 9223372036854775807 := by rw [S_size, le_length]; decide
  have z2 : (fenc ++ S (le 4 a)).size + (S (le 4 b)).size ≤ 9223372036854775807 := by rw [bsz, S_size, le_length, S_size, le_length]; decide
  have z3 : (fenc ++ S (le 4 a) ++ S (le 4 b)).size = 12 := by rw [bsz, bsz, S_size, le_length, S_size, le_length]; rfl
  have p3 := rpadded0 _ z3
  refine rn [(5, .ret (.t (.c (.s (S (le 4 a)))))), (9, .ret (.t (.c (.s (S (le 4 b)))))), (11, .ret (.t (.c (.s (wallB a b)))))] rfl (by (repeat' (first | exact trivial | exact rfl | exact r1text0 4 a (by decide) (by omega) | exact fun _ => r1text0 4 a (by decide) (by omega) | first | exact r1text0 4 b (by decide) (by omega) | exact r1text0 4 a (by decide) (by omega) | exact p3 | exact z1 | exact z2 | decide | refine And.intro ?_ ?_))) ?_
  exact ret0 tysOk rfl (by repeat' (first | exact trivial | exact rfl | refine And.intro ?_ ?_)) rfl
theorem repoch0 (n : Int) : Fn0 Tryz.prog 125 [.c (iT n)] (.t (.c (.b (mayE n)))) := by
  refine fn0 (fn := Tryz.f125) 9 rfl rfl rfl rfl rfl fun w => ?_
  refine rn [] rfl (by repeat' (first | exact trivial | exact rfl | refine And.intro ?_ ?_)) ?_
  exact ret0 tysOk rfl (by repeat' (first | exact trivial | exact rfl | refine And.intro ?_ ?_)) rfl
theorem repochs0 (s : ByteArray) (hz : s.size ≤ 9223372036854775807) : Fn0 Tryz.prog 124 [.c (.s s)] (.tup [.agg [iT (if fok s then ((ep s).1 : Nat) else 0), iT (if fok s then ((ep s).2 : Nat) else 0)], .c (iT (if fok s then 0 else 40))]) := by
  refine fn0 (fn := Tryz.f124) 20 rfl rfl rfl rfl rfl fun w => ?_
  by_cases hs : s.size = 64
  · have d1 : (((s.size : Nat) : Int) != 64) = false := by rw [hs]; rfl
    refine rn [(7, .dec false), (10, .ret (.t (.c (iT (numAt s 4 4 : Nat))))), (12, .ret (.t (.c (iT (numAt s 8 4 : Nat))))), (15, .ret (.t (.c (.s (wallB (numAt s 4 4) (numAt s 8 4))))))] rfl
      (by (repeat' (first | exact trivial | exact rfl | exact d1 | exact fun _ => d1 | first | exact rnum0 s 4 4 (by decide) (by omega) hz | exact rnum0 s 8 4 (by decide) (by omega) hz | exact rwall0 _ _ (numAt4 _ _) (numAt4 _ _) | decide | refine And.intro ?_ ?_))) ?_
    refine ⟨fun h => ?_, fun h => ?_⟩
    · have hf : fok s = false := by
        have : ¬ wallB (numAt s 4 4) (numAt s 8 4) = s := by simpa [bt_iff2] using h
        simp [fok, ep, this]
      refine rn [] rfl (by repeat' (first | exact trivial | exact rfl | refine And.intro ?_ ?_)) ?_
      rw [hf]
      exact ret0 tysOk rfl (by repeat' (first | exact trivial | exact rfl | refine And.intro ?_ ?_)) rfl
    · have hf : fok s = true := by
        have : wallB (numAt s 4 4) (numAt s 8 4) = s := by simpa [bt_iff2] using h
        simp [fok, ep, hs, this]
      refine rn [] rfl (by repeat' (first | exact trivial | exact rfl | refine And.intro ?_ ?_)) ?_
      rw [hf]
      exact ret0 tysOk rfl (by repeat' (first | exact trivial | exact rfl | refine And.intro ?_ ?_)) rfl
  · have d1 : (((s.size : Nat) : Int) != 64) = true := by simp; omega
    have hf : fok s = false := by simp [fok, hs]
    refine rn [(7, .dec true)] rfl (by (repeat' (first | exact trivial | exact rfl | exact d1 | exact fun _ => d1 | refine And.intro ?_ ?_))) ?_
    rw [hf]
    exact ret0 tysOk rfl (by repeat' (first | exact trivial | exact rfl | refine And.intro ?_ ?_)) rfl
set_option maxRecDepth 100000 in
set_option maxHeartbeats 1000000 in
theorem rraise0 (s : ByteArray) (node n : Int) (hz : s.size ≤ 9223372036854775807) : Fn0 Tryz.prog 85 [.c (.s s), .c (iT node), .c (iT n)] (.tup [.c (.s (raiseS s node n)), .c (iT (raiseE s node n))]) := by
  have h0 := repochs0 s hz
  cases hf : fok s with
  | false =>
    rw [hf] at h0
    have e1 : raiseE s node n = 40 := by simp [raiseE, hf]
    have e2 : raiseS s node n = ⟨#[]⟩ := by rw [raiseS, e1]; rfl
    rw [e1, e2]
    refine fn0 (fn := Tryz.f85) 41 rfl rfl rfl rfl rfl fun w => ?_
    refine rn [(12, .ret (.tup [.agg [iT 0, iT 0], .c (iT 40)])), (16, .dec true)] rfl (by (repeat' (first | exact trivial | exact rfl | exact h0 | exact fun _ => h0 | decide | refine And.intro ?_ ?_))) ?_
    exact ret0 tysOk rfl (by repeat' (first | exact trivial | exact rfl | refine And.intro ?_ ?_)) rfl
  | true =>
    rw [hf] at h0
    simp only [if_true] at h0
    by_cases hn : node = 0 ∨ node = 1
    · have d1 : (decide (node < 0) || decide (2 ≤ node)) = false := by
        rcases hn with h | h <;> subst h <;> rfl
      have d3 : (!mayE n) = false ∨ (!mayE n) = true := by cases mayE n <;> simp
      by_cases hok : mayE n = true ∧ (epN s node : Int) ≤ n
      · have e1 : raiseE s node n = 0 := by simp [raiseE, hf, hn, hok]
        have e2 : raiseS s node n = setE s node n := by rw [raiseS, if_pos e1]
        have m1 : Fn0 Tryz.prog 125 [.c (iT n)] (.t (.c (.b true))) := by have := repoch0 n; rwa [hok.1] at this
        have hb := mayE_iff.1 hok.1
        obtain ⟨m, rfl⟩ : ∃ m : Nat, n = (m : Int) := ⟨n.toNat, by omega⟩
        rw [e1, e2]
        refine fn0 (fn := Tryz.f85) 41 rfl rfl rfl rfl rfl fun w => ?_
        rcases hn with h | h
        · subst h
          have d5 : decide ((m : Int) < ((ep s).1 : Nat)) = false := decide_eq_false (by have : ((ep s).1 : Int) ≤ m := hok.2; omega)
          refine rn [(12, .ret (.tup [.agg [iT ((ep s).1 : Nat), iT ((ep s).2 : Nat)], .c (iT 0)])), (16, .dec false), (20, .dec false), (24, .dec false), (26, .ret (.t (.c (.b true)))), (29, .dec false), (35, .dec false), (40, .ret (.t (.c (.s (wallB m (ep s).2)))))] rfl (by (repeat' (first | exact trivial | exact rfl | exact h0 | exact fun _ => h0 | first | exact m1 | exact d5 | exact rwall0 _ _ (by omega) (numAt_max s 8 4) | decide | refine And.intro ?_ ?_))) ?_
          exact ret0 tysOk rfl (by repeat' (first | exact trivial | exact rfl | refine And.intro ?_ ?_)) rfl
        · subst h
          have d5 : decide ((m : Int) < ((ep s).2 : Nat)) = false := decide_eq_false (by have : ((ep s).2 : Int) ≤ m := hok.2; omega)
          refine rn [(12, .ret (.tup [.agg [iT ((ep s).1 : Nat), iT ((ep s).2 : Nat)], .c (iT 0)])), (16, .dec false), (20, .dec false), (24, .dec false), (26, .ret (.t (.c (.b true)))), (29, .dec false), (35, .dec false), (40, .ret (.t (.c (.s (wallB (ep s).1 m)))))] rfl (by (repeat' (first | exact trivial | exact rfl | exact h0 | exact fun _ => h0 | first | exact m1 | exact d5 | exact rwall0 _ _ (numAt_max s 4 4) (by omega) | decide | refine And.intro ?_ ?_))) ?_
          exact ret0 tysOk rfl (by repeat' (first | exact trivial | exact rfl | refine And.intro ?_ ?_)) rfl
      · have e1 : raiseE s node n = 1 := by simp [raiseE, hf, hn, hok]
        have e2 : raiseS s node n = ⟨#[]⟩ := by rw [raiseS, e1]; rfl
        rw [e1, e2]
        refine fn0 (fn := Tryz.f85) 41 rfl rfl rfl rfl rfl fun w => ?_
        cases hm : mayE n with
        | false =>
          have m1 : Fn0 Tryz.prog 125 [.c (iT n)] (.t (.c (.b false))) := by have := repoch0 n; rwa [hm] at this
          rcases hn with h | h
          · subst h
            refine rn [(12, .ret (.tup [.agg [iT ((ep s).1 : Nat), iT ((ep s).2 : Nat)], .c (iT 0)])), (16, .dec false), (20, .dec false), (24, .dec false), (26, .ret (.t (.c (.b false)))), (29, .dec true), (35, .dec true)] rfl (by (repeat' (first | exact trivial | exact rfl | exact h0 | exact fun _ => h0 | first | exact m1 | decide | refine And.intro ?_ ?_))) ?_
            exact ret0 tysOk rfl (by repeat' (first | exact trivial | exact rfl | refine And.intro ?_ ?_)) rfl
          · subst h
            refine rn [(12, .ret (.tup [.agg [iT ((ep s).1 : Nat), iT ((ep s).2 : Nat)], .c (iT 0)])), (16, .dec false), (20, .dec false), (24, .dec false), (26, .ret (.t (.c (.b false)))), (29, .dec true), (35, .dec true)] rfl (by (repeat' (first | exact trivial | exact rfl | exact h0 | exact fun _ => h0 | first | exact m1 | decide | refine And.intro ?_ ?_))) ?_
            exact ret0 tysOk rfl (by repeat' (first | exact trivial | exact rfl | refine And.intro ?_ ?_)) rfl
        | true =>
          have m1 : Fn0 Tryz.prog 125 [.c (iT n)] (.t (.c (.b true))) := by have := repoch0 n; rwa [hm] at this
          have hlt : n < (epN s node : Int) := by
            rcases Int.lt_or_le n (epN s node : Int) with h | h
            · exact h
            · exact absurd ⟨hm, h⟩ hok
          rcases hn with h | h
          · subst h
            have d5 : decide (n < ((ep s).1 : Nat)) = true := decide_eq_true hlt
            refine rn [(12, .ret (.tup [.agg [iT ((ep s).1 : Nat), iT ((ep s).2 : Nat)], .c (iT 0)])), (16, .dec false), (20, .dec false), (24, .dec false), (26, .ret (.t (.c (.b true)))), (29, .dec false), (35, .dec true)] rfl (by (repeat' (first | exact trivial | exact rfl | exact h0 | exact fun _ => h0 | first | exact m1 | exact d5 | decide | refine And.intro ?_ ?_))) ?_
            exact ret0 tysOk rfl (by repeat' (first | exact trivial | exact rfl | refine And.intro ?_ ?_)) rfl
          · subst h
            have d5 : decide (n < ((ep s).2 : Nat)) = true := decide_eq_true hlt
            refine rn [(12, .ret (.tup [.agg [iT ((ep s).1 : Nat), iT ((ep s).2 : Nat)], .c (iT 0)])), (16, .dec false), (20, .dec false), (24, .dec false), (26, .ret (.t (.c (.b true)))), (29, .dec false), (35, .dec true)] rfl (by (repeat' (first | exact trivial | exact rfl | exact h0 | exact fun _ => h0 | first | exact m1 | exact d5 | decide | refine And.intro ?_ ?_))) ?_
            exact ret0 tysOk rfl (by repeat' (first | exact trivial | exact rfl | refine And.intro ?_ ?_)) rfl
    · have e1 : raiseE s node n = 1 := by simp [raiseE, hf, hn]
      have e2 : raiseS s node n = ⟨#[]⟩ := by rw [raiseS, e1]; rfl
      rw [e1, e2]
      refine fn0 (fn := Tryz.f85) 41 rfl rfl rfl rfl rfl fun w => ?_
      by_cases hn0 : node < 0
      · refine rn [(12, .ret (.tup [.agg [iT ((ep s).1 : Nat), iT ((ep s).2 : Nat)], .c (iT 0)])), (16, .dec false), (20, .dec true), (24, .dec true), (29, .dec true), (35, .dec true)] rfl (by (repeat' (first | exact trivial | exact rfl | exact h0 | exact fun _ => h0 | first | exact decide_eq_true hn0 | decide | refine And.intro ?_ ?_))) ?_
        exact ret0 tysOk rfl (by repeat' (first | exact trivial | exact rfl | refine And.intro ?_ ?_)) rfl
      · have hn2 : 1 < node := by omega
        refine rn [(12, .ret (.tup [.agg [iT ((ep s).1 : Nat), iT ((ep s).2 : Nat)], .c (iT 0)])), (16, .dec false), (20, .dec false), (24, .dec true), (29, .dec true), (35, .dec true)] rfl (by (repeat' (first | exact trivial | exact rfl | exact h0 | exact fun _ => h0 | first | exact decide_eq_false hn0 | exact decide_eq_true hn2 | decide | refine And.intro ?_ ?_))) ?_
        exact ret0 tysOk rfl (by repeat' (first | exact trivial | exact rfl | refine And.intro ?_ ?_)) rfl
theorem rpasses0 (s : ByteArray) (node n : Int) (hz : s.size ≤ 9223372036854775807) : Fn0 Tryz.prog 184 [.c (.s s), .c (iT node), .c (iT n)] (.tup [.c (.b (passB s node n)), .c (iT (passE s node))]) := by
  have h0 := repochs0 s hz
  cases hf : fok s with
  | false =>
    rw [hf] at h0
    have e1 : passE s node = 40 := by simp [passE, hf]
    have e2 : passB s node n = false := by simp [passB, e1]
    rw [e1, e2]
    refine fn0 (fn := Tryz.f184) 29 rfl rfl rfl rfl rfl fun w => ?_
    refine rn [(12, .ret (.tup [.agg [iT 0, iT 0], .c (iT 40)])), (16, .dec true)] rfl (by (repeat' (first | exact trivial | exact rfl | exact h0 | exact fun _ => h0 | decide | refine And.intro ?_ ?_))) ?_
    exact ret0 tysOk rfl (by repeat' (first | exact trivial | exact rfl | refine And.intro ?_ ?_)) rfl
  | true =>
    rw [hf] at h0
    simp only [if_true] at h0
    refine fn0 (fn := Tryz.f184) 29 rfl rfl rfl rfl rfl fun w => ?_
    by_cases hn : node = 0 ∨ node = 1
    · have e1 : passE s node = 0 := by simp [passE, hf, hn]
      have e2 : passB s node n = decide ((epN s node : Int) ≤ n) := by simp [passB, e1]
      rw [e1, e2]
      rcases hn with h | h
      · subst h
        refine rn [(12, .ret (.tup [.agg [iT ((ep s).1 : Nat), iT ((ep s).2 : Nat)], .c (iT 0)])), (16, .dec false), (20, .dec false), (23, .dec false)] rfl (by (repeat' (first | exact trivial | exact rfl | exact h0 | exact fun _ => h0 | decide | refine And.intro ?_ ?_))) ?_
        exact ret0 tysOk rfl (by repeat' (first | exact trivial | exact rfl | refine And.intro ?_ ?_)) rfl
      · subst h
        refine rn [(12, .ret (.tup [.agg [iT ((ep s).1 : Nat), iT ((ep s).2 : Nat)], .c (iT 0)])), (16, .dec false), (20, .dec false), (23, .dec false)] rfl (by (repeat' (first | exact trivial | exact rfl | exact h0 | exact fun _ => h0 | decide | refine And.intro ?_ ?_))) ?_
        exact ret0 tysOk rfl (by repeat' (first | exact trivial | exact rfl | refine And.intro ?_ ?_)) rfl
    · have e1 : passE s node = 1 := by simp [passE, hf, hn]
      have e2 : passB s node n = false := by simp [passB, e1]
      rw [e1, e2]
      have d1 : (decide (node < 0) || decide (1 < node)) = true := by
        rw [Bool.or_eq_true, decide_eq_true_eq, decide_eq_true_eq]
        omega
      refine rn [(12, .ret (.tup [.agg [iT ((ep s).1 : Nat), iT ((ep s).2 : Nat)], .c (iT 0)])), (16, .dec false), (23, .dec true)] rfl (by (repeat' (first | exact trivial | exact rfl | exact h0 | exact fun _ => h0 | first | exact d1 | decide | refine And.intro ?_ ?_))) ?_
      exact ret0 tysOk rfl (by repeat' (first | exact trivial | exact rfl | refine And.intro ?_ ?_)) rfl
end Cw
namespace Cw
open Go Vc
open Go.Proofs
set_option maxRecDepth 100000
def wrC (p : Int × Wr) : List Value := [.int .i64 p.1, .int .i64 p.2.node, .int .i64 p.2.ep, .int .i64 p.2.pl, .string p.2.s]
def wrV (p : Int × Wr) : List CV := [iT p.1, iT p.2.node, iT p.2.ep, iT p.2.pl, .s p.2.s]
abbrev wrs (W : List (Int × Wr)) : List Value := fcs wrC W
def rdO (S : List ByteArray) (W : List (Int × Wr)) (last : Int) (b : Nat) : List (Bool × Ob) :=
  [(true, .cells [.nm 1, .nm 2, iT last] 93), (true, .own 9 1 S.length (svs S)), (true, .own 253 5 W.length (wrs W)), (false, .pin 0 b)]
def rdP (S : List ByteArray) (W : List (Int × Wr)) (last : Int) (b : Nat) : AbP := absP (rdO S W last b) (.p 0 0)
theorem rd_pins (S : List ByteArray) (W : List (Int × Wr)) (last : Int) (b : Nat) : Pins (rdP S W last b) (ptr b) := pins_abs (k := 3) rfl
def rdX (S : List ByteArray) (W : List (Int × Wr)) (last : Int) : AbP := exP (rdP S W last)
theorem rdX_nn (S : List ByteArray) (W : List (Int × Wr)) (last : Int) : NotNil (rdX S W last) := NotNil.ex fun b => rd_pins _ _ _ _
theorem rd_st (S : List ByteArray) (W : List (Int × Wr)) (last : Int) : ∀ b, stable (rdP S W last b) := fun b => absP_stable _ _
/-- The place of a write. -/
def fxW (k : Int) (W : List (Int × Wr)) : Int := if W.findIdx (fun p => p.1 == k) < W.length then (W.findIdx (fun p => p.1 == k) : Nat) else -1
def r3' (d l m n : Nat) : Nat := if n = 0 then d else if n = 1 then l else m
section
variable {H : HL} {nx d l m b : Nat} {b1 b2 b3 : Bool} {S : List ByteArray} {W : List (Int × Wr)} {last : Int}
def hRD (S : List ByteArray) (W : List (Int × Wr)) (last : Int) : HL := [(0, some (false, .cells [.nm 1, .nm 2, iT last] 93)), (1, some (false, .own 9 1 S.length (svs S))), (2, some (false, .own 253 5 W.length (wrs W)))]
theorem memRD (hd : lookH H d = some (b1, .cells [.nm l, .nm m, iT last] 93)) (hl : lookH H l = some (b2, .own 9 1 S.length (svs S))) (hm : lookH H m = some (b3, .own 253 5 W.length (wrs W))) : rdsOk (r3' d l m) H (hRD S W last) := ⟨⟨b1, hd⟩, ⟨b2, hl⟩, ⟨b3, hm⟩, trivial⟩
theorem rreadU (hd : lookH H d = some (b1, .cells [.nm l, .nm m, iT last] 93)) (hl : lookH H l = some (b2, .own 9 1 S.length (svs S))) (hm : lookH H m = some (b3, .own 253 5 W.length (wrs W))) (k : Int) :
    FnH Tryz.prog 58 [.c (.p d 0), .c (iT k)] H nx ⟨.tup [.c (.s (rdT S k)), .c (iT (rdE S.length k))], [], [], []⟩ := by
  refine fnR (fn := Tryz.f58) 24 rfl rfl rfl (args' := [.c (.p 0 0), .c (iT k)]) (H' := hRD S W last) (nx' := 3) (fun e w M => ⟨_, mem_rd (r3' d l m) (memRD hd hl hm) M, rfl⟩) rfl rfl rfl rfl fun w => ?_
  show At _ _ _ _ _ _ [(0, some (false, .cells [.nm 1, .nm 2, iT last] 93)), (1, some (false, .own 9 1 S.length (svs S))), (2, some (false, .own 253 5 W.length (wrs W)))] 3
  cases h : inS S.length k with
  | false =>
    have e1 : rdT S k = ⟨#[]⟩ := by simp [rdT, h]
    have e2 : rdE S.length k = 1 := by simp [rdE, h]
    rw [e1, e2]
    refine rn [(16, .dec true)] rfl (by (repeat' (first | exact trivial | exact rfl | exact not_inS h | exact fun _ => not_inS h | refine And.intro ?_ ?_))) ?_
    exact ret0 tysOk rfl (by repeat' (first | exact trivial | exact rfl | refine And.intro ?_ ?_)) rfl
  | true =>
    have e2 : rdE S.length k = 0 := by simp [rdE, h]
    have hb := inS_iff.1 h
    rw [e2]
    refine rn [(16, .dec false), (23, .ld [.s (rdT S k)])] rfl (by (repeat' (first | exact trivial | exact rfl | exact is_inS h | exact fun _ => is_inS h | first | exact svs_rd h | exact hb.1 | exact hb.2 | decide | refine And.intro ?_ ?_))) ?_
    exact ret0 tysOk rfl (by repeat' (first | exact trivial | exact rfl | refine And.intro ?_ ?_)) rfl
theorem rpassesU (hd : lookH H d = some (b1, .cells [.nm l, .nm m, iT last] 93)) (hl : lookH H l = some (b2, .own 9 1 S.length (svs S))) (hm : lookH H m = some (b3, .own 253 5 W.length (wrs W))) (h2 : 2 ≤ S.length) (hz : ∀ s ∈ S, s.size = 64) (node n : Int) :
    FnH Tryz.prog 165 [.c (.p d 0), .c (iT node), .c (iT n)] H nx ⟨.t (.c (.b (psD (s1 S) node n))), [], [], []⟩ := by
  refine fnR (fn := Tryz.f165) 26 rfl rfl rfl (args' := [.c (.p 0 0), .c (iT node), .c (iT n)]) (H' := hRD S W last) (nx' := 3) (fun e w M => ⟨_, mem_rd (r3' d l m) (memRD hd hl hm) M, rfl⟩) rfl rfl rfl rfl fun w => ?_
  show At _ _ _ _ _ _ [(0, some (false, .cells [.nm 1, .nm 2, iT last] 93)), (1, some (false, .own 9 1 S.length (svs S))), (2, some (false, .own 253 5 W.length (wrs W)))] 3
  have hg : s1 S = S[1] := by rw [s1, List.getD_eq_getElem?_getD, List.getElem?_eq_getElem (by omega)]; rfl
  have e1 : (svs S)[(1 : Int).toNat * 1]? = some (.string (s1 S)) := by rw [hg]; exact svs_at (by omega)
  have hs : (s1 S).size = 64 := by rw [hg]; exact hz _ (List.getElem_mem _)
  have hp := rpasses0 (s1 S) node n (by omega)
  have b1 : (1 : Int) < (S.length : Int) := by omega
  cases h : (passE (s1 S) node != 0) with
  | true =>
    have e3 : psD (s1 S) node n = true := by rw [psD, h, Bool.or_true]
    rw [e3]
    refine rn [(15, .ld [.s (s1 S)]), (18, .ret (.tup [.c (.b (passB (s1 S) node n)), .c (iT (passE (s1 S) node))])), (23, .dec true)] rfl (by (repeat' (first | exact trivial | exact rfl | exact e1 | exact fun _ => e1 | first | exact hp | exact b1 | exact h | decide | refine And.intro ?_ ?_))) ?_
    exact ret0 tysOk rfl (by repeat' (first | exact trivial | exact rfl | refine And.intro ?_ ?_)) rfl
  | false =>
    have e3 : psD (s1 S) node n = passB (s1 S) node n := by rw [psD, h, Bool.or_false]
    rw [e3]
    refine rn [(15, .ld [.s (s1 S)]), (18, .ret (.tup [.c (.b (passB (s1 S) node n)), .c (iT (passE (s1 S) node))])), (23, .dec false)] rfl (by (repeat' (first | exact trivial | exact rfl | exact e1 | exact fun _ => e1 | first | exact hp | exact b1 | exact h | decide | refine And.intro ?_ ?_))) ?_
    exact ret0 tysOk rfl (by repeat' (first | exact trivial | exact rfl | refine And.intro ?_ ?_)) rfl
end
section
variable {H : HL} {nx d b : Nat} {S : List ByteArray} {W : List (Int × Wr)} {last : Int}
theorem rreadQ (k : Int) (H : HL) (nx : Nat) (h1 : lookH H 1 = some (true, .cells [.nm 2, .nm 3, iT last] 93)) (h2 : lookH H 2 = some (true, .own 9 1 S.length (svs S))) (h3 : lookH H 3 = some (true, .own 253 5 W.length (wrs W))) :
    FnH Tryz.prog 58 [.c (.p 1 0), .c (iT k)] H nx ⟨.tup [.c (.s (rdT S k)), .c (iT (rdE S.length k))], [], [], []⟩ := rreadU h1 h2 h3 k
theorem rpassQ (h0 : 2 ≤ S.length) (hz : ∀ s ∈ S, s.size = 64) (node n : Int) (H : HL) (nx : Nat) (h1 : lookH H 1 = some (true, .cells [.nm 2, .nm 3, iT last] 93)) (h2 : lookH H 2 = some (true, .own 9 1 S.length (svs S))) (h3 : lookH H 3 = some (true, .own 253 5 W.length (wrs W))) :
    FnH Tryz.prog 165 [.c (.p 1 0), .c (iT node), .c (iT n)] H nx ⟨.t (.c (.b (psD (s1 S) node n))), [], [], []⟩ := rpassesU h1 h2 h3 h0 hz node n
theorem rreadA (hd : lookH H d = some (true, .ab (rdP S W last b))) (k : Int) : FnH Tryz.prog 58 [.c (.nm d), .c (iT k)] H nx ⟨.tup [.c (.s (rdT S k)), .c (iT (rdE S.length k))], [], [(d, some (.ab (rdP S W last b)))], []⟩ :=
  fnh_shut (O := rdO S W last b) (x := .p 0 0) (v' := .tup [.c (.s (rdT S k)), .c (iT (rdE S.length k))]) (news' := []) hd rfl rfl rfl rfl rfl (rreadU (d := 0) (l := 1) (m := 2) rfl rfl rfl k)
set_option maxRecDepth 100000 in
set_option maxHeartbeats 1000000 in
theorem rlayA (hd : lookH H d = some (true, .ab (rdP S W last b))) (k : Int) (s : ByteArray) : FnH Tryz.prog 38 [.c (.nm d), .c (iT k), .c (.s s)] H nx ⟨.t (.c (iT (wrE S.length k s))), [], [(d, some (.ab (rdP (layS S k s) W last b)))], []⟩ := by
  refine fnA (fn := Tryz.f38) 28 rfl rfl rfl hd (ptr b) (rd_pins _ _ _ _) (rd_pins _ _ _ _) rfl rfl rfl (v' := .t (.c (iT (wrE S.length k s)))) (news' := []) rfl rfl rfl rfl fun w Wr => ?_
  refine At.unfoldTo 0 (L1 := (0, .t (.c (.p 1 0))) :: [(1, .t (.c (iT k))), (2, .t (.c (.s s)))]) (H1 := [(1, some (true, .cells [.nm 2, .nm 3, iT last] 93)), (2, some (true, .own 9 1 S.length (svs S))), (3, some (true, .own 253 5 W.length (wrs W))), (4, some (false, .pin 1 b)), (0, none), (0, some (true, .ab (rdP S W last b)))]) (nx1 := 5) rfl rfl rfl rfl rfl rfl ?_
  have hr := rreadQ (S := S) (W := W) (last := last) k
  cases h1 : inS S.length k with
  | false =>
    have e0 : wrE S.length k s = 1 := by simp [wrE, h1]
    have e1 : layS S k s = S := by rw [layS, e0, if_neg (by decide)]
    have e2 : rdE S.length k = 1 := by simp [rdE, h1]
    rw [e0, e1]
    rw [e2] at hr
    refine rn [(12, .spec ⟨.tup [.c (.s (rdT S k)), .c (iT 1)], [], [], []⟩), (16, .dec true)] rfl (by (repeat' (first | exact trivial | exact rfl | exact trivial | exact fun _ => trivial | first | exact hr _ _ rfl rfl rfl | decide | refine And.intro ?_ ?_))) ?_
    refine Done.fold [(0, 1), (1, 2), (2, 3), (3, 4)] (rdO (S) (W) (last) b) (.p 0 0) (by (repeat' (first | exact trivial | exact rfl | exact trivial | exact fun _ => trivial | trivial | refine And.intro ?_ ?_))) rfl rfl (fun _ => rfl) ?_
    exact retM tysOk [(0, 5)] rfl (by (repeat' (first | exact trivial | exact rfl | exact trivial | exact fun _ => trivial | trivial | refine And.intro ?_ ?_))) (by repeat' (first | exact trivial | exact rfl | refine And.intro ?_ ?_)) rfl rfl
  | true =>
    have e2 : rdE S.length k = 0 := by simp [rdE, h1]
    have hb := inS_iff.1 h1
    have hlt : k.toNat < S.length := by omega
    have hl : (svs S).length = S.length := svs_length S
    rw [e2] at hr
    by_cases hs : s.size = 64
    · have e0 : wrE S.length k s = 0 := by simp [wrE, h1, hs]
      have e1 : layS S k s = S.set k.toNat s := if_pos e0
      have d1 : (((s.size : Nat) : Int) != 64) = false := by rw [hs]; rfl
      rw [e0, e1]
      refine rn [(12, .spec ⟨.tup [.c (.s (rdT S k)), .c (iT 0)], [], [], []⟩), (16, .dec false), (20, .dec false)] rfl (by (repeat' (first | exact trivial | exact rfl | exact trivial | exact fun _ => trivial | first | exact hr _ _ rfl rfl rfl | exact d1 | exact hb.1 | exact hb.2 | (show k.toNat * 1 + 1 ≤ (svs S).length; omega) | decide | refine And.intro ?_ ?_))) ?_
      refine Done.fold [(0, 1), (1, 2), (2, 3), (3, 4)] (rdO (S.set k.toNat s) (W) (last) b) (.p 0 0) (by (repeat' (first | exact trivial | exact rfl | exact trivial | exact fun _ => trivial | first | exact (List.length_set ..).symm | exact set_svs hlt | refine And.intro ?_ ?_))) rfl rfl (fun _ => rfl) ?_
      exact retM tysOk [(0, 5)] rfl (by (repeat' (first | exact trivial | exact rfl | exact trivial | exact fun _ => trivial | first | exact (List.length_set ..).symm | exact set_svs hlt | refine And.intro ?_ ?_))) (by repeat' (first | exact trivial | exact rfl | refine And.intro ?_ ?_)) rfl rfl
    · have e0 : wrE S.length k s = 3 := by simp [wrE, h1, hs]
      have e1 : layS S k s = S := by rw [layS, e0, if_neg (by decide)]
      have d1 : (((s.size : Nat) : Int) != 64) = true := by simp; omega
      rw [e0, e1]
      refine rn [(12, .spec ⟨.tup [.c (.s (rdT S k)), .c (iT 0)], [], [], []⟩), (16, .dec false), (20, .dec true)] rfl (by (repeat' (first | exact trivial | exact rfl | exact trivial | exact fun _ => trivial | first | exact hr _ _ rfl rfl rfl | exact d1 | decide | refine And.intro ?_ ?_))) ?_
      refine Done.fold [(0, 1), (1, 2), (2, 3), (3, 4)] (rdO (S) (W) (last) b) (.p 0 0) (by (repeat' (first | exact trivial | exact rfl | exact trivial | exact fun _ => trivial | trivial | refine And.intro ?_ ?_))) rfl rfl (fun _ => rfl) ?_
      exact retM tysOk [(0, 5)] rfl (by (repeat' (first | exact trivial | exact rfl | exact trivial | exact fun _ => trivial | trivial | refine And.intro ?_ ?_))) (by repeat' (first | exact trivial | exact rfl | refine And.intro ?_ ?_)) rfl rfl
end
end Cw
namespace Cw
open Go Vc
open Go.Proofs
set_option maxRecDepth 100000
section
variable {H : HL} {nx d b : Nat} {S : List ByteArray} {W : List (Int × Wr)} {last : Int}
end
end Cw
namespace Cw
open Go Vc
open Go.Proofs
set_option maxRecDepth 100000
section
variable {H : HL} {nx d b n : Nat} {S : List ByteArray} {W : List (Int × Wr)} {last : Int}
theorem isE_not {node ep : Int} (h : isE node ep = 1) : (((decide (node < 0) || decide (1 < node)) || decide (ep < 0)) || decide (4294967295 < ep)) = true := by
  unfold isE at h
  split at h
  · cases h
  · rename_i h'
    simp only [Bool.or_eq_true, decide_eq_true_eq]
    omega
theorem isE_yes {node ep : Int} (h : isE node ep = 0) : (((decide (node < 0) || decide (1 < node)) || decide (ep < 0)) || decide (4294967295 < ep)) = false := by
  unfold isE at h
  split at h
  · simp only [Bool.or_eq_false_iff, decide_eq_false_iff_not]
    omega
  · cases h
set_option maxRecDepth 100000 in
set_option maxHeartbeats 2000000 in
theorem rraiseA (hd : lookH H d = some (true, .ab (rdP S W last b))) (h2 : 2 ≤ S.length) (hz : ∀ s ∈ S, s.size = 64) (node n : Int) :
    FnH Tryz.prog 44 [.c (.nm d), .c (iT node), .c (iT n)] H nx ⟨.t (.c (iT (rsE S node n))), [], [(d, some (.ab (rdP (rsS S node n) W last b)))], []⟩ := by
  refine fnA (fn := Tryz.f44) 32 rfl rfl rfl hd (ptr b) (rd_pins _ _ _ _) (rd_pins _ _ _ _) rfl rfl rfl (v' := .t (.c (iT (rsE S node n)))) (news' := []) rfl rfl rfl rfl fun w Wr => ?_
  refine At.unfoldTo 0 (L1 := (0, .t (.c (.p 1 0))) :: [(1, .t (.c (iT node))), (2, .t (.c (iT n)))]) (H1 := [(1, some (true, .cells [.nm 2, .nm 3, iT last] 93)), (2, some (true, .own 9 1 S.length (svs S))), (3, some (true, .own 253 5 W.length (wrs W))), (4, some (false, .pin 1 b)), (0, none), (0, some (true, .ab (rdP S W last b)))]) (nx1 := 5) rfl rfl rfl rfl rfl rfl ?_
  have hg : s1 S = S[1] := by rw [s1, List.getD_eq_getElem?_getD, List.getElem?_eq_getElem (by omega)]; rfl
  have l1 : (svs S)[(1 : Int).toNat * 1]? = some (.string (s1 S)) := by rw [hg]; exact svs_at (by omega)
  have hs : (s1 S).size = 64 := by rw [hg]; exact hz _ (List.getElem_mem _)
  have hr := rraise0 (s1 S) node n (by omega)
  have b1 : (1 : Int) < (S.length : Int) := by omega
  have hsl : (svs S).length = S.length := svs_length S
  rcases raiseE_cases (s1 S) node n with q | q | q
  · have e0 : rsE S node n = 0 := by simp [rsE, q]
    have e1 : rsS S node n = S.set 1 (setE (s1 S) node n) := by simp [rsS, q]
    have e2 : raiseS (s1 S) node n = setE (s1 S) node n := by rw [raiseS, if_pos q]
    rw [q, e2] at hr
    rw [e0, e1]
    refine rn [(15, .ld [.s (s1 S)]), (18, .ret (.tup [.c (.s (setE (s1 S) node n)), .c (iT 0)])), (22, .dec false), (24, .dec false)] rfl (by (repeat' (first | exact trivial | exact rfl | exact l1 | exact fun _ => l1 | first | exact hr | exact b1 | (show (1 : Int).toNat * 1 + 1 ≤ (svs S).length; omega) | decide | refine And.intro ?_ ?_))) ?_
    refine Done.fold [(0, 1), (1, 2), (2, 3), (3, 4)] (rdO (S.set 1 (setE (s1 S) node n)) (W) (last) b) (.p 0 0) (by (repeat' (first | exact trivial | exact rfl | exact trivial | exact fun _ => trivial | first | exact (List.length_set ..).symm | exact set_svs (k := 1) (by omega) | refine And.intro ?_ ?_))) rfl rfl (fun _ => rfl) ?_
    exact retM tysOk [(0, 5)] rfl (by (repeat' (first | exact trivial | exact rfl | exact trivial | exact fun _ => trivial | first | exact (List.length_set ..).symm | exact set_svs (k := 1) (by omega) | refine And.intro ?_ ?_))) (by repeat' (first | exact trivial | exact rfl | refine And.intro ?_ ?_)) rfl rfl
  · have e0 : rsE S node n = 1 := by simp [rsE, q]
    have e1 : rsS S node n = S := by simp [rsS, q]
    rw [q] at hr
    rw [e0, e1]
    refine rn [(15, .ld [.s (s1 S)]), (18, .ret (.tup [.c (.s (raiseS (s1 S) node n)), .c (iT 1)])), (22, .dec false), (24, .dec true)] rfl (by (repeat' (first | exact trivial | exact rfl | exact l1 | exact fun _ => l1 | first | exact hr | exact b1 | decide | refine And.intro ?_ ?_))) ?_
    refine Done.fold [(0, 1), (1, 2), (2, 3), (3, 4)] (rdO (S) (W) (last) b) (.p 0 0) (by (repeat' (first | exact trivial | exact rfl | exact trivial | exact fun _ => trivial | trivial | refine And.intro ?_ ?_))) rfl rfl (fun _ => rfl) ?_
    exact retM tysOk [(0, 5)] rfl (by (repeat' (first | exact trivial | exact rfl | exact trivial | exact fun _ => trivial | trivial | refine And.intro ?_ ?_))) (by repeat' (first | exact trivial | exact rfl | refine And.intro ?_ ?_)) rfl rfl
  · have e0 : rsE S node n = 110 := by simp [rsE, q]
    have e1 : rsS S node n = S := by simp [rsS, q]
    rw [q] at hr
    rw [e0, e1]
    refine rn [(15, .ld [.s (s1 S)]), (18, .ret (.tup [.c (.s (raiseS (s1 S) node n)), .c (iT 40)])), (22, .dec true)] rfl (by (repeat' (first | exact trivial | exact rfl | exact l1 | exact fun _ => l1 | first | exact hr | exact b1 | decide | refine And.intro ?_ ?_))) ?_
    refine Done.fold [(0, 1), (1, 2), (2, 3), (3, 4)] (rdO (S) (W) (last) b) (.p 0 0) (by (repeat' (first | exact trivial | exact rfl | exact trivial | exact fun _ => trivial | trivial | refine And.intro ?_ ?_))) rfl rfl (fun _ => rfl) ?_
    exact retM tysOk [(0, 5)] rfl (by (repeat' (first | exact trivial | exact rfl | exact trivial | exact fun _ => trivial | trivial | refine And.intro ?_ ?_))) (by repeat' (first | exact trivial | exact rfl | refine And.intro ?_ ?_)) rfl rfl
end
end Cw
namespace Cw
open Go Vc
open Go.Proofs
set_option maxRecDepth 100000
section
variable {H : HL} {nx d b n : Nat} {S : List ByteArray} {W : List (Int × Wr)} {last : Int}
set_option maxRecDepth 100000 in
set_option maxHeartbeats 4000000 in
theorem rswapA (hd : lookH H d = some (true, .ab (rdP S W last b))) (h2 : 2 ≤ S.length) (hz : ∀ s ∈ S, s.size = 64) (node ep k : Int) (was now : Pt) (z1 : was.2.size ≤ 9223372036854775807) (z2 : now.2.size ≤ 9223372036854775807) :
    FnH Tryz.prog 123 [.c (.nm d), .c (iT node), .c (iT ep), .c (iT k), ptT was, ptT now] H nx ⟨.tup [.c (.b (swB S node ep k was now)), .c (iT (swE S node ep k was now))], [], [(d, some (.ab (rdP (swS S node ep k was now) W last b)))], []⟩ := by
  refine fnA (fn := Tryz.f123) 88 rfl rfl rfl hd (ptr b) (rd_pins _ _ _ _) (rd_pins _ _ _ _) rfl rfl rfl (v' := .tup [.c (.b (swB S node ep k was now)), .c (iT (swE S node ep k was now))]) (news' := []) rfl rfl rfl rfl fun w Wr => ?_
  refine At.unfoldTo 0 (L1 := (0, .t (.c (.p 1 0))) :: [(1, .t (.c (iT node))), (2, .t (.c (iT ep))), (3, .t (.c (iT k))), (4, .t (ptT was)), (5, .t (ptT now))]) (H1 := [(1, some (true, .cells [.nm 2, .nm 3, iT last] 93)), (2, some (true, .own 9 1 S.length (svs S))), (3, some (true, .own 253 5 W.length (wrs W))), (4, some (false, .pin 1 b)), (0, none), (0, some (true, .ab (rdP S W last b)))]) (nx1 := 5) rfl rfl rfl rfl rfl rfl ?_
  have hr := rreadQ (S := S) (W := W) (last := last) k
  rcases (isE_cases node ep).symm with q1 | q1
  · have e0 : swE S node ep k was now = 1 := by simp [swE, q1]
    have e1 : swB S node ep k was now = false := by simp [swB, e0]
    have e2 : swS S node ep k was now = S := by simp [swS, e1]
    have d1 := isE_not q1
    rw [e0, e1, e2]
    refine rn [(29, .dec true)] rfl (by (repeat' (first | exact trivial | exact rfl | exact d1 | exact fun _ => d1 | refine And.intro ?_ ?_))) ?_
    refine Done.fold [(0, 1), (1, 2), (2, 3), (3, 4)] (rdO (S) (W) (last) b) (.p 0 0) (by (repeat' (first | exact trivial | exact rfl | exact trivial | exact fun _ => trivial | trivial | refine And.intro ?_ ?_))) rfl rfl (fun _ => rfl) ?_
    exact retM tysOk [(0, 7)] rfl (by (repeat' (first | exact trivial | exact rfl | exact trivial | exact fun _ => trivial | trivial | refine And.intro ?_ ?_))) (by repeat' (first | exact trivial | exact rfl | refine And.intro ?_ ?_)) rfl rfl
  have d1 := isE_yes q1
  cases q2 : inS S.length k with
  | false =>
    have e0 : swE S node ep k was now = 1 := by simp [swE, q1, q2]
    have e1 : swB S node ep k was now = false := by simp [swB, e0]
    have e2 : swS S node ep k was now = S := by simp [swS, e1]
    have f2 : rdE S.length k = 1 := by simp [rdE, q2]
    rw [f2] at hr
    rw [e0, e1, e2]
    refine rn [(29, .dec false), (33, .spec ⟨.tup [.c (.s (rdT S k)), .c (iT 1)], [], [], []⟩), (37, .dec true)] rfl (by (repeat' (first | exact trivial | exact rfl | exact d1 | exact fun _ => d1 | first | exact hr _ _ rfl rfl rfl | decide | refine And.intro ?_ ?_))) ?_
    refine Done.fold [(0, 1), (1, 2), (2, 3), (3, 4)] (rdO (S) (W) (last) b) (.p 0 0) (by (repeat' (first | exact trivial | exact rfl | exact trivial | exact fun _ => trivial | trivial | refine And.intro ?_ ?_))) rfl rfl (fun _ => rfl) ?_
    exact retM tysOk [(0, 7)] rfl (by (repeat' (first | exact trivial | exact rfl | exact trivial | exact fun _ => trivial | trivial | refine And.intro ?_ ?_))) (by repeat' (first | exact trivial | exact rfl | refine And.intro ?_ ?_)) rfl rfl
  | true =>
    have f2 : rdE S.length k = 0 := by simp [rdE, q2]
    rw [f2] at hr
    have hb := inS_iff.1 q2
    have hlt : k.toNat < S.length := by omega
    have hmem : rdT S k ∈ S := by
      rw [rdT, if_pos q2, List.getD_eq_getElem?_getD, List.getElem?_eq_getElem hlt]
      exact List.getElem_mem hlt
    have h64 := hz _ hmem
    have hfw := r11check0 was
    have hfn := r11check0 now
    have hsl : (svs S).length = S.length := svs_length S
    cases q4 : okp was with
    | false =>
      have e0 : swE S node ep k was now = 1 := by simp [swE, q1, q2, q4]
      have e1 : swB S node ep k was now = false := by simp [swB, e0]
      have e2 : swS S node ep k was now = S := by simp [swS, e1]
      have hf : fcheck was.1 was.2.size = 1 := by
        have : finside was.1 was.2.size = false := q4
        simp [fcheck, this]
      rw [hf] at hfw
      rw [e0, e1, e2]
      refine rn [(29, .dec false), (33, .spec ⟨.tup [.c (.s (rdT S k)), .c (iT 0)], [], [], []⟩), (37, .dec false), (40, .ret (.t (.c (iT 1)))), (42, .dec true), (46, .dec true)] rfl (by (repeat' (first | exact trivial | exact rfl | exact d1 | exact fun _ => d1 | first | exact hr _ _ rfl rfl rfl | exact hfw | decide | refine And.intro ?_ ?_))) ?_
      refine Done.fold [(0, 1), (1, 2), (2, 3), (3, 4)] (rdO (S) (W) (last) b) (.p 0 0) (by (repeat' (first | exact trivial | exact rfl | exact trivial | exact fun _ => trivial | trivial | refine And.intro ?_ ?_))) rfl rfl (fun _ => rfl) ?_
      exact retM tysOk [(0, 7)] rfl (by (repeat' (first | exact trivial | exact rfl | exact trivial | exact fun _ => trivial | trivial | refine And.intro ?_ ?_))) (by repeat' (first | exact trivial | exact rfl | refine And.intro ?_ ?_)) rfl rfl
    | true =>
      have hf : fcheck was.1 was.2.size = 0 := by
        have : finside was.1 was.2.size = true := q4
        simp [fcheck, this]
      rw [hf] at hfw
      cases q5 : okp now with
      | false =>
        have e0 : swE S node ep k was now = 1 := by simp [swE, q1, q2, q5]
        have e1 : swB S node ep k was now = false := by simp [swB, e0]
        have e2 : swS S node ep k was now = S := by simp [swS, e1]
        have hf' : fcheck now.1 now.2.size = 1 := by
          have : finside now.1 now.2.size = false := q5
          simp [fcheck, this]
        rw [hf'] at hfn
        rw [e0, e1, e2]
        refine rn [(29, .dec false), (33, .spec ⟨.tup [.c (.s (rdT S k)), .c (iT 0)], [], [], []⟩), (37, .dec false), (40, .ret (.t (.c (iT 0)))), (42, .dec false), (44, .ret (.t (.c (iT 1)))), (46, .dec true)] rfl (by (repeat' (first | exact trivial | exact rfl | exact d1 | exact fun _ => d1 | first | exact hr _ _ rfl rfl rfl | exact hfw | exact hfn | decide | refine And.intro ?_ ?_))) ?_
        refine Done.fold [(0, 1), (1, 2), (2, 3), (3, 4)] (rdO (S) (W) (last) b) (.p 0 0) (by (repeat' (first | exact trivial | exact rfl | exact trivial | exact fun _ => trivial | trivial | refine And.intro ?_ ?_))) rfl rfl (fun _ => rfl) ?_
        exact retM tysOk [(0, 7)] rfl (by (repeat' (first | exact trivial | exact rfl | exact trivial | exact fun _ => trivial | trivial | refine And.intro ?_ ?_))) (by repeat' (first | exact trivial | exact rfl | refine And.intro ?_ ?_)) rfl rfl
      | true =>
        have hf' : fcheck now.1 now.2.size = 0 := by
          have : finside now.1 now.2.size = true := q5
          simp [fcheck, this]
        rw [hf'] at hfn
        by_cases q6 : was.1 ≠ now.1 ∨ was.2.size ≠ now.2.size
        · have e0 : swE S node ep k was now = 4 := by simp [swE, q1, q2, q4, q5, q6]
          have e1 : swB S node ep k was now = false := by simp [swB, e0]
          have e2 : swS S node ep k was now = S := by simp [swS, e1]
          have hc : ((was.1 != now.1) || (((was.2.size : Nat) : Int) != (now.2.size : Nat))) = true := by
            rw [Bool.or_eq_true, bne_iff_ne, bne_iff_ne]
            rcases q6 with h | h
            · exact .inl h
            · exact .inr (by omega)
          rw [e0, e1, e2]
          refine rn [(29, .dec false), (33, .spec ⟨.tup [.c (.s (rdT S k)), .c (iT 0)], [], [], []⟩), (37, .dec false), (40, .ret (.t (.c (iT 0)))), (42, .dec false), (44, .ret (.t (.c (iT 0)))), (46, .dec false), (60, .dec true)] rfl (by (repeat' (first | exact trivial | exact rfl | exact d1 | exact fun _ => d1 | first | exact hr _ _ rfl rfl rfl | exact hfw | exact hfn | exact hc | decide | refine And.intro ?_ ?_))) ?_
          refine Done.fold [(0, 1), (1, 2), (2, 3), (3, 4)] (rdO (S) (W) (last) b) (.p 0 0) (by (repeat' (first | exact trivial | exact rfl | exact trivial | exact fun _ => trivial | trivial | refine And.intro ?_ ?_))) rfl rfl (fun _ => rfl) ?_
          exact retM tysOk [(0, 7)] rfl (by (repeat' (first | exact trivial | exact rfl | exact trivial | exact fun _ => trivial | trivial | refine And.intro ?_ ?_))) (by repeat' (first | exact trivial | exact rfl | refine And.intro ?_ ?_)) rfl rfl
        · have q7 : was.1 = now.1 ∧ was.2.size = now.2.size := ⟨Decidable.byContradiction fun h => q6 (.inl h), Decidable.byContradiction fun h => q6 (.inr h)⟩
          have hc : ((was.1 != now.1) || (((was.2.size : Nat) : Int) != (now.2.size : Nat))) = false := by
            rw [q7.1, q7.2]; simp
          have hp := rpassQ (W := W) (last := last) h2 hz node ep
          cases q8 : psD (s1 S) node ep with
          | false =>
            have e0 : swE S node ep k was now = 110 := by simp [swE, q1, q2, q4, q5, q7, q8]
            have e1 : swB S node ep k was now = false := by simp [swB, e0]
            have e2 : swS S node ep k was now = S := by simp [swS, e1]
            rw [q8] at hp
            rw [e0, e1, e2]
            refine rn [(29, .dec false), (33, .spec ⟨.tup [.c (.s (rdT S k)), .c (iT 0)], [], [], []⟩), (37, .dec false), (40, .ret (.t (.c (iT 0)))), (42, .dec false), (44, .ret (.t (.c (iT 0)))), (46, .dec false), (60, .dec false), (64, .spec ⟨.t (.c (.b false)), [], [], []⟩), (65, .dec true)] rfl (by (repeat' (first | exact trivial | exact rfl | exact d1 | exact fun _ => d1 | first | exact hr _ _ rfl rfl rfl | exact hfw | exact hfn | exact hc | exact hp _ _ rfl rfl rfl | decide | refine And.intro ?_ ?_))) ?_
            refine Done.fold [(0, 1), (1, 2), (2, 3), (3, 4)] (rdO (S) (W) (last) b) (.p 0 0) (by (repeat' (first | exact trivial | exact rfl | exact trivial | exact fun _ => trivial | trivial | refine And.intro ?_ ?_))) rfl rfl (fun _ => rfl) ?_
            exact retM tysOk [(0, 7)] rfl (by (repeat' (first | exact trivial | exact rfl | exact trivial | exact fun _ => trivial | trivial | refine And.intro ?_ ?_))) (by repeat' (first | exact trivial | exact rfl | refine And.intro ?_ ?_)) rfl rfl
          | true =>
            have e0 : swE S node ep k was now = 0 := by simp [swE, q1, q2, q4, q5, q7, q8]
            have e1 : swB S node ep k was now = (plc (rdT S k) was == was.2) := by simp [swB, e0]
            have hok := okp_iff q4
            have wk : IntKind.i64.wrap (was.1 + (was.2.size : Nat)) = was.1 + (was.2.size : Nat) := wrap_sm (by omega) (by omega)
            have ho := rone0 (rdT S k) now h64 q5
            rw [q8] at hp
            rw [e0]
            refine rn [(29, .dec false), (33, .spec ⟨.tup [.c (.s (rdT S k)), .c (iT 0)], [], [], []⟩), (37, .dec false), (40, .ret (.t (.c (iT 0)))), (42, .dec false), (44, .ret (.t (.c (iT 0)))), (46, .dec false), (60, .dec false), (64, .spec ⟨.t (.c (.b true)), [], [], []⟩), (65, .dec false)] rfl (by (repeat' (first | exact trivial | exact rfl | exact d1 | exact fun _ => d1 | first | exact hr _ _ rfl rfl rfl | exact hfw | exact hfn | exact hc | exact hp _ _ rfl rfl rfl | (rw [wk]; omega) | omega | decide | refine And.intro ?_ ?_))) ?_
            rw [wk]
            refine ⟨fun h => ?_, fun h => ?_⟩
            · have hne : (plc (rdT S k) was == was.2) = false := by
                rw [bq]
                have : ¬ plc (rdT S k) was = was.2 := by have h' := h; simp [bt_iff2] at h'; exact h'
                exact decide_eq_false this
              rw [hne] at e1
              have e2 : swS S node ep k was now = S := by simp [swS, e1]
              rw [e1, e2]
              refine rn [] rfl (by repeat' (first | exact trivial | exact rfl | refine And.intro ?_ ?_)) ?_
              refine Done.fold [(0, 1), (1, 2), (2, 3), (3, 4)] (rdO (S) (W) (last) b) (.p 0 0) (by (repeat' (first | exact trivial | exact rfl | exact trivial | exact fun _ => trivial | trivial | refine And.intro ?_ ?_))) rfl rfl (fun _ => rfl) ?_
              exact retM tysOk [(0, 7)] rfl (by (repeat' (first | exact trivial | exact rfl | exact trivial | exact fun _ => trivial | trivial | refine And.intro ?_ ?_))) (by repeat' (first | exact trivial | exact rfl | refine And.intro ?_ ?_)) rfl rfl
            · have hne : (plc (rdT S k) was == was.2) = true := by
                rw [bq]
                have : plc (rdT S k) was = was.2 := by have h' := h; simp [bt_iff2] at h'; exact h'
                exact decide_eq_true this
              rw [hne] at e1
              have e2 : swS S node ep k was now = S.set k.toNat (pt (rdT S k) [now]) := by simp [swS, e1]
              rw [e1, e2]
              refine rn [(86, .ret (.t (.c (.s (pt (rdT S k) [now])))))] rfl (by (repeat' (first | exact trivial | exact rfl | exact trivial | exact fun _ => trivial | first | exact ho | exact hb.1 | exact hb.2 | (show k.toNat * 1 + 1 ≤ (svs S).length; omega) | decide | refine And.intro ?_ ?_))) ?_
              refine Done.fold [(0, 1), (1, 2), (2, 3), (3, 4)] (rdO (S.set k.toNat (pt (rdT S k) [now])) (W) (last) b) (.p 0 0) (by (repeat' (first | exact trivial | exact rfl | exact trivial | exact fun _ => trivial | first | exact (List.length_set ..).symm | exact set_svs hlt | refine And.intro ?_ ?_))) rfl rfl (fun _ => rfl) ?_
              exact retM tysOk [(0, 7)] rfl (by (repeat' (first | exact trivial | exact rfl | exact trivial | exact fun _ => trivial | first | exact (List.length_set ..).symm | exact set_svs hlt | refine And.intro ?_ ?_))) (by repeat' (first | exact trivial | exact rfl | refine And.intro ?_ ?_)) rfl rfl
end
set_option maxRecDepth 100000 in
set_option maxHeartbeats 2000000 in
theorem rnewA {H : HL} {nx n : Nat} (h0 : 2 ≤ n) (h1 : n ≤ 2048) : FnH Tryz.prog 35 [.c (iT n)] H nx ⟨.tup [.c (.nm nx), .c (iT 0)], [(true, .ab (rdX (S0 n) [] 0))], [], []⟩ := by
  refine fnM (fn := Tryz.f35) 37 rfl rfl rfl (args' := [.c (iT n)]) (H' := []) (nx' := 0) [] (fun e w M => ⟨e, ⟨fun n b o h => (by cases h), fun n o m c q h => (by cases h)⟩, rfl⟩) rfl rfl rfl (fun e w M u hu => by cases hu) (fun u hu => by cases hu) (by simp) (v' := .tup [.c (.nm 0), .c (iT 0)]) (news' := [(true, .ab (rdX (S0 n) [] 0))]) rfl rfl rfl rfl rfl fun w Wr => ?_
  have hc : (decide ((n : Int) < 2) || decide (2048 < (n : Int))) = false := by
    rw [Bool.or_eq_false_iff]
    exact ⟨decide_eq_false (by omega), decide_eq_false (by omega)⟩
  refine rn [(11, .dec false)] rfl (by (repeat' (first | exact trivial | exact rfl | exact hc | exact fun _ => hc | refine And.intro ?_ ?_))) ?_
  refine At.nilCell 0 0 9 1 rfl rfl rfl ?_
  refine At.nilCell 0 1 253 5 rfl rfl rfl ?_
  refine At.loop (X := (j : Nat) ×' (j ≤ n)) 3 (fun s => n - s.1)
    (fun s => [(0, .t (.c (iT (n : Nat)))), (4, .t (.c (.p 0 0))), (5, .t (.c (iT (s.1 : Nat))))])
    (fun s => [(0, some (true, .cells [.nm 1, .nm 2, iT 0] 93)), (1, some (true, .own 9 1 s.1 (svs (List.replicate s.1 B0)))), (2, some (true, .own 253 5 0 (wrs [])))]) ⟨0, by omega⟩ [] (fun k => wf rfl rfl) (by repeat' (first | exact trivial | exact rfl | refine And.intro ?_ ?_)) (by repeat' (first | exact trivial | exact rfl | refine And.intro ?_ ?_)) rfl fun s => ?_
  obtain ⟨j, hj⟩ := s
  have w3 : IntKind.i64.wrap ((j : Int) + 1) = ((j + 1 : Nat) : Int) := by rw [wrap_sm (by omega) (by omega)]; omega
  refine rn [] rfl (by repeat' (first | exact trivial | exact rfl | refine And.intro ?_ ?_)) ?_
  refine ⟨fun h => ?_, fun h => ?_⟩
  · have hlt : j < n := by have : (j : Int) < (n : Int) := of_decide_eq_true h; omega
    clear h
    have m1 : j + 1 ≤ maxLen := by simp [maxLen]; omega
    have m2 : (j + 1) * 16 ≤ 140737488355328 := by omega
    refine rn [(24, .ret (.t (.c (.s B0))))] rfl (by (repeat' (first | exact trivial | exact rfl | exact rblank0 | exact fun _ => rblank0 | first | exact m1 | exact m2 | refine And.intro ?_ ?_))) ?_
    refine roundEnd ⟨j + 1, by omega⟩ [(1, 4)] (by show n - (j + 1) < n - j; omega) (by (repeat' (first | exact trivial | exact rfl | exact w3 | exact fun _ => w3 | refine And.intro ?_ ?_))) ?_ rfl
    repeat' (first | exact trivial | exact rfl | refine And.intro ?_ ?_)
    rw [svs_repl, svs_repl, app_eq, List.replicate_succ']
    rfl
  · have hlt : j = n := by have : ¬ (j : Int) < (n : Int) := of_decide_eq_false h; omega
    subst hlt
    have hsl : (svs (List.replicate j B0)).length = j := by rw [svs_length, List.length_replicate]
    refine rn [] rfl (by repeat' (first | exact trivial | exact rfl | refine And.intro ?_ ?_)) (roundExit rfl ?_)
    refine rnA [(34, .ret (.t (.c (.s (wallB 0 0)))))] rfl (by (repeat' (first | exact trivial | exact rfl | exact rwall0 0 0 (by decide) (by decide) | exact fun _ => rwall0 0 0 (by decide) (by decide) | first | (show (1 : Int).toNat * 1 + 1 ≤ (svs (List.replicate j B0)).length; rw [hsl]; omega) | (show (1 : Int) < ((j : Nat) : Int); omega) | decide | refine And.intro ?_ ?_))) ?_
    refine Done.pin 0 rfl fun b => ?_
    refine Done.foldR 2 (.p 0 0) [(0, 0), (1, 1), (2, 2), (3, 3)] (rdO (S0 j) [] 0 b) (.p 0 0) rfl (by repeat' (first | exact trivial | exact rfl | refine And.intro ?_ ?_)) ?_ rfl rfl (fun _ => rfl) ?_
    · (repeat' (first | exact trivial | exact rfl | exact trivial | exact fun _ => trivial | first | (show j = (S0 j).length; simp [S0]) | exact set_svs (S := List.replicate j B0) (k := 1) (by simp; omega) | refine And.intro ?_ ?_))
    refine Done.weak 4 (φ' := rdX (S0 j) [] 0) rfl (exP_stable fun b => absP_stable _ _) (fun v F w h => ⟨b, h⟩) ?_
    exact retM tysOk [(0, 4)] rfl (by repeat' (first | exact trivial | exact rfl | refine And.intro ?_ ?_)) (by repeat' (first | exact trivial | exact rfl | refine And.intro ?_ ?_)) rfl rfl
end Cw
