/- The package super, by reckoning: the fence's sector. -/
import Derived.Test.YtclcibpghonidaaGreatDoorVcFld
import Derived.Test.YtclcibpghonidaaGreatDoorSlV
import Derived.Test.YtclcibpghonidaaGreatDoorFieldW
namespace Cw
open Go Vc
open Go.Proofs
set_option maxRecDepth 100000
def fenc : ByteArray := ⟨#[70, 69, 78, 67]⟩
/-- The fence's sector. -/
def wallB (a b : Nat) : ByteArray := fenc ++ S (le 4 a) ++ S (le 4 b) ++ S (List.replicate 52 0)
theorem bsz (a b : ByteArray) : (a ++ b).size = a.size + b.size := ByteArray.size_append
theorem rep52 : Fn0 Tryz.prog 109 [.c (.s ⟨#[0]⟩), .c (iT 52)] (.t (.c (.s (S (List.replicate 52 0))))) := ⟨fun w => by
  have hr : (Lib.repeatL (⟨#[0]⟩ : ByteArray).data.toList 52) = List.replicate 52 0 := by decide
  have hc := Tryz.strings_Repeat ⟨#[0]⟩ 52 w (by omega) (by decide)
  rw [hr] at hc
  exact hc⟩
theorem padded0 (s : ByteArray) (hs : s.size = 12) : Fn0 Tryz.prog 151 [.c (.s s)] (.t (.c (.s (s ++ S (List.replicate 52 0))))) := by
  refine fn0 (fn := Tryz.f151) 9 rfl rfl rfl rfl rfl fun w => ?_
  have w1 : IntKind.i64.wrap (64 - (s.size : Int)) = 52 := by rw [hs]; rfl
  have h7 : Fn0 Tryz.prog 109 [.c (.s ⟨#[0]⟩), .c (iT (IntKind.i64.wrap (64 - (s.size : Int))))] (.t (.c (.s (S (List.replicate 52 0))))) := by rw [w1]; exact rep52
  have hz : s.size + (S (List.replicate 52 0)).size ≤ 9223372036854775807 := by rw [hs, S_size]; decide
  refine rn [(7, .ret (.t (.c (.s (S (List.replicate 52 0))))))] rfl (by (repeat' (first | exact trivial | exact rfl | exact h7 | exact fun _ => h7 | exact hz | refine And.intro ?_ ?_))) ?_
  exact ret0 tysOk rfl (by repeat' (first | exact trivial | exact rfl | refine And.intro ?_ ?_)) rfl
theorem putN4 (a : Nat) (h : a < 4294967296) : Fn0 Tryz.prog 32 [.c (iT 0), .c (iT 4), .c (iT a)] (.tup [patT 0 (le 4 a), .c (iT 0)]) := by
  have hp : Pok 0 4 a := ⟨.inr (.inr rfl), by omega, by omega, by omega, by show (a : Int) < 4294967296; omega⟩
  have := put0 0 4 a
  rw [putoff, if_pos hp, putb, if_pos hp, pute, if_pos hp] at this
  exact this
theorem wall0 (a b : Nat) (ha : a < 4294967296) (hb : b < 4294967296) : Fn0 Tryz.prog 114 [.agg [iT a, iT b]] (.t (.c (.s (wallB a b)))) := by
  refine fn0 (fn := Tryz.f114) 24 rfl rfl rfl rfl rfl fun w => ?_
  have z1 : fenc.size + (S (le 4 a)).size ≤ 9223372036854775807 := by rw [S_size, le_length]; decide
  have z2 : (fenc ++ S (le 4 a)).size + (S (le 4 b)).size ≤ 9223372036854775807 := by rw [bsz, S_size, le_length, S_size, le_length]; decide
  have z3 : (fenc ++ S (le 4 a) ++ S (le 4 b)).size = 12 := by rw [bsz, bsz, S_size, le_length, S_size, le_length]; rfl
  refine rn [] rfl (by repeat' (first | exact trivial | exact rfl | refine And.intro ?_ ?_)) ?_
  refine At.unroll ?_
  refine rn [(10, .dec true), (14, .ret (.tup [patT 0 (le 4 a), .c (iT 0)]))] rfl (by (repeat' (first | exact trivial | exact rfl | exact putN4 a ha | exact fun _ => putN4 a ha | first | exact z1 | decide | refine And.intro ?_ ?_))) (nextRound ?_)
  refine rn [(10, .dec true), (14, .ret (.tup [patT 0 (le 4 b), .c (iT 0)]))] rfl (by (repeat' (first | exact trivial | exact rfl | exact putN4 b hb | exact fun _ => putN4 b hb | first | exact z2 | decide | refine And.intro ?_ ?_))) (nextRound ?_)
  refine rn [(10, .dec false)] rfl (by (repeat' (first | exact trivial | exact rfl | exact trivial | exact fun _ => trivial | decide | refine And.intro ?_ ?_))) (nextExit rfl ?_)
  refine rnA [(23, .ret (.t (.c (.s (wallB a b)))))] rfl (by (repeat' (first | exact trivial | exact rfl | exact padded0 _ z3 | exact fun _ => padded0 _ z3 | refine And.intro ?_ ?_))) ?_
  exact ret0 tysOk rfl (by repeat' (first | exact trivial | exact rfl | refine And.intro ?_ ?_)) rfl
theorem wallB_size (a b : Nat) : (wallB a b).size = 64 := by
  rw [wallB, bsz, bsz, bsz, S_size, le_length, S_size, le_length, S_size, List.length_replicate]; rfl
def mayE (n : Int) : Bool := decide (0 ≤ n) && decide (n ≤ 4294967295)
theorem may0 (n : Int) : Fn0 Tryz.prog 113 [.c (iT n)] (.t (.c (.b (mayE n)))) := by
  refine fn0 (fn := Tryz.f113) 9 rfl rfl rfl rfl rfl fun w => ?_
  refine rn [] rfl (by repeat' (first | exact trivial | exact rfl | refine And.intro ?_ ?_)) ?_
  exact ret0 tysOk rfl (by repeat' (first | exact trivial | exact rfl | refine And.intro ?_ ?_)) rfl
theorem fence0 : Fn0 Tryz.prog 78 [.agg [iT 0, iT 0]] (.tup [.c (.s (wallB 0 0)), .c (iT 0)]) := by
  refine fn0 (fn := Tryz.f78) 16 rfl rfl rfl rfl rfl fun w => ?_
  have m0 : Fn0 Tryz.prog 113 [.c (iT 0)] (.t (.c (.b true))) := may0 0
  refine rn [(6, .ret (.t (.c (.b true)))), (8, .dec false), (11, .ret (.t (.c (.b true)))), (13, .dec false), (15, .ret (.t (.c (.s (wallB 0 0)))))] rfl (by (repeat' (first | exact trivial | exact rfl | exact m0 | exact fun _ => m0 | first | exact wall0 0 0 (by decide) (by decide) | decide | refine And.intro ?_ ?_))) ?_
  exact ret0 tysOk rfl (by repeat' (first | exact trivial | exact rfl | refine And.intro ?_ ?_)) rfl
/-- The epochs of a fence's sector. -/
def ep (s : ByteArray) : Nat × Nat := (numAt s 4 4, numAt s 8 4)
def fok (s : ByteArray) : Bool := decide (s.size = 64) && decide (wallB (ep s).1 (ep s).2 = s)
theorem numAt4 (s : ByteArray) (o : Nat) : numAt s o 4 < 4294967296 := numAt_max s o 4
theorem getAt4 {s : ByteArray} (hs : s.size = 64) (o : Nat) (ho : o ≤ 60) : Fn0 Tryz.prog 54 [.c (.s s), .c (iT o), .c (iT 4)] (.tup [.c (iT (numAt s o 4 : Nat)), .c (iT 0)]) := by
  have h := get0 s o 4 (by omega)
  have h1 : gete (s.size : Nat) (o : Int) 4 = 0 := by
    rw [hs, gete, if_neg (by simp), if_pos]
    refine ⟨by simp [fwide], ?_⟩
    simp only [finside, decide_eq_true_eq]
    omega
  rw [getn, h1, if_pos rfl] at h
  exact h
theorem epochs0 (s : ByteArray) (hz : s.size ≤ 9223372036854775807) : Fn0 Tryz.prog 131 [.c (.s s)] (.tup [.agg [iT (if fok s then ((ep s).1 : Nat) else 0), iT (if fok s then ((ep s).2 : Nat) else 0)], .c (iT (if fok s then 0 else 40))]) := by
  refine fn0 (fn := Tryz.f131) 30 rfl rfl rfl rfl rfl fun w => ?_
  by_cases hs : s.size = 64
  · have d1 : (((s.size : Nat) : Int) != 64) = false := by rw [hs]; rfl
    refine rn [(8, .dec false)] rfl (by (repeat' (first | exact trivial | exact rfl | exact d1 | exact fun _ => d1 | refine And.intro ?_ ?_))) ?_
    refine At.unroll ?_
    refine rn [(11, .dec true), (19, .ret (.tup [.c (iT (numAt s 4 4 : Nat)), .c (iT 0)]))] rfl (by (repeat' (first | exact trivial | exact rfl | exact getAt4 hs 4 (by decide) | exact fun _ => getAt4 hs 4 (by decide) | decide | refine And.intro ?_ ?_))) (nextRound ?_)
    refine rn [(11, .dec true), (19, .ret (.tup [.c (iT (numAt s 8 4 : Nat)), .c (iT 0)]))] rfl (by (repeat' (first | exact trivial | exact rfl | exact getAt4 hs 8 (by decide) | exact fun _ => getAt4 hs 8 (by decide) | decide | refine And.intro ?_ ?_))) (nextRound ?_)
    refine rn [(11, .dec false)] rfl (by (repeat' (first | exact trivial | exact rfl | exact trivial | exact fun _ => trivial | decide | refine And.intro ?_ ?_))) (nextExit rfl ?_)
    refine rnA [(25, .ret (.t (.c (.s (wallB (numAt s 4 4) (numAt s 8 4))))))] rfl (by (repeat' (first | exact trivial | exact rfl | exact wall0 _ _ (numAt4 _ _) (numAt4 _ _) | exact fun _ => wall0 _ _ (numAt4 _ _) (numAt4 _ _) | refine And.intro ?_ ?_))) ?_
    refine ⟨fun h => ?_, fun h => ?_⟩
    · have hf : fok s = false := by
        have : ¬ wallB (numAt s 4 4) (numAt s 8 4) = s := by simpa [bt_iff2] using h
        simp [fok, ep, this]
      refine rn [] rfl (by repeat' (first | exact trivial | exact rfl | refine And.intro ?_ ?_)) ?_
      rw [hf]
      exact ret0 tysOk rfl (by repeat' (first | exact trivial | exact rfl | refine And.intro ?_ ?_)) rfl
    · have hf : fok s = true := by
        have : wallB (numAt s 4 4) (numAt s 8 4) = s := by simpa [bt_iff2] using h
        simp [fok, ep, hs, this]
      refine rn [] rfl (by repeat' (first | exact trivial | exact rfl | refine And.intro ?_ ?_)) ?_
      rw [hf]
      exact ret0 tysOk rfl (by repeat' (first | exact trivial | exact rfl | refine And.intro ?_ ?_)) rfl
  · have d1 : (((s.size : Nat) : Int) != 64) = true := by simp; omega
    have hf : fok s = false := by simp [fok, hs]
    refine rn [(8, .dec true)] rfl (by (repeat' (first | exact trivial | exact rfl | exact d1 | exact fun _ => d1 | refine And.intro ?_ ?_))) ?_
    rw [hf]
    exact ret0 tysOk rfl (by repeat' (first | exact trivial | exact rfl | refine And.intro ?_ ?_)) rfl
def epN (s : ByteArray) (node : Int) : Nat := if node = 0 then (ep s).1 else (ep s).2
def setE (s : ByteArray) (node n : Int) : ByteArray := if node = 0 then wallB n.toNat (ep s).2 else wallB (ep s).1 n.toNat
def raiseE (s : ByteArray) (node n : Int) : Int := if fok s then (if (node = 0 ∨ node = 1) ∧ mayE n = true ∧ (epN s node : Int) ≤ n then 0 else 1) else 40
def raiseS (s : ByteArray) (node n : Int) : ByteArray := if raiseE s node n = 0 then setE s node n else ⟨#[]⟩
def passE (s : ByteArray) (node : Int) : Int := if fok s then (if node = 0 ∨ node = 1 then 0 else 1) else 40
def passB (s : ByteArray) (node n : Int) : Bool := decide (passE s node = 0) && decide ((epN s node : Int) ≤ n)
theorem passes0 (s : ByteArray) (node n : Int) (hz : s.size ≤ 9223372036854775807) : Fn0 Tryz.prog 101 [.c (.s s), .c (iT node), .c (iT n)] (.tup [.c (.b (passB s node n)), .c (iT (passE s node))]) := by
  have h0 := epochs0 s hz
  cases hf : fok s with
  | false =>
    rw [hf] at h0
    have e1 : passE s node = 40 := by simp [passE, hf]
    have e2 : passB s node n = false := by simp [passB, e1]
    rw [e1, e2]
    refine fn0 (fn := Tryz.f101) 31 rfl rfl rfl rfl rfl fun w => ?_
    refine rn [(12, .ret (.tup [.agg [iT 0, iT 0], .c (iT 40)])), (17, .dec true), (15, .dec true)] rfl (by (repeat' (first | exact trivial | exact rfl | exact h0 | exact fun _ => h0 | decide | refine And.intro ?_ ?_))) ?_
    exact ret0 tysOk rfl (by repeat' (first | exact trivial | exact rfl | refine And.intro ?_ ?_)) rfl
  | true =>
    rw [hf] at h0
    simp only [if_true] at h0
    refine fn0 (fn := Tryz.f101) 31 rfl rfl rfl rfl rfl fun w => ?_
    by_cases hn : node = 0 ∨ node = 1
    · have e1 : passE s node = 0 := by simp [passE, hf, hn]
      have e2 : passB s node n = decide ((epN s node : Int) ≤ n) := by simp [passB, e1]
      rw [e1, e2]
      rcases hn with h | h
      · subst h
        refine rn [(12, .ret (.tup [.agg [iT ((ep s).1 : Nat), iT ((ep s).2 : Nat)], .c (iT 0)])), (15, .dec false), (21, .dec false), (19, .dec false)] rfl (by (repeat' (first | exact trivial | exact rfl | exact h0 | exact fun _ => h0 | decide | refine And.intro ?_ ?_))) ?_
        exact ret0 tysOk rfl (by repeat' (first | exact trivial | exact rfl | refine And.intro ?_ ?_)) rfl
      · subst h
        refine rn [(12, .ret (.tup [.agg [iT ((ep s).1 : Nat), iT ((ep s).2 : Nat)], .c (iT 0)])), (15, .dec false), (21, .dec false), (19, .dec false)] rfl (by (repeat' (first | exact trivial | exact rfl | exact h0 | exact fun _ => h0 | decide | refine And.intro ?_ ?_))) ?_
        exact ret0 tysOk rfl (by repeat' (first | exact trivial | exact rfl | refine And.intro ?_ ?_)) rfl
    · have e1 : passE s node = 1 := by simp [passE, hf, hn]
      have e2 : passB s node n = false := by simp [passB, e1]
      rw [e1, e2]
      have d1 : (decide (node < 0) || decide (2 ≤ node)) = true := by
        rw [Bool.or_eq_true, decide_eq_true_eq, decide_eq_true_eq]
        omega
      refine rn [(12, .ret (.tup [.agg [iT ((ep s).1 : Nat), iT ((ep s).2 : Nat)], .c (iT 0)])), (15, .dec false), (19, .dec true)] rfl (by (repeat' (first | exact trivial | exact rfl | exact h0 | exact fun _ => h0 | first | exact d1 | decide | refine And.intro ?_ ?_))) ?_
      exact ret0 tysOk rfl (by repeat' (first | exact trivial | exact rfl | refine And.intro ?_ ?_)) rfl
end Cw
