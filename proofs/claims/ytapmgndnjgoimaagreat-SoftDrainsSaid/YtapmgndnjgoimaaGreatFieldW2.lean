/- The walks of the program's package field and of the document's answer: Check, Get, Put, Blank. -/
import Derived.Test.YtapmgndnjgoimaaGreatFieldW
import Derived.Test.YtapmgndnjgoimaaGreatBits
namespace Cw
open Go Go.RowKit
open Go.Proofs

def fcheck (off n : Int) : Int := if finside off n = true then 0 else 1

set_option maxRecDepth 100000 in
set_option maxHeartbeats 400000 in
theorem fcheck_any (off : Int) (s : ByteArray) (hs : s.size ≤ 9223372036854775807) (w : World) : Calls Tryz.prog 42 #[.agg #[.int .i64 off, .string s]] w fun e w' => e = .returned (.int .i64 (fcheck off s.size)) ∧ Below w.heap.size w w' := by
  by_cases h : finside off s.size = true
  · have e := Lib.hid (show fcheck off s.size = 0 by rw [fcheck, if_pos h])
    go_enter Tryz.func42, Tryz.ntmps42
    go_wp2_with (go_at_call 48; refine (inside_any _ _ (by omega) _).mono ?_; rintro e w1 ⟨rfl, rfl⟩)
    go_ret
    exact ⟨ret_int e.out.symm, by go_grown⟩
  · have e := Lib.hid (show fcheck off s.size = 1 by rw [fcheck, if_neg h])
    have h' : finside off s.size = false := by simpa using h
    clear h
    go_enter Tryz.func42, Tryz.ntmps42
    go_wp2_with (go_at_call 48; refine (inside_any _ _ (by omega) _).mono ?_; rintro e w1 ⟨rfl, rfl⟩)
    go_ret
    exact ⟨ret_int e.out.symm, by go_grown⟩

theorem ret_ii {a a' b b' : Int} (h : a = a') (h2 : b = b') : Ending.returned (.tuple #[.int .i64 a, .int .i64 b]) = .returned (.tuple #[.int .i64 a', .int .i64 b']) := by rw [h, h2]

/-- The number at a place of a text, the lowest byte first. -/
def num (l : List UInt8) : Nat := l.foldr (fun b n => b.toNat + 256 * n) 0
def numAt (s : ByteArray) (o n : Nat) : Nat := num ((s.data.toList.drop o).take n)
def gete (z off n : Int) : Int := if z ≠ 64 then 4 else if fwide n = true ∧ finside off n = true then 0 else 1
def getn (s : ByteArray) (off n : Int) : Nat := if gete s.size off n = 0 then numAt s off.toNat n.toNat else 0

theorem drop1 (s : ByteArray) (o : Nat) (h : o < s.size) : s.data.toList.drop o = s[o] :: s.data.toList.drop (o + 1) := by
  rw [List.drop_eq_getElem_cons (by simpa using h)]; rfl
theorem num1 (s : ByteArray) (o : Nat) (h : o < s.size) : numAt s o 1 = s[o].toNat := by simp [numAt, drop1 s o h, num]
theorem num2 (s : ByteArray) (o : Nat) (h : o + 1 < s.size) : numAt s o 2 = s[o].toNat + 256 * s[o + 1].toNat := by simp [numAt, drop1 s o (by omega), drop1 s (o + 1) h, num]
theorem num4 (s : ByteArray) (o : Nat) (h : o + 3 < s.size) : numAt s o 4 = s[o].toNat + 256 * s[o + 1].toNat + 65536 * s[o + 2].toNat + 16777216 * s[o + 3].toNat := by
  simp [numAt, drop1 s o (by omega), drop1 s (o + 1) (by omega), drop1 s (o + 2) (by omega), drop1 s (o + 3) h, num]
  omega

set_option maxRecDepth 100000 in
set_option maxHeartbeats 1000000 in
theorem get1 (s : ByteArray) (o : Nat) (hs : s.size = 64) (h1 : o ≤ 63) (w : World) : Calls Tryz.prog 27 #[.string s, .int .i64 o, .int .i64 1] w fun e w' => e = .returned (.tuple #[.int .i64 (numAt s o 1 : Nat), .int .i64 0]) ∧ Below w.heap.size w w' := by
  have e1 : fwide 1 = true := rfl
  have e2 : finside o 1 = true := by simp [finside]; omega
  have hs' : o < s.size ∧ s.size ≤ 64 ∧ 64 ≤ s.size := by omega
  have hb : ((s.size : Int) != 64) = false := by rw [hs]; rfl
  clear hs
  have b0 := byte_lt (s[o]'hs'.1)
  go_enter Tryz.func27, Tryz.ntmps27
  go_wp2_with (first | (go_at_call 47; refine (wide_any _ _).mono ?_; rintro e w1 ⟨rfl, rfl⟩) | (go_at_call 48; refine (inside_any _ _ (by omega) _).mono ?_; rintro e w1 ⟨rfl, rfl⟩))
  go_ret2
  refine ⟨ret_ii ?_ rfl, Below.refl _ _⟩
  rw [num1 s o hs'.1]
  exact or1 _ (by omega)
set_option maxRecDepth 100000 in
set_option maxHeartbeats 1000000 in
theorem get2 (s : ByteArray) (o : Nat) (hs : s.size = 64) (h1 : o ≤ 62) (w : World) : Calls Tryz.prog 27 #[.string s, .int .i64 o, .int .i64 2] w fun e w' => e = .returned (.tuple #[.int .i64 (numAt s o 2 : Nat), .int .i64 0]) ∧ Below w.heap.size w w' := by
  have e1 : fwide 2 = true := rfl
  have e2 : finside o 2 = true := by simp [finside]; omega
  have hs' : o + 1 < s.size ∧ s.size ≤ 64 ∧ 64 ≤ s.size := by omega
  have hb : ((s.size : Int) != 64) = false := by rw [hs]; rfl
  clear hs
  have b0 := byte_lt (s[o]'(by omega))
  have b1 := byte_lt (s[o + 1]'hs'.1)
  go_enter Tryz.func27, Tryz.ntmps27
  go_wp2_with (first | (go_at_call 47; refine (wide_any _ _).mono ?_; rintro e w1 ⟨rfl, rfl⟩) | (go_at_call 48; refine (inside_any _ _ (by omega) _).mono ?_; rintro e w1 ⟨rfl, rfl⟩))
  go_ret2
  refine ⟨ret_ii ?_ rfl, Below.refl _ _⟩
  rw [num2 s o hs'.1]
  exact or2 _ _ (by omega) (by omega)
set_option maxRecDepth 100000 in
set_option maxHeartbeats 1000000 in
theorem get4 (s : ByteArray) (o : Nat) (hs : s.size = 64) (h1 : o ≤ 60) (w : World) : Calls Tryz.prog 27 #[.string s, .int .i64 o, .int .i64 4] w fun e w' => e = .returned (.tuple #[.int .i64 (numAt s o 4 : Nat), .int .i64 0]) ∧ Below w.heap.size w w' := by
  have e1 : fwide 4 = true := rfl
  have e2 : finside o 4 = true := by simp [finside]; omega
  have hs' : o + 3 < s.size ∧ s.size ≤ 64 ∧ 64 ≤ s.size := by omega
  have hb : ((s.size : Int) != 64) = false := by rw [hs]; rfl
  clear hs
  have b0 := byte_lt (s[o]'(by omega))
  have b1 := byte_lt (s[o + 1]'(by omega))
  have b2 := byte_lt (s[o + 2]'(by omega))
  have b3 := byte_lt (s[o + 3]'hs'.1)
  have i3 : (o : Int) + 3 < s.size := by omega
  have i2 : (o : Int) + 2 < s.size := by omega
  have z3 : 0 ≤ (o : Int) + 3 := by omega
  have z2 : 0 ≤ (o : Int) + 2 := by omega
  have q3 : IntKind.i64.wrap ((o : Int) + 3) = (o : Int) + 3 := IntWalk.i64_in _ (by omega)
  have q2 : IntKind.i64.wrap ((o : Int) + 2) = (o : Int) + 2 := IntWalk.i64_in _ (by omega)
  have t3 : ((o : Int) + 3).toNat = o + 3 := by omega
  have t2 : ((o : Int) + 2).toNat = o + 2 := by omega
  go_enter Tryz.func27, Tryz.ntmps27
  go_wp2_with (first | (go_at_call 47; refine (wide_any _ _).mono ?_; rintro e w1 ⟨rfl, rfl⟩) | (go_at_call 48; refine (inside_any _ _ (by omega) _).mono ?_; rintro e w1 ⟨rfl, rfl⟩))
  go_quiet (fail)
  try clear q3 q2
  go_wp2
  go_ret2
  refine ⟨ret_ii ?_ rfl, below_drewN (Below.refl _ _) _⟩
  rw [num4 s o hs'.1]
  exact or4 _ _ _ _ (by omega) (by omega) (by omega) (by omega)

theorem gete_cases (z off n : Int) : (gete z off n = 0 ∧ z = 64 ∧ (n = 1 ∨ n = 2 ∨ n = 4) ∧ 0 ≤ off ∧ off ≤ 64 - n) ∨ (gete z off n = 4 ∧ z ≠ 64) ∨ (gete z off n = 1 ∧ z = 64 ∧ (fwide n = false ∨ (fwide n = true ∧ 0 ≤ n ∧ finside off n = false))) := by
  unfold gete
  by_cases hz : z = 64
  · rw [if_neg (not_not_intro hz)]
    by_cases hw : fwide n = true
    · have hn : n = 1 ∨ n = 2 ∨ n = 4 := by simpa [fwide] using hw
      by_cases hi : finside off n = true
      · rw [if_pos ⟨hw, hi⟩]
        have : 0 ≤ off ∧ 0 < n ∧ n ≤ 64 ∧ off ≤ 64 - n := by simpa [finside] using hi
        exact .inl ⟨rfl, hz, hn, this.1, this.2.2.2⟩
      · rw [if_neg (fun h => hi h.2)]
        exact .inr (.inr ⟨rfl, hz, .inr ⟨hw, by omega, by simpa using hi⟩⟩)
    · rw [if_neg (fun h => hw h.1)]
      exact .inr (.inr ⟨rfl, hz, .inl (by simpa using hw)⟩)
  · rw [if_pos hz]
    exact .inr (.inl ⟨rfl, hz⟩)

set_option maxRecDepth 100000 in
set_option maxHeartbeats 1000000 in
theorem get_any (s : ByteArray) (off n : Int) (hs : s.size ≤ 9223372036854775807) (w : World) : Calls Tryz.prog 27 #[.string s, .int .i64 off, .int .i64 n] w fun e w' => e = .returned (.tuple #[.int .i64 (getn s off n : Nat), .int .i64 (gete s.size off n)]) ∧ Below w.heap.size w w' := by
  rcases gete_cases s.size off n with ⟨e, hz, hn, h0, h1⟩ | ⟨e, hz⟩ | ⟨e, hz, hh⟩
  · have e2 : getn s off n = numAt s off.toNat n.toNat := by rw [getn, if_pos e]
    rw [e, e2]
    obtain ⟨o, rfl⟩ := Int.eq_ofNat_of_zero_le h0
    have hz' : s.size = 64 := by omega
    rcases hn with rfl | rfl | rfl
    · exact get1 s o hz' (by omega) w
    · exact get2 s o hz' (by omega) w
    · exact get4 s o hz' (by omega) w
  · have e2 : getn s off n = 0 := by rw [getn, if_neg (by omega)]
    have hE := Lib.hid (And.intro e e2)
    have hb : ((s.size : Int) != 64) = true := by simpa using hz
    clear e e2 hz
    go_enter Tryz.func27, Tryz.ntmps27
    go_wp2_with (first | (go_at_call 47; refine (wide_any _ _).mono ?_; rintro e w1 ⟨rfl, rfl⟩) | (go_at_call 48; refine (inside_any _ _ (by omega) _).mono ?_; rintro e w1 ⟨rfl, rfl⟩))
    go_ret2
    refine ⟨ret_ii ?_ ?_, Below.refl _ _⟩
    · rw [hE.out.2]; rfl
    · rw [hE.out.1]
  · have e2 : getn s off n = 0 := by rw [getn, if_neg (by omega)]
    have hE := Lib.hid (And.intro e e2)
    have hb : ((s.size : Int) != 64) = false := by simpa using hz
    clear e e2 hz
    rcases hh with h1 | ⟨h1, hn, h2⟩
    all_goals
      go_enter Tryz.func27, Tryz.ntmps27
      go_wp2_with (first | (go_at_call 47; refine (wide_any _ _).mono ?_; rintro e w1 ⟨rfl, rfl⟩) | (go_at_call 48; refine (inside_any _ _ (by omega) _).mono ?_; rintro e w1 ⟨rfl, rfl⟩))
      go_ret2
      refine ⟨ret_ii ?_ ?_, Below.refl _ _⟩
      · rw [hE.out.2]; rfl
      · rw [hE.out.1]

theorem blank_any (w : World) : Calls Tryz.prog 19 #[] w fun e w' => e = .returned (.string (S (List.replicate 64 0))) ∧ Below w.heap.size w w' := by
  have hr : (Lib.repeatL (⟨#[0]⟩ : ByteArray).data.toList 64) = List.replicate 64 0 := by decide
  have hc := Tryz.strings_Repeat ⟨#[0]⟩ 64 w (by omega) (by decide)
  rw [hr] at hc
  have HC := Lib.hid hc
  clear hc hr
  go_enter Tryz.func19, Tryz.ntmps19
  go_wp2_with (go_at_call 36; refine (HC.out).mono ?_; rintro e w1 ⟨rfl, hb⟩)
  go_ret
  exact ⟨rfl, hb⟩
end Cw
