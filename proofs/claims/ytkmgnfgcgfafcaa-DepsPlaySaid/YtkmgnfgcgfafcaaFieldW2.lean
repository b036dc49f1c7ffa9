/- The walks of the program's package field and of the document's answer: Check, Get, Put, Blank. -/
import Derived.Test.YtkmgnfgcgfafcaaFieldW
import Derived.Test.YtkmgnfgcgfafcaaBits
namespace Cw
open Go Go.RowKit
open Go.Proofs

def fcheck (off n : Int) : Int := if finside off n = true then 0 else 1

set_option maxRecDepth 100000 in
set_option maxHeartbeats 400000 in
theorem fcheck_any (off : Int) (s : ByteArray) (hs : s.size ≤ 9223372036854775807) (w : World) : Calls Try.prog 39 #[.agg #[.int .i64 off, .string s]] w fun e w' => e = .returned (.int .i64 (fcheck off s.size)) ∧ Below w.heap.size w w' := by
  by_cases h : finside off s.size = true
  · have e := Lib.hid (show fcheck off s.size = 0 by rw [fcheck, if_pos h])
    go_enter Try.func39, Try.ntmps39
    go_wp2_with (go_at_call 62; refine (inside_any _ _ (by omega) _).mono ?_; rintro e w1 ⟨rfl, rfl⟩)
    go_ret
    exact ⟨ret_int e.out.symm, by go_grown⟩
  · have e := Lib.hid (show fcheck off s.size = 1 by rw [fcheck, if_neg h])
    have h' : finside off s.size = false := by simpa using h
    clear h
    go_enter Try.func39, Try.ntmps39
    go_wp2_with (go_at_call 62; refine (inside_any _ _ (by omega) _).mono ?_; rintro e w1 ⟨rfl, rfl⟩)
    go_ret
    exact ⟨ret_int e.out.symm, by go_grown⟩

theorem ret_ii {a a' b b' : Int} (h : a = a') (h2 : b = b') : Ending.returned (.tuple #[.int .i64 a, .int .i64 b]) = .returned (.tuple #[.int .i64 a', .int .i64 b']) := by rw [h, h2]

/-- The number at a place of a text, the lowest byte first. -/
def num (l : List UInt8) : Nat := l.foldr (fun b n => b.toNat + 256 * n) 0
def numAt (s : ByteArray) (o n : Nat) : Nat := num ((s.data.toList.drop o).take n)
def gete (z off n : Int) : Int := if z ≠ 64 then 4 else if fwide n = true ∧ finside off n = true then 0 else 1
def getn (s : ByteArray) (off n : Int) : Nat := if gete s.size off n = 0 then numAt s off.toNat n.toNat else 0

theorem drop1 (s : ByteArray) (o : Nat) (h : o < s.size) : s.data.toList.drop o = s[o] :: s.data.toList.drop (o + 1) := by
  rw [List.drop_eq_getElem_cons (by simpa using h)]; rfl
theorem num1 (s : ByteArray) (o : Nat) (h : o < s.size) : numAt s o 1 = s[o].toNat := by simp [numAt, drop1 s o h, num]
theorem num2 (s : ByteArray) (o : Nat) (h : o + 1 < s.size) : numAt s o 2 = s[o].toNat + 256 * s[o + 1].toNat := by simp [numAt, drop1 s o (by omega), drop1 s (o + 1) h, num]
theorem num4 (s : ByteArray) (o : Nat) (h : o + 3 < s.size) : numAt s o 4 = s[o].toNat + 256 * s[o + 1].toNat + 65536 * s[o + 2].toNat + 16777216 * s[o + 3].toNat := by
  simp [numAt, drop1 s o (by omega), drop1 s (o + 1) (by omega), drop1 s (o + 2) (by omega), drop1 s (o + 3) h, num]
  omega

theorem gete_cases (z off n : Int) : (gete z off n = 0 ∧ z = 64 ∧ (n = 1 ∨ n = 2 ∨ n = 4) ∧ 0 ≤ off ∧ off ≤ 64 - n) ∨ (gete z off n = 4 ∧ z ≠ 64) ∨ (gete z off n = 1 ∧ z = 64 ∧ (fwide n = false ∨ (fwide n = true ∧ 0 ≤ n ∧ finside off n = false))) := by
  unfold gete
  by_cases hz : z = 64
  · rw [if_neg (not_not_intro hz)]
    by_cases hw : fwide n = true
    · have hn : n = 1 ∨ n = 2 ∨ n = 4 := by simpa [fwide] using hw
      by_cases hi : finside off n = true
      · rw [if_pos ⟨hw, hi⟩]
        have : 0 ≤ off ∧ 0 < n ∧ n ≤ 64 ∧ off ≤ 64 - n := by simpa [finside] using hi
        exact .inl ⟨rfl, hz, hn, this.1, this.2.2.2⟩
      · rw [if_neg (fun h => hi h.2)]
        exact .inr (.inr ⟨rfl, hz, .inr ⟨hw, by omega, by simpa using hi⟩⟩)
    · rw [if_neg (fun h => hw h.1)]
      exact .inr (.inr ⟨rfl, hz, .inl (by simpa using hw)⟩)
  · rw [if_pos hz]
    exact .inr (.inl ⟨rfl, hz⟩)

end Cw
