/- FieldWide answers true. -/
import Derived.Test.YtekgkkohiindkaaFieldW3
import Derived.Test.YtekgkkohiindkaaFit
namespace Cw
open Go Go.RowKit Go.IntWalk
open Go.Proofs

theorem get_ok (s : ByteArray) (off n : Int) (hs : s.size = 64) (hn : n = 1 ∨ n = 2 ∨ n = 4) (h0 : 0 ≤ off) (h1 : off ≤ 64 - n) (w : World) : Calls Try.prog 66 #[.string s, .int .i64 off, .int .i64 n] w fun e w' => e = .returned (.tuple #[.int .i64 (numAt s off.toNat n.toNat : Nat), .int .i64 0]) ∧ Below w.heap.size w w' := by
  have h := get_any s off n (by omega) w
  have e1 : gete s.size off n = 0 := by
    rw [gete, if_neg (by omega), if_pos]
    exact ⟨by simpa [fwide] using hn, by simp [finside]; omega⟩
  rw [getn, if_pos e1, e1] at h
  exact h

theorem numAt_two (s : ByteArray) (o a b : Nat) : numAt s o (a + b) = numAt s o a + 256 ^ a * numAt s (o + a) b := by
  have key : ∀ (l : List UInt8) (a b : Nat), num (l.take (a + b)) = num (l.take a) + 256 ^ a * num ((l.drop a).take b) := by
    intro l a
    induction a generalizing l with
    | zero => intro b; simp [num]
    | succ a ih =>
      intro b
      cases l with
      | nil => simp [num]
      | cons x l =>
        rw [show a + 1 + b = (a + b) + 1 by omega, List.take_succ_cons, List.take_succ_cons, List.drop_succ_cons]
        have := ih l b
        simp only [num, List.foldr_cons] at this ⊢
        rw [this, Nat.pow_succ, Nat.mul_add]
        rw [← Nat.mul_assoc, Nat.mul_comm 256 (256 ^ a)]
        omega
  rw [numAt, key, numAt, numAt, List.drop_drop]

theorem wide_eq (a b c m : Nat) (h1 : a < 281474976710656) (h2 : b < 281474976710656) (h3 : c < 281474976710656) (h : a = b + m * c) (hk : m ≤ 65536) : (a : Int) = wrap64 (↑b + wrap64 (↑c * (m : Int))) := by
  have h4 : c * m ≤ a := by rw [h, Nat.mul_comm]; omega
  have h5 : ((c * m : Nat) : Int) = (c : Int) * m := by push_cast; rfl
  rw [Nat.mul_comm] at h
  rw [← h5, wrap64_in ((c * m : Nat) : Int) (by omega), wrap64_in _ (by omega)]
  omega

theorem wide_both (a b c d e : Nat) (h1 : a < 281474976710656) (h2 : b < 281474976710656) (h3 : c < 281474976710656) (h4 : d < 281474976710656) (h5 : e < 281474976710656) (h : a = b + 65536 * c) (h' : b = d + 256 * e) :
    (a : Int) = wrap64 (↑b + wrap64 (↑c * 65536)) ∧ ((b : Int) == wrap64 (↑d + wrap64 (↑e * 256))) = true := by
  have W1 := wide_eq a b c 65536 h1 h2 h3 h (by decide)
  have W2 := wide_eq b d e 256 h2 h4 h5 h' (by decide)
  exact ⟨W1, beq_iff_eq.2 W2⟩

end Cw
