/- '|' of bytes that were shifted apart is their sum. No program in sight. -/
import Derived.Test.YtapmgndnjgoimaaGreatBase
import Derived.Laws.BitsAllLaws
import Derived.Laws.BitsLemmas
namespace Cw
open Go Go.RowKit
theorem ofInt_i64 (a : Nat) (ha : a < 9223372036854775808) : (BitVec.ofInt 64 (a : Int)).toNat = a := by
  rw [BitVec.ofInt_natCast, BitVec.toNat_ofNat]; exact Nat.mod_eq_of_lt (by omega)
theorem i64_or_nat (a b : Nat) (ha : a < 9223372036854775808) (hb : b < 9223372036854775808) : bits .or .i64 (a : Int) (b : Int) = ((a ||| b : Nat) : Int) := by
  have hx : a ||| b < 2 ^ 63 := Nat.or_lt_two_pow (by omega) (by omega)
  show IntKind.i64.wrap ((BitVec.ofInt 64 (a : Int) ||| BitVec.ofInt 64 (b : Int)).toNat : Int) = _
  rw [BitVec.toNat_or, ofInt_i64 a ha, ofInt_i64 b hb, IntKind.wrap_i64]
  omega
theorem or_add (a b k m : Nat) (hm : m = 2 ^ k) (hb : b < m) : a * m ||| b = a * m + b := by
  subst hm
  have := Nat.shiftLeft_add_eq_or_of_lt hb a
  rw [Nat.shiftLeft_eq] at this
  exact this.symm
theorem or1' (b0 : Nat) (h0 : b0 < 65536) : bits .or .i64 0 (b0 : Int) = ((b0 : Nat) : Int) := by
  have := i64_or_nat 0 b0 (by omega) (by omega)
  simpa using this
theorem or1 (b0 : Nat) (h0 : b0 < 256) : bits .or .i64 0 (b0 : Int) = ((b0 : Nat) : Int) := by
  have := i64_or_nat 0 b0 (by omega) (by omega)
  simpa using this
theorem or2 (b0 b1 : Nat) (h0 : b0 < 256) (h1 : b1 < 256) : bits .or .i64 (bits .or .i64 0 ((b1 : Int) * 256)) (b0 : Int) = ((b0 + 256 * b1 : Nat) : Int) := by
  rw [show (b1 : Int) * 256 = ((b1 * 256 : Nat) : Int) by omega]
  rw [or1' (b1 * 256) (by omega)]
  rw [i64_or_nat _ _ (by omega) (by omega), or_add b1 b0 8 256 rfl (by omega)]
  congr 1
  omega
theorem or4 (b0 b1 b2 b3 : Nat) (h0 : b0 < 256) (h1 : b1 < 256) (h2 : b2 < 256) (h3 : b3 < 256) :
    bits .or .i64 (bits .or .i64 (bits .or .i64 ((b3 : Int) * 16777216) ((b2 : Int) * 65536)) ((b1 : Int) * 256)) (b0 : Int) = ((b0 + 256 * b1 + 65536 * b2 + 16777216 * b3 : Nat) : Int) := by
  rw [show (b3 : Int) * 16777216 = ((b3 * 16777216 : Nat) : Int) by omega, show (b2 : Int) * 65536 = ((b2 * 65536 : Nat) : Int) by omega, show (b1 : Int) * 256 = ((b1 * 256 : Nat) : Int) by omega]
  rw [i64_or_nat _ _ (by omega) (by omega), or_add b3 (b2 * 65536) 24 16777216 rfl (by omega)]
  rw [show b3 * 16777216 + b2 * 65536 = (b3 * 256 + b2) * 65536 by omega]
  rw [i64_or_nat _ _ (by omega) (by omega), or_add _ (b1 * 256) 16 65536 rfl (by omega)]
  rw [show (b3 * 256 + b2) * 65536 + b1 * 256 = ((b3 * 256 + b2) * 256 + b1) * 256 by omega]
  rw [i64_or_nat _ _ (by omega) (by omega), or_add _ b0 8 256 rfl (by omega)]
  congr 1
  omega
theorem byte_lt (b : UInt8) : (b.toNat : Int) < 256 := by have := b.toNat_lt; omega
end Cw
