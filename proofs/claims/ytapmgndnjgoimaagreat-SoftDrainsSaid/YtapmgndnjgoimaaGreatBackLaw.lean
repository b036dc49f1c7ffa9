/- What is put is got; what lies apart stays. No program in sight. -/
import Derived.Test.YtapmgndnjgoimaaGreatTurnW
namespace Cw
open Go Go.RowKit

theorem le_cons (n x : Nat) : le (n + 1) x = UInt8.ofNat x :: le n (x / 256) := by
  simp only [le, List.range_succ_eq_map, List.map_cons, List.map_map, Nat.pow_zero, Nat.div_one]
  congr 1
  apply List.map_congr_left
  intro i _
  simp only [Function.comp_apply, Nat.pow_succ, Nat.div_div_eq_div_mul, Nat.mul_comm]
theorem num_le : ∀ (n x : Nat), x < 256 ^ n → num (le n x) = x
  | 0, x, h => by simp at h; subst h; rfl
  | n + 1, x, h => by
    rw [le_cons]
    have h2 : x / 256 < 256 ^ n := by rw [Nat.pow_succ] at h; exact Nat.div_lt_of_lt_mul (by rw [Nat.mul_comm]; exact h)
    have ih := num_le n (x / 256) h2
    have hb : (UInt8.ofNat x).toNat = x % 256 := by simp
    show (UInt8.ofNat x).toNat + 256 * num (le n (x / 256)) = x
    rw [ih, hb]
    omega
theorem part_get (l : List UInt8) (o n j : Nat) : ((l.drop o).take n)[j]? = if j < n then l[o + j]? else none := by
  rw [List.getElem?_take, List.getElem?_drop]
theorem numAt_same (s : List UInt8) (p : Pt) (hs : s.length = 64) (h : okp p = true) : numAt (S (one s p)) p.1.toNat p.2.size = num p.2.data.toList := by
  have hp := okp_iff h
  rw [numAt, S_data]
  congr 1
  apply List.ext_getElem?
  intro j
  rw [part_get]
  have e : p.2.data.toList.length = p.2.size := rfl
  by_cases hj : j < p.2.size
  · rw [if_pos hj, one_get s p hs h, if_pos (by omega), Nat.add_sub_cancel_left]
  · rw [if_neg hj, List.getElem?_eq_none (by omega)]
theorem numAt_apart (s : List UInt8) (p : Pt) (hs : s.length = 64) (h : okp p = true) (o n : Nat) (ha : o + n ≤ p.1.toNat ∨ p.1.toNat + p.2.size ≤ o) : numAt (S (one s p)) o n = num ((s.drop o).take n) := by
  rw [numAt, S_data]
  congr 1
  apply List.ext_getElem?
  intro j
  rw [part_get, part_get]
  by_cases hj : j < n
  · rw [if_pos hj, if_pos hj, one_get s p hs h, if_neg (by omega)]
  · rw [if_neg hj, if_neg hj]
theorem numAt_max (s : ByteArray) (o n : Nat) : numAt s o n < 256 ^ n := by
  refine Nat.lt_of_lt_of_le (num_lt _) (Nat.pow_le_pow_right (by decide) ?_)
  rw [List.length_take]
  omega
end Cw
