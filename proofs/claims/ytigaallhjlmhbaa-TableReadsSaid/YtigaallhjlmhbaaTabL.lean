/- Tables of leases as sectors: plain laws. No program in sight. -/
import Derived.Test.YtigaallhjlmhbaaTableSpec
import Derived.Test.YtigaallhjlmhbaaWireSpec
import Derived.Test.YtigaallhjlmhbaaFit
import Derived.Test.YtigaallhjlmhbaaSlV
namespace Cw
open Go Go.RowKit

abbrev Ls := Int × Int
def lcells (l : List Ls) : List Value := (l.map fun x => [Value.int .i64 x.1, Value.int .i64 x.2]).flatten
theorem lcells_length (l : List Ls) : (lcells l).length = l.length * 2 := by
  induction l with
  | nil => rfl
  | cons p l ih => simp only [lcells, List.map_cons, List.flatten_cons, List.length_append, List.length_cons] at *; simp at *; omega
theorem lcells_get : ∀ (l : List Ls) (i : Nat) (h : i < l.length), (lcells l)[i * 2]? = some (.int .i64 l[i].1) ∧ (lcells l)[i * 2 + 1]? = some (.int .i64 l[i].2)
  | p :: l, 0, _ => ⟨rfl, rfl⟩
  | p :: l, i + 1, h => by
    have := lcells_get l i (by simpa using h)
    rw [show (i + 1) * 2 = i * 2 + 2 by omega]
    exact ⟨this.1, this.2⟩
theorem lcells_append (l m : List Ls) : lcells (l ++ m) = lcells l ++ lcells m := by simp [lcells]
theorem lcells_one (l : List Ls) : ∀ u ∈ lcells l, u.oneCell' = true := by
  intro u hu
  simp only [lcells, List.mem_flatten, List.mem_map] at hu
  obtain ⟨r, ⟨x, _, rfl⟩, hu⟩ := hu
  simp at hu
  rcases hu with rfl | rfl <;> rfl
/-- A lease's bytes, those of a list; a sector of bytes; all of them. -/
def lw (x : Ls) : List UInt8 := le 4 (lv x.1 x.2)
def lbytes (l : List Ls) : List UInt8 := (l.map lw).flatten
theorem lw_length (x : Ls) : (lw x).length = 4 := by simp [lw, le]
theorem lbytes_length (l : List Ls) : (lbytes l).length = 4 * l.length := by
  induction l with
  | nil => rfl
  | cons x l ih =>
    have := lw_length x
    simp only [lbytes, List.map_cons, List.flatten_cons, List.length_append, List.length_cons] at *
    omega
theorem lbytes_append (l m : List Ls) : lbytes (l ++ m) = lbytes l ++ lbytes m := by simp [lbytes]
def sec (z : List UInt8) (j : Nat) : List UInt8 := (z.drop (64 * j)).take 64
def secs (z : List UInt8) (m : Nat) : List ByteArray := (List.range m).map fun j => S (sec z j)
theorem secs_length (z : List UInt8) (m : Nat) : (secs z m).length = m := by simp [secs]
theorem secs_get {z : List UInt8} {m j : Nat} (h : j < (secs z m).length) : (secs z m)[j] = S (sec z j) := by simp [secs]
def nsec (n : Nat) : Nat := (n + 15) / 16
/-- The first r leases of a table, as bytes of whole sectors. -/
def tz (l : List Ls) (r : Nat) : List UInt8 := lbytes (l.take r) ++ List.replicate (64 * nsec l.length - 4 * r) 0
theorem tz_length (l : List Ls) (r : Nat) (h : r ≤ l.length) : (tz l r).length = 64 * nsec l.length := by
  simp only [tz, List.length_append, lbytes_length, List.length_take, List.length_replicate, nsec]
  omega
theorem tz_zero (l : List Ls) : tz l 0 = List.replicate (64 * nsec l.length) 0 := by simp [tz, lbytes]
theorem sec_get (z : List UInt8) (j i : Nat) : (sec z j)[i]? = if i < 64 then z[64 * j + i]? else none := by
  unfold sec
  rw [List.getElem?_take]
  split
  · rw [List.getElem?_drop]
  · rfl
theorem sec_length {z : List UInt8} {m j : Nat} (hz : z.length = 64 * m) (h : j < m) : (sec z j).length = 64 := by
  simp only [sec, List.length_take, List.length_drop]
  omega
theorem sec_over {z t : List UInt8} {m q o : Nat} (hz : z.length = 64 * m) (hq : q < m) (ho : o + t.length ≤ 64) (j : Nat) : sec (over z (64 * q + o) t) j = if j = q then over (sec z q) o t else sec z j := by
  have hs := sec_length hz hq
  apply List.ext_getElem?
  intro i
  rw [sec_get]
  by_cases hi : i < 64
  · rw [if_pos hi, over_get z _ t (by omega)]
    by_cases hj : j = q
    · subst hj
      rw [if_pos rfl, over_get _ _ _ (by omega), sec_get, if_pos hi]
      by_cases h : o ≤ i ∧ i < o + t.length
      · rw [if_pos (by omega), if_pos h]
        congr 1
        omega
      · rw [if_neg (by omega), if_neg h]
    · rw [if_neg hj, sec_get, if_pos hi, if_neg]
      rintro ⟨h1, h2⟩
      exact hj (by omega)
  · rw [if_neg hi]
    by_cases hj : j = q
    · rw [if_pos hj, List.getElem?_eq_none]
      rw [over_length _ _ _ (by omega)]
      omega
    · rw [if_neg hj, sec_get, if_neg hi]
theorem tz_succ (l : List Ls) (r : Nat) (h : r < l.length) : over (tz l r) (4 * r) (lw l[r]) = tz l (r + 1) := by
  have h1 : (lbytes (l.take r)).length = 4 * r := by rw [lbytes_length, List.length_take]; omega
  have h2 := lw_length l[r]
  unfold over tz
  rw [List.take_left' h1, List.drop_append, h1, h2, List.drop_of_length_le (by omega), List.nil_append, show 4 * r + 4 - 4 * r = 4 by omega, List.drop_replicate, List.take_succ_eq_append_getElem h, lbytes_append, List.append_assoc]
  rw [show lbytes [l[r]] = lw l[r] by simp [lbytes], show 64 * nsec l.length - 4 * (r + 1) = 64 * nsec l.length - 4 * r - 4 by omega]
/-- A lease more. -/
theorem secs_succ (l : List Ls) (r : Nat) (h : r < l.length) : (secs (tz l r) (nsec l.length)).set (r / 16) (S (one (sec (tz l r) (r / 16)) ((r % 16 * 4 : Nat), S (lw l[r])))) = secs (tz l (r + 1)) (nsec l.length) := by
  have hn : r / 16 < nsec l.length := by unfold nsec; omega
  have hz := tz_length l r (by omega)
  apply List.ext_getElem (by simp [secs_length])
  intro j h1 h2
  rw [secs_length] at h2
  rw [List.getElem_set, secs_get, secs_get, ← tz_succ l r h, show 4 * r = 64 * (r / 16) + r % 16 * 4 by omega, sec_over hz hn (by rw [lw_length]; omega)]
  split
  · rename_i hj
    subst hj
    rw [if_pos rfl]
    simp only [one, Int.toNat_natCast, S_data]
  · rename_i hj
    rw [if_neg (fun e => hj e.symm)]
end Cw
