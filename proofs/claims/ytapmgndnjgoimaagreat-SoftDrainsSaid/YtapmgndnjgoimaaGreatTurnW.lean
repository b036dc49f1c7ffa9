/- FieldTurns answers true. -/
import Derived.Test.YtapmgndnjgoimaaGreatFieldW3
import Derived.Test.YtapmgndnjgoimaaGreatOverW
import Derived.Test.YtapmgndnjgoimaaGreatPatchW
namespace Cw
open Go Go.RowKit Go.IntWalk
open Go.Proofs

theorem over_get (cur : List UInt8) (off : Nat) (l : List UInt8) (h : off + l.length ≤ cur.length) (j : Nat) : (over cur off l)[j]? = if off ≤ j ∧ j < off + l.length then l[j - off]? else cur[j]? := by
  simp only [over, List.getElem?_append, List.length_take, List.getElem?_take, List.getElem?_drop]
  rw [Nat.min_eq_left (by omega)]
  by_cases h1 : j < off
  · simp only [if_pos h1]
    rw [if_neg (by omega)]
  · rw [if_neg h1]
    by_cases h2 : j < off + l.length
    · rw [if_pos (by omega), if_pos (by omega)]
    · rw [if_neg (by omega), if_neg (by omega)]
      congr 1
      omega

theorem one_get (s : List UInt8) (p : Pt) (hs : s.length = 64) (h : okp p = true) (j : Nat) : (one s p)[j]? = if p.1.toNat ≤ j ∧ j < p.1.toNat + p.2.size then p.2.data.toList[j - p.1.toNat]? else s[j]? := by
  have := okp_iff h
  have e : p.2.data.toList.length = p.2.size := rfl
  rw [one, over_get _ _ _ (by rw [e]; omega), e]

/-- Patches that do not overlap may be done in either order. -/
theorem one_comm (s : List UInt8) (p q : Pt) (hs : s.length = 64) (hp : okp p = true) (hq : okp q = true) (h : both p q = false) : one (one s p) q = one (one s q) p := by
  have h1 := okp_iff hp
  have h2 := okp_iff hq
  have h3 : ¬ max p.1 q.1 < min (p.1 + p.2.size) (q.1 + q.2.size) := by simpa [both] using h
  apply List.ext_getElem?
  intro j
  rw [one_get _ q (one_length s p hs hp) hq, one_get s p hs hp, one_get _ p (one_length s q hs hq) hp, one_get s q hs hq]
  by_cases c1 : p.1.toNat ≤ j ∧ j < p.1.toNat + p.2.size
  · have c2 : ¬ (q.1.toNat ≤ j ∧ j < q.1.toNat + q.2.size) := by omega
    rw [if_neg c2, if_pos c1, if_pos c1]
  · rw [if_neg c1, if_neg c1]

/-- One that is done twice is as done once. -/
theorem one_twice (s : List UInt8) (q : Pt) (hs : s.length = 64) (hq : okp q = true) : one (one s q) q = one s q := by
  apply List.ext_getElem?
  intro j
  rw [one_get _ q (one_length s q hs hq) hq, one_get s q hs hq]
  split <;> simp_all

theorem both_comm (p q : Pt) : both p q = both q p := by simp [both, Int.max_comm, Int.min_comm]
theorem ove_comm (p q : Pt) : ove p q = ove q p := by simp [ove, and_comm]

theorem sl_nil (w : World) : Sl w (.slice none 0 0) [] := ⟨none, 0, rfl, Nat.le_refl _, by decide, by simp, by simp⟩
theorem sl_one (w : World) (p : Pt) (T : TypeId) : Sl (w.alloc (.cells #[.int .i64 p.1, .string p.2] T)) (.slice (some ⟨w.heap.size, 0, none⟩) 1 1) [p] := by
  refine ⟨_, 1, rfl, Nat.le_refl _, by decide, ?_, ?_⟩
  · rintro b ⟨⟩ _; simp
  · intro i hi
    have hc := fun o => cell_of_row _ w.heap.size o #[.int .i64 p.1, .string p.2] T (0, 0) (heap_alloc_new w _)
    refine ⟨_, rfl, ?_⟩
    obtain rfl : i = 0 := by simpa using hi
    rw [lit_add, lit_add, hc, hc]
    exact ⟨rfl, rfl⟩
theorem sl_two (w : World) (p q : Pt) (T : TypeId) : Sl (w.alloc (.cells #[.int .i64 p.1, .string p.2, .int .i64 q.1, .string q.2] T)) (.slice (some ⟨w.heap.size, 0, none⟩) 2 2) [p, q] := by
  refine ⟨_, 2, rfl, Nat.le_refl _, by decide, ?_, ?_⟩
  · rintro b ⟨⟩ _; simp
  · intro i hi
    have hc := fun o => cell_of_row _ w.heap.size o #[.int .i64 p.1, .string p.2, .int .i64 q.1, .string q.2] T (0, 0) (heap_alloc_new w _)
    refine ⟨_, rfl, ?_⟩
    rw [lit_add, lit_add, hc, hc]
    rcases (show i = 0 ∨ i = 1 by simp at hi; omega) with rfl | rfl
    · exact ⟨rfl, rfl⟩
    · exact ⟨rfl, rfl⟩
theorem sl_three (w : World) (p q r : Pt) (T : TypeId) : Sl (w.alloc (.cells #[.int .i64 p.1, .string p.2, .int .i64 q.1, .string q.2, .int .i64 r.1, .string r.2] T)) (.slice (some ⟨w.heap.size, 0, none⟩) 3 3) [p, q, r] := by
  refine ⟨_, 3, rfl, Nat.le_refl _, by decide, ?_, ?_⟩
  · rintro b ⟨⟩ _; simp
  · intro i hi
    have hc := fun o => cell_of_row _ w.heap.size o #[.int .i64 p.1, .string p.2, .int .i64 q.1, .string q.2, .int .i64 r.1, .string r.2] T (0, 0) (heap_alloc_new w _)
    refine ⟨_, rfl, ?_⟩
    rw [lit_add, lit_add, hc, hc]
    rcases (show i = 0 ∨ i = 1 ∨ i = 2 by simp at hi; omega) with rfl | rfl | rfl
    · exact ⟨rfl, rfl⟩
    · exact ⟨rfl, rfl⟩
    · exact ⟨rfl, rfl⟩

theorem pt_ok (s : ByteArray) (l : List Pt) (hs : s.size = 64) (hl : l.length ≤ 1024) (h : l.all okp = true) : pte s l = 0 ∧ pt s l = S (patchAll s.data.toList l) := by
  have : pte s l = 0 := by rw [pte, if_neg (by omega), if_neg (by omega), if_pos h]
  exact ⟨this, by rw [pt, if_pos this]⟩

/-- The four calls of Patched. -/
theorem turn_calls (t : ByteArray) (p q : Pt) (ht : t.size = 64) (zp : p.2.size ≤ 9223372036854775807) (zq : q.2.size ≤ 9223372036854775807) (hp : okp p = true) (hq : okp q = true) :
    (∀ w : World, Calls Tryz.prog 76 #[.string t, .slice (some ⟨w.heap.size, 0, none⟩) 2 2] (w.alloc (.cells #[.int .i64 p.1, .string p.2, .int .i64 q.1, .string q.2] 39)) fun e w' => e = .returned (.tuple #[.string (S (one (one t.data.toList p) q)), .int .i64 0]) ∧ Below (w.alloc (.cells #[.int .i64 p.1, .string p.2, .int .i64 q.1, .string q.2] 39)).heap.size (w.alloc (.cells #[.int .i64 p.1, .string p.2, .int .i64 q.1, .string q.2] 39)) w') := by
  intro w
  have h := patched_any t _ [p, q] (by simp [zp, zq]) (by omega) _ (sl_two w p q 39)
  obtain ⟨e1, e2⟩ := pt_ok t [p, q] ht (by simp) (by simp [hp, hq])
  rw [e1, e2] at h
  exact h
theorem turn_calls3 (t : ByteArray) (p q : Pt) (ht : t.size = 64) (zp : p.2.size ≤ 9223372036854775807) (zq : q.2.size ≤ 9223372036854775807) (hp : okp p = true) (hq : okp q = true) :
    (∀ w : World, Calls Tryz.prog 76 #[.string t, .slice (some ⟨w.heap.size, 0, none⟩) 3 3] (w.alloc (.cells #[.int .i64 p.1, .string p.2, .int .i64 q.1, .string q.2, .int .i64 q.1, .string q.2] 39)) fun e w' => e = .returned (.tuple #[.string (S (one (one t.data.toList p) q)), .int .i64 0]) ∧ Below (w.alloc (.cells #[.int .i64 p.1, .string p.2, .int .i64 q.1, .string q.2, .int .i64 q.1, .string q.2] 39)).heap.size (w.alloc (.cells #[.int .i64 p.1, .string p.2, .int .i64 q.1, .string q.2, .int .i64 q.1, .string q.2] 39)) w') := by
  intro w
  have h := patched_any t _ [p, q, q] (by simp [zp, zq]) (by omega) _ (sl_three w p q q 39)
  obtain ⟨e1, e2⟩ := pt_ok t [p, q, q] ht (by simp) (by simp [hp, hq])
  rw [e1, e2, show patchAll t.data.toList [p, q, q] = one (one t.data.toList p) q from one_twice _ q (one_length _ p ht hp) hq] at h
  exact h
theorem turn_calls0 (t : ByteArray) (ht : t.size = 64) : (∀ w : World, Calls Tryz.prog 76 #[.string t, .slice none 0 0] w fun e w' => e = .returned (.tuple #[.string t, .int .i64 0]) ∧ Below w.heap.size w w') := by
  intro w
  have h := patched_any t _ [] (by simp) (by omega) _ (sl_nil w)
  obtain ⟨e1, e2⟩ := pt_ok t [] ht (by simp) (by simp)
  rw [e1, e2, show S (patchAll t.data.toList []) = t from S_self t] at h
  exact h

end Cw
