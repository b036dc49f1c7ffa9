/- FieldTurns answers true. -/
import Derived.Test.YtcfdgmkckibieaaFieldW4
import Derived.Test.YtcfdgmkckibieaaOverW
import Derived.Test.YtcfdgmkckibieaaPatchW2
namespace Cw
open Go Go.RowKit Go.IntWalk
open Go.Proofs

theorem over_get (cur : List UInt8) (off : Nat) (l : List UInt8) (h : off + l.length ≤ cur.length) (j : Nat) : (over cur off l)[j]? = if off ≤ j ∧ j < off + l.length then l[j - off]? else cur[j]? := by
  simp only [over, List.getElem?_append, List.length_take, List.getElem?_take, List.getElem?_drop]
  rw [Nat.min_eq_left (by omega)]
  by_cases h1 : j < off
  · simp only [if_pos h1]
    rw [if_neg (by omega)]
  · rw [if_neg h1]
    by_cases h2 : j < off + l.length
    · rw [if_pos (by omega), if_pos (by omega)]
    · rw [if_neg (by omega), if_neg (by omega)]
      congr 1
      omega

theorem one_get (s : List UInt8) (p : Pt) (hs : s.length = 64) (h : okp p = true) (j : Nat) : (one s p)[j]? = if p.1.toNat ≤ j ∧ j < p.1.toNat + p.2.size then p.2.data.toList[j - p.1.toNat]? else s[j]? := by
  have := okp_iff h
  have e : p.2.data.toList.length = p.2.size := rfl
  rw [one, over_get _ _ _ (by rw [e]; omega), e]

/-- Patches that do not overlap may be done in either order. -/
theorem one_comm (s : List UInt8) (p q : Pt) (hs : s.length = 64) (hp : okp p = true) (hq : okp q = true) (h : both p q = false) : one (one s p) q = one (one s q) p := by
  have h1 := okp_iff hp
  have h2 := okp_iff hq
  have h3 : ¬ max p.1 q.1 < min (p.1 + p.2.size) (q.1 + q.2.size) := by simpa [both] using h
  apply List.ext_getElem?
  intro j
  rw [one_get _ q (one_length s p hs hp) hq, one_get s p hs hp, one_get _ p (one_length s q hs hq) hp, one_get s q hs hq]
  by_cases c1 : p.1.toNat ≤ j ∧ j < p.1.toNat + p.2.size
  · have c2 : ¬ (q.1.toNat ≤ j ∧ j < q.1.toNat + q.2.size) := by omega
    rw [if_neg c2, if_pos c1, if_pos c1]
  · rw [if_neg c1, if_neg c1]

/-- One that is done twice is as done once. -/
theorem one_twice (s : List UInt8) (q : Pt) (hs : s.length = 64) (hq : okp q = true) : one (one s q) q = one s q := by
  apply List.ext_getElem?
  intro j
  rw [one_get _ q (one_length s q hs hq) hq, one_get s q hs hq]
  split <;> simp_all

theorem both_comm (p q : Pt) : both p q = both q p := by simp [both, Int.max_comm, Int.min_comm]
theorem ove_comm (p q : Pt) : ove p q = ove q p := by simp [ove, and_comm]

theorem lit_add (n i : Nat) : (⟨n, 0, none⟩ : Addr).add i = ⟨n, i, none⟩ := by unfold Addr.add; split <;> simp_all
theorem sl_nil (w : World) : Sl w (.slice none 0 0) [] := ⟨none, 0, rfl, Nat.le_refl _, by decide, by simp, by simp⟩
theorem sl_one (w : World) (p : Pt) (T : TypeId) : Sl (w.alloc (.cells #[.int .i64 p.1, .string p.2] T)) (.slice (some ⟨w.heap.size, 0, none⟩) 1 1) [p] := by
  refine ⟨_, 1, rfl, Nat.le_refl _, by decide, ?_, ?_⟩
  · rintro b ⟨⟩ _; simp
  · intro i hi
    have hc := fun o => cell_of_row _ w.heap.size o #[.int .i64 p.1, .string p.2] T (0, 0) (heap_alloc_new w _)
    refine ⟨_, rfl, ?_⟩
    obtain rfl : i = 0 := by simpa using hi
    rw [lit_add, lit_add, hc, hc]
    exact ⟨rfl, rfl⟩
theorem sl_two (w : World) (p q : Pt) (T : TypeId) : Sl (w.alloc (.cells #[.int .i64 p.1, .string p.2, .int .i64 q.1, .string q.2] T)) (.slice (some ⟨w.heap.size, 0, none⟩) 2 2) [p, q] := by
  refine ⟨_, 2, rfl, Nat.le_refl _, by decide, ?_, ?_⟩
  · rintro b ⟨⟩ _; simp
  · intro i hi
    have hc := fun o => cell_of_row _ w.heap.size o #[.int .i64 p.1, .string p.2, .int .i64 q.1, .string q.2] T (0, 0) (heap_alloc_new w _)
    refine ⟨_, rfl, ?_⟩
    rw [lit_add, lit_add, hc, hc]
    rcases (show i = 0 ∨ i = 1 by simp at hi; omega) with rfl | rfl
    · exact ⟨rfl, rfl⟩
    · exact ⟨rfl, rfl⟩
theorem sl_three (w : World) (p q r : Pt) (T : TypeId) : Sl (w.alloc (.cells #[.int .i64 p.1, .string p.2, .int .i64 q.1, .string q.2, .int .i64 r.1, .string r.2] T)) (.slice (some ⟨w.heap.size, 0, none⟩) 3 3) [p, q, r] := by
  refine ⟨_, 3, rfl, Nat.le_refl _, by decide, ?_, ?_⟩
  · rintro b ⟨⟩ _; simp
  · intro i hi
    have hc := fun o => cell_of_row _ w.heap.size o #[.int .i64 p.1, .string p.2, .int .i64 q.1, .string q.2, .int .i64 r.1, .string r.2] T (0, 0) (heap_alloc_new w _)
    refine ⟨_, rfl, ?_⟩
    rw [lit_add, lit_add, hc, hc]
    rcases (show i = 0 ∨ i = 1 ∨ i = 2 by simp at hi; omega) with rfl | rfl | rfl
    · exact ⟨rfl, rfl⟩
    · exact ⟨rfl, rfl⟩
    · exact ⟨rfl, rfl⟩

theorem pt_ok (s : ByteArray) (l : List Pt) (hs : s.size = 64) (hl : l.length ≤ 1024) (h : l.all okp = true) : pte s l = 0 ∧ pt s l = S (patchAll s.data.toList l) := by
  have : pte s l = 0 := by rw [pte, if_neg (by omega), if_neg (by omega), if_pos h]
  exact ⟨this, by rw [pt, if_pos this]⟩

/-- The four calls of Patched. -/
theorem turn_calls (t : ByteArray) (p q : Pt) (ht : t.size = 64) (zp : p.2.size ≤ 9223372036854775807) (zq : q.2.size ≤ 9223372036854775807) (hp : okp p = true) (hq : okp q = true) :
    (∀ w : World, Calls Try.prog 27 #[.string t, .slice (some ⟨w.heap.size, 0, none⟩) 2 2] (w.alloc (.cells #[.int .i64 p.1, .string p.2, .int .i64 q.1, .string q.2] 25)) fun e w' => e = .returned (.tuple #[.string (S (one (one t.data.toList p) q)), .int .i64 0]) ∧ Below (w.alloc (.cells #[.int .i64 p.1, .string p.2, .int .i64 q.1, .string q.2] 25)).heap.size (w.alloc (.cells #[.int .i64 p.1, .string p.2, .int .i64 q.1, .string q.2] 25)) w') := by
  intro w
  have h := patched_any t _ [p, q] (by simp [zp, zq]) (by omega) _ (sl_two w p q 25)
  obtain ⟨e1, e2⟩ := pt_ok t [p, q] ht (by simp) (by simp [hp, hq])
  rw [e1, e2] at h
  exact h
theorem turn_calls3 (t : ByteArray) (p q : Pt) (ht : t.size = 64) (zp : p.2.size ≤ 9223372036854775807) (zq : q.2.size ≤ 9223372036854775807) (hp : okp p = true) (hq : okp q = true) :
    (∀ w : World, Calls Try.prog 27 #[.string t, .slice (some ⟨w.heap.size, 0, none⟩) 3 3] (w.alloc (.cells #[.int .i64 p.1, .string p.2, .int .i64 q.1, .string q.2, .int .i64 q.1, .string q.2] 25)) fun e w' => e = .returned (.tuple #[.string (S (one (one t.data.toList p) q)), .int .i64 0]) ∧ Below (w.alloc (.cells #[.int .i64 p.1, .string p.2, .int .i64 q.1, .string q.2, .int .i64 q.1, .string q.2] 25)).heap.size (w.alloc (.cells #[.int .i64 p.1, .string p.2, .int .i64 q.1, .string q.2, .int .i64 q.1, .string q.2] 25)) w') := by
  intro w
  have h := patched_any t _ [p, q, q] (by simp [zp, zq]) (by omega) _ (sl_three w p q q 25)
  obtain ⟨e1, e2⟩ := pt_ok t [p, q, q] ht (by simp) (by simp [hp, hq])
  rw [e1, e2, show patchAll t.data.toList [p, q, q] = one (one t.data.toList p) q from one_twice _ q (one_length _ p ht hp) hq] at h
  exact h
theorem turn_calls0 (t : ByteArray) (ht : t.size = 64) : (∀ w : World, Calls Try.prog 27 #[.string t, .slice none 0 0] w fun e w' => e = .returned (.tuple #[.string t, .int .i64 0]) ∧ Below w.heap.size w w') := by
  intro w
  have h := patched_any t _ [] (by simp) (by omega) _ (sl_nil w)
  obtain ⟨e1, e2⟩ := pt_ok t [] ht (by simp) (by simp)
  rw [e1, e2, show S (patchAll t.data.toList []) = t from S_self t] at h
  exact h

set_option maxHeartbeats 400000 in
theorem fieldTurns_ok (s : ByteArray) (p q : Pt) (hs : s.size ≤ 9223372036854775807) (zp : p.2.size ≤ 9223372036854775807) (zq : q.2.size ≤ 9223372036854775807) (w : World) : Calls Try.prog 9 #[.string s, .agg #[.int .i64 p.1, .string p.2], .agg #[.int .i64 q.1, .string q.2]] w fun e w' => e = .returned (.bool true) ∧ Below w.heap.size w w' := by
  have hS := over_start w (.int .i64 p.1) (.string p.2) (.int .i64 q.1) (.string q.2) 25
  have ht := fit_size s
  have F1 := Lib.hid (fit_any s hs)
  generalize fit s = t at *
  have O1 := over_any p q zp zq
  have O2 := over_any q p zq zp
  have K1 := Lib.hid (fun w => fcheck_any p.1 p.2 zp w)
  have K2 := Lib.hid (fun w => fcheck_any q.1 q.2 zq w)
  have K0 := turn_calls0 t ht
  have kp : fcheck p.1 p.2.size = if okp p = true then 0 else 1 := rfl
  have kq : fcheck q.1 q.2.size = if okp q = true then 0 else 1 := rfl
  by_cases hp : okp p = true
  · by_cases hq : okp q = true
    · have e1 : ove p q = 0 := by rw [ove, if_pos ⟨hp, hq⟩]
      have e2 : ove q p = 0 := by rw [ove, if_pos ⟨hq, hp⟩]
      have e3 : ovb p q = both p q := by rw [ovb, if_pos e1]
      have e4 : ovb q p = both p q := by rw [ovb, if_pos e2, both_comm]
      rw [e1, e3] at O1
      rw [e2, e4] at O2
      have P1 := turn_calls t p q ht zp zq hp hq
      have P2 := turn_calls t q p ht zq zp hq hp
      have P3 := turn_calls3 t p q ht zp zq hp hq
      have hAB : both p q = false → S (one (one t.data.toList q) p) = S (one (one t.data.toList p) q) := fun h => by rw [one_comm t.data.toList p q ht hp hq h]
      generalize both p q = v at *
      generalize S (one (one t.data.toList p) q) = A at *
      generalize S (one (one t.data.toList q) p) = B at *
      have HO := Lib.hid (And.intro O1 O2)
      have HP := Lib.hid (And.intro P1 (And.intro P2 (And.intro P3 K0)))
      clear O1 O2 P1 P2 P3 K0 K1 K2 kp kq e1 e2 e3 e4 hp hq
      obtain ⟨o, x⟩ := p
      obtain ⟨r, y⟩ := q
      simp only at *
      cases v
      · obtain rfl := hAB rfl
        go_enter Try.func9, Try.ntmps9
        go_wp2_with fail
        generalize World.alloc (World.alloc w _) _ = w0 at *
        obtain ⟨hA, hC, hB⟩ := hS
        have a0 := hA.1
        have a1 := hA.2.1
        have c0 := hC.1
        have c1 := hC.2.1
        go_wp2_with (first | (go_at_call 16; refine (works_any _).mono ?_; rintro e w1 ⟨rfl, hb⟩; have hA' := two_step hA hb; have hC' := two_step hC hb; have hB' := below_step hb hB.size hB; clear hA hC hB a0 a1 c0 c1 hb; have hA := hA'; have hC := hC'; have hB := hB'; clear hA' hC' hB'; have a0 := hA.1; have a1 := hA.2.1; have c0 := hC.1; have c1 := hC.2.1) | (go_at_call 25; refine (F1.out _).mono ?_; rintro e w1 ⟨rfl, hb⟩; have hA' := two_step hA hb; have hC' := two_step hC hb; have hB' := below_step hb hB.size hB; clear hA hC hB a0 a1 c0 c1 hb; have hA := hA'; have hC := hC'; have hB := hB'; clear hA' hC' hB'; have a0 := hA.1; have a1 := hA.2.1; have c0 := hC.1; have c1 := hC.2.1) | (go_at_call 31; (with_reducible refine (HO.out.1 _).mono ?_); rintro e w1 ⟨rfl, hb⟩; have hA' := two_step hA hb; have hC' := two_step hC hb; have hB' := below_step hb hB.size hB; clear hA hC hB a0 a1 c0 c1 hb; have hA := hA'; have hC := hC'; have hB := hB'; clear hA' hC' hB'; have a0 := hA.1; have a1 := hA.2.1; have c0 := hC.1; have c1 := hC.2.1) | (go_at_call 31; (with_reducible refine (HO.out.2 _).mono ?_); rintro e w1 ⟨rfl, hb⟩; have hA' := two_step hA hb; have hC' := two_step hC hb; have hB' := below_step hb hB.size hB; clear hA hC hB a0 a1 c0 c1 hb; have hA := hA'; have hC := hC'; have hB := hB'; clear hA' hC' hB'; have a0 := hA.1; have a1 := hA.2.1; have c0 := hC.1; have c1 := hC.2.1) | (go_at_call 27; (with_reducible refine (HP.out.1 _).mono ?_); rintro e w1 ⟨rfl, hb⟩; have hA' := two_step (two_alloc hA _) hb; have hC' := two_step (two_alloc hC _) hb; have hB' := below_step hb (below_alloc hB _).size (below_alloc hB _); clear hA hC hB a0 a1 c0 c1 hb; have hA := hA'; have hC := hC'; have hB := hB'; clear hA' hC' hB'; have a0 := hA.1; have a1 := hA.2.1; have c0 := hC.1; have c1 := hC.2.1) | (go_at_call 27; (with_reducible refine (HP.out.2.1 _).mono ?_); rintro e w1 ⟨rfl, hb⟩; have hA' := two_step (two_alloc hA _) hb; have hC' := two_step (two_alloc hC _) hb; have hB' := below_step hb (below_alloc hB _).size (below_alloc hB _); clear hA hC hB a0 a1 c0 c1 hb; have hA := hA'; have hC := hC'; have hB := hB'; clear hA' hC' hB'; have a0 := hA.1; have a1 := hA.2.1; have c0 := hC.1; have c1 := hC.2.1) | (go_at_call 27; (with_reducible refine (HP.out.2.2.1 _).mono ?_); rintro e w1 ⟨rfl, hb⟩; have hA' := two_step (two_alloc hA _) hb; have hC' := two_step (two_alloc hC _) hb; have hB' := below_step hb (below_alloc hB _).size (below_alloc hB _); clear hA hC hB a0 a1 c0 c1 hb; have hA := hA'; have hC := hC'; have hB := hB'; clear hA' hC' hB'; have a0 := hA.1; have a1 := hA.2.1; have c0 := hC.1; have c1 := hC.2.1) | (go_at_call 27; (with_reducible refine (HP.out.2.2.2 _).mono ?_); rintro e w1 ⟨rfl, hb⟩; have hA' := two_step hA hb; have hC' := two_step hC hb; have hB' := below_step hb hB.size hB; clear hA hC hB a0 a1 c0 c1 hb; have hA := hA'; have hC := hC'; have hB := hB'; clear hA' hC' hB'; have a0 := hA.1; have a1 := hA.2.1; have c0 := hC.1; have c1 := hC.2.1))
        go_ret
        exact ⟨rfl, hB⟩
      · clear hAB
        go_enter Try.func9, Try.ntmps9
        go_wp2_with fail
        generalize World.alloc (World.alloc w _) _ = w0 at *
        obtain ⟨hA, hC, hB⟩ := hS
        have a0 := hA.1
        have a1 := hA.2.1
        have c0 := hC.1
        have c1 := hC.2.1
        go_wp2_with (first | (go_at_call 16; refine (works_any _).mono ?_; rintro e w1 ⟨rfl, hb⟩; have hA' := two_step hA hb; have hC' := two_step hC hb; have hB' := below_step hb hB.size hB; clear hA hC hB a0 a1 c0 c1 hb; have hA := hA'; have hC := hC'; have hB := hB'; clear hA' hC' hB'; have a0 := hA.1; have a1 := hA.2.1; have c0 := hC.1; have c1 := hC.2.1) | (go_at_call 25; refine (F1.out _).mono ?_; rintro e w1 ⟨rfl, hb⟩; have hA' := two_step hA hb; have hC' := two_step hC hb; have hB' := below_step hb hB.size hB; clear hA hC hB a0 a1 c0 c1 hb; have hA := hA'; have hC := hC'; have hB := hB'; clear hA' hC' hB'; have a0 := hA.1; have a1 := hA.2.1; have c0 := hC.1; have c1 := hC.2.1) | (go_at_call 31; (with_reducible refine (HO.out.1 _).mono ?_); rintro e w1 ⟨rfl, hb⟩; have hA' := two_step hA hb; have hC' := two_step hC hb; have hB' := below_step hb hB.size hB; clear hA hC hB a0 a1 c0 c1 hb; have hA := hA'; have hC := hC'; have hB := hB'; clear hA' hC' hB'; have a0 := hA.1; have a1 := hA.2.1; have c0 := hC.1; have c1 := hC.2.1) | (go_at_call 31; (with_reducible refine (HO.out.2 _).mono ?_); rintro e w1 ⟨rfl, hb⟩; have hA' := two_step hA hb; have hC' := two_step hC hb; have hB' := below_step hb hB.size hB; clear hA hC hB a0 a1 c0 c1 hb; have hA := hA'; have hC := hC'; have hB := hB'; clear hA' hC' hB'; have a0 := hA.1; have a1 := hA.2.1; have c0 := hC.1; have c1 := hC.2.1) | (go_at_call 27; (with_reducible refine (HP.out.1 _).mono ?_); rintro e w1 ⟨rfl, hb⟩; have hA' := two_step (two_alloc hA _) hb; have hC' := two_step (two_alloc hC _) hb; have hB' := below_step hb (below_alloc hB _).size (below_alloc hB _); clear hA hC hB a0 a1 c0 c1 hb; have hA := hA'; have hC := hC'; have hB := hB'; clear hA' hC' hB'; have a0 := hA.1; have a1 := hA.2.1; have c0 := hC.1; have c1 := hC.2.1) | (go_at_call 27; (with_reducible refine (HP.out.2.1 _).mono ?_); rintro e w1 ⟨rfl, hb⟩; have hA' := two_step (two_alloc hA _) hb; have hC' := two_step (two_alloc hC _) hb; have hB' := below_step hb (below_alloc hB _).size (below_alloc hB _); clear hA hC hB a0 a1 c0 c1 hb; have hA := hA'; have hC := hC'; have hB := hB'; clear hA' hC' hB'; have a0 := hA.1; have a1 := hA.2.1; have c0 := hC.1; have c1 := hC.2.1) | (go_at_call 27; (with_reducible refine (HP.out.2.2.1 _).mono ?_); rintro e w1 ⟨rfl, hb⟩; have hA' := two_step (two_alloc hA _) hb; have hC' := two_step (two_alloc hC _) hb; have hB' := below_step hb (below_alloc hB _).size (below_alloc hB _); clear hA hC hB a0 a1 c0 c1 hb; have hA := hA'; have hC := hC'; have hB := hB'; clear hA' hC' hB'; have a0 := hA.1; have a1 := hA.2.1; have c0 := hC.1; have c1 := hC.2.1) | (go_at_call 27; (with_reducible refine (HP.out.2.2.2 _).mono ?_); rintro e w1 ⟨rfl, hb⟩; have hA' := two_step hA hb; have hC' := two_step hC hb; have hB' := below_step hb hB.size hB; clear hA hC hB a0 a1 c0 c1 hb; have hA := hA'; have hC := hC'; have hB := hB'; clear hA' hC' hB'; have a0 := hA.1; have a1 := hA.2.1; have c0 := hC.1; have c1 := hC.2.1))
        go_ret
        exact ⟨rfl, hB⟩
    · have e1 : ove p q = 1 := by rw [ove, if_neg (fun h => hq h.2)]
      rw [if_neg hq] at kq
      rw [if_pos hp] at kp
      rw [e1] at O1
      rw [kq] at K2
      rw [kp] at K1
      have HO := Lib.hid O1
      clear O1 O2 K0 kp kq e1 hp hq
      generalize ovb p q = v at *
      obtain ⟨o, x⟩ := p
      obtain ⟨r, y⟩ := q
      simp only at *
      go_enter Try.func9, Try.ntmps9
      go_wp2_with fail
      generalize World.alloc (World.alloc w _) _ = w0 at *
      obtain ⟨hA, hC, hB⟩ := hS
      have a0 := hA.1
      have a1 := hA.2.1
      have c0 := hC.1
      have c1 := hC.2.1
      go_wp2_with (first | (go_at_call 16; refine (works_any _).mono ?_; rintro e w1 ⟨rfl, hb⟩; have hA' := two_step hA hb; have hC' := two_step hC hb; have hB' := below_step hb hB.size hB; clear hA hC hB a0 a1 c0 c1 hb; have hA := hA'; have hC := hC'; have hB := hB'; clear hA' hC' hB'; have a0 := hA.1; have a1 := hA.2.1; have c0 := hC.1; have c1 := hC.2.1) | (go_at_call 25; refine (F1.out _).mono ?_; rintro e w1 ⟨rfl, hb⟩; have hA' := two_step hA hb; have hC' := two_step hC hb; have hB' := below_step hb hB.size hB; clear hA hC hB a0 a1 c0 c1 hb; have hA := hA'; have hC := hC'; have hB := hB'; clear hA' hC' hB'; have a0 := hA.1; have a1 := hA.2.1; have c0 := hC.1; have c1 := hC.2.1) | (go_at_call 31; (with_reducible refine (HO.out _).mono ?_); rintro e w1 ⟨rfl, hb⟩; have hA' := two_step hA hb; have hC' := two_step hC hb; have hB' := below_step hb hB.size hB; clear hA hC hB a0 a1 c0 c1 hb; have hA := hA'; have hC := hC'; have hB := hB'; clear hA' hC' hB'; have a0 := hA.1; have a1 := hA.2.1; have c0 := hC.1; have c1 := hC.2.1) | (go_at_call 14; (with_reducible refine (K1.out _).mono ?_); rintro e w1 ⟨rfl, hb⟩; have hA' := two_step hA hb; have hC' := two_step hC hb; have hB' := below_step hb hB.size hB; clear hA hC hB a0 a1 c0 c1 hb; have hA := hA'; have hC := hC'; have hB := hB'; clear hA' hC' hB'; have a0 := hA.1; have a1 := hA.2.1; have c0 := hC.1; have c1 := hC.2.1) | (go_at_call 14; (with_reducible refine (K2.out _).mono ?_); rintro e w1 ⟨rfl, hb⟩; have hA' := two_step hA hb; have hC' := two_step hC hb; have hB' := below_step hb hB.size hB; clear hA hC hB a0 a1 c0 c1 hb; have hA := hA'; have hC := hC'; have hB := hB'; clear hA' hC' hB'; have a0 := hA.1; have a1 := hA.2.1; have c0 := hC.1; have c1 := hC.2.1))
      go_ret
      exact ⟨rfl, hB⟩
  · have e1 : ove p q = 1 := by rw [ove, if_neg (fun h => hp h.1)]
    rw [if_neg hp] at kp
    rw [e1] at O1
    rw [kp] at K1
    have HO := Lib.hid O1
    clear O1 O2 K0 kp kq e1 hp
    generalize ovb p q = v at *
    obtain ⟨o, x⟩ := p
    obtain ⟨r, y⟩ := q
    simp only at *
    go_enter Try.func9, Try.ntmps9
    go_wp2_with fail
    generalize World.alloc (World.alloc w _) _ = w0 at *
    obtain ⟨hA, hC, hB⟩ := hS
    have a0 := hA.1
    have a1 := hA.2.1
    have c0 := hC.1
    have c1 := hC.2.1
    go_wp2_with (first | (go_at_call 16; refine (works_any _).mono ?_; rintro e w1 ⟨rfl, hb⟩; have hA' := two_step hA hb; have hC' := two_step hC hb; have hB' := below_step hb hB.size hB; clear hA hC hB a0 a1 c0 c1 hb; have hA := hA'; have hC := hC'; have hB := hB'; clear hA' hC' hB'; have a0 := hA.1; have a1 := hA.2.1; have c0 := hC.1; have c1 := hC.2.1) | (go_at_call 25; refine (F1.out _).mono ?_; rintro e w1 ⟨rfl, hb⟩; have hA' := two_step hA hb; have hC' := two_step hC hb; have hB' := below_step hb hB.size hB; clear hA hC hB a0 a1 c0 c1 hb; have hA := hA'; have hC := hC'; have hB := hB'; clear hA' hC' hB'; have a0 := hA.1; have a1 := hA.2.1; have c0 := hC.1; have c1 := hC.2.1) | (go_at_call 31; (with_reducible refine (HO.out _).mono ?_); rintro e w1 ⟨rfl, hb⟩; have hA' := two_step hA hb; have hC' := two_step hC hb; have hB' := below_step hb hB.size hB; clear hA hC hB a0 a1 c0 c1 hb; have hA := hA'; have hC := hC'; have hB := hB'; clear hA' hC' hB'; have a0 := hA.1; have a1 := hA.2.1; have c0 := hC.1; have c1 := hC.2.1) | (go_at_call 14; (with_reducible refine (K1.out _).mono ?_); rintro e w1 ⟨rfl, hb⟩; have hA' := two_step hA hb; have hC' := two_step hC hb; have hB' := below_step hb hB.size hB; clear hA hC hB a0 a1 c0 c1 hb; have hA := hA'; have hC := hC'; have hB := hB'; clear hA' hC' hB'; have a0 := hA.1; have a1 := hA.2.1; have c0 := hC.1; have c1 := hC.2.1) | (go_at_call 14; (with_reducible refine (K2.out _).mono ?_); rintro e w1 ⟨rfl, hb⟩; have hA' := two_step hA hb; have hC' := two_step hC hb; have hB' := below_step hb hB.size hB; clear hA hC hB a0 a1 c0 c1 hb; have hA := hA'; have hC := hC'; have hB := hB'; clear hA' hC' hB'; have a0 := hA.1; have a1 := hA.2.1; have c0 := hC.1; have c1 := hC.2.1))
    go_ret
    exact ⟨rfl, hB⟩
end Cw
