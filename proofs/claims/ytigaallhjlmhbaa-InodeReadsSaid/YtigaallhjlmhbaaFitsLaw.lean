/- Where what a sector is stands: there it is; how many of each kind there are. No program in sight. -/
import Derived.Test.YtigaallhjlmhbaaRiseLaw
namespace Cw
theorem first_add (a b c k : Int) : gfirst a b c k = gfirst a b c 0 + k * (2 + b + c) := by
  unfold gfirst
  rw [Int.zero_mul]
  omega
/-- A sector behind the table, by its group and its place there. -/
theorem high_at {a b c s : Int} (hg : Gok a b c) (h0 : gfirst a b c 0 ≤ s) (h1 : s < gsize a b c) : ∃ q r : Int, 0 ≤ q ∧ q < a ∧ 0 ≤ r ∧ r < 2 + b + c ∧ (s - gfirst a b c 0) / (2 + b + c) = q ∧ (s - gfirst a b c 0) % (2 + b + c) = r ∧ s = gfirst a b c q + r := by
  obtain ⟨q0, q1, r0, r1⟩ := high_bd hg h0 h1
  refine ⟨_, _, q0, q1, r0, r1, rfl, rfl, ?_⟩
  rw [first_add]
  have h := Int.mul_ediv_add_emod (s - gfirst a b c 0) (2 + b + c)
  rw [Int.mul_comm] at h
  omega
theorem high_mk {a b c q r : Int} (hg : Gok a b c) (r0 : 0 ≤ r) (r1 : r < 2 + b + c) : (gfirst a b c q + r - gfirst a b c 0) / (2 + b + c) = q ∧ (gfirst a b c q + r - gfirst a b c 0) % (2 + b + c) = r := by
  have hL : 0 < 2 + b + c := by have := hg.2.2.1; have := hg.2.2.2.2.1; omega
  have e : gfirst a b c q + r - gfirst a b c 0 = r + q * (2 + b + c) := by rw [first_add]; omega
  rw [e]
  constructor
  · rw [Int.add_mul_ediv_right _ _ (by omega), Int.ediv_eq_zero_of_lt r0 r1]
    omega
  · rw [Int.add_mul_emod_self_right, Int.emod_eq_of_lt r0 r1]
theorem in_size {a b c q r : Int} (hg : Gok a b c) (q0 : 0 ≤ q) (q1 : q < a) (r0 : 0 ≤ r) (r1 : r < 2 + b + c) : gfirst a b c 0 ≤ gfirst a b c q + r ∧ gfirst a b c q + r < gsize a b c ∧ 2 ≤ gfirst a b c 0 := by
  have hL : 0 < 2 + b + c := by have := hg.2.2.1; have := hg.2.2.2.2.1; omega
  have h1 : (q + 1) * (2 + b + c) ≤ a * (2 + b + c) := Int.mul_le_mul_of_nonneg_right (by omega) (by omega)
  have h2 : 0 ≤ q * (2 + b + c) := Int.mul_nonneg q0 (by omega)
  rw [Int.add_mul] at h1
  have h3 := first_bd hg (k := 0) (by omega) (by omega)
  unfold gsize
  rw [if_pos hg, first_add a b c q, first_add a b c a]
  omega
theorem we_zero {a b c s : Int} (hg : Gok a b c) (h0 : 0 ≤ s) (h1 : s < gsize a b c) : we a b c s = 0 := within_zero hg h0 h1

theorem map_back {a b c s : Int} (he : we a b c s = 0) (hk : wk a b c s = 3 ∨ wk a b c s = 4) : me a b c (wn a b c s) = 0 ∧ mapAt a b c (wn a b c s) (decide (wk a b c s = 4)) = s := by
  obtain ⟨hg, h0, h1⟩ := within_ok (a := a) (b := b) (c := c) (n := s) (m := gsize a b c) (by unfold we at he; omega)
  have bd := wk_bd he
  obtain ⟨q, r, q0, q1, r0, r1, eq, er, es⟩ := high_at hg (by omega) h1
  have hr : r < 2 := by
    by_cases hb : 2 + b ≤ r
    · have := (w_block he (by omega) (by omega)).1
      omega
    · by_cases hi : 2 ≤ r
      · have := (w_inode he (by omega) (by omega) (by omega)).1
        omega
      · omega
  obtain ⟨k1, n1⟩ := w_map (by have := hg.2.2.1; omega) he (by omega) (by omega)
  rw [er] at k1
  rw [eq] at n1
  have m0 : me a b c q = 0 := within_zero hg q0 q1
  rw [n1, k1, mapAt, if_neg (by omega)]
  refine ⟨m0, ?_⟩
  by_cases e : r = 1
  · rw [if_pos (by simp [e])]
    omega
  · rw [if_neg (by simp; omega)]
    omega
theorem inode_back {a b c s : Int} (he : we a b c s = 0) (hk : wk a b c s = 5) : ie a b c (wn a b c s) = 0 ∧ is a b c (wn a b c s) = s := by
  obtain ⟨hg, h0, h1⟩ := within_ok (a := a) (b := b) (c := c) (n := s) (m := gsize a b c) (by unfold we at he; omega)
  have bd := wk_bd he
  obtain ⟨q, r, q0, q1, r0, r1, eq, er, es⟩ := high_at hg (by omega) h1
  have hb0 : 0 < b := by have := hg.2.2.1; omega
  have hr : ¬ 2 + b ≤ r ∧ 2 ≤ r := by
    by_cases hb : 2 + b ≤ r
    · have := (w_block he (by omega) (by omega)).1
      omega
    · by_cases hi : 2 ≤ r
      · exact ⟨hb, hi⟩
      · have := (w_map (by omega) he (by omega) (by omega)).1
        omega
  obtain ⟨k1, n1⟩ := w_inode he (by omega) (by omega) (by omega)
  rw [er, eq] at n1
  have p1 : 0 ≤ q * b := Int.mul_nonneg q0 (by omega)
  have p2 : (q + 1) * b ≤ a * b := Int.mul_le_mul_of_nonneg_right (by omega) (by omega)
  rw [Int.add_mul] at p2
  have hin : ginodes a b c = a * b := by rw [ginodes, if_pos hg]
  have d1 : (wn a b c s - 1) / b = q := by
    rw [n1, show q * b + r - 2 + 1 - 1 = (r - 2) + q * b by omega, Int.add_mul_ediv_right _ _ (by omega), Int.ediv_eq_zero_of_lt (by omega) (by omega)]
    omega
  have d2 : (wn a b c s - 1) % b = r - 2 := by
    rw [n1, show q * b + r - 2 + 1 - 1 = (r - 2) + q * b by omega, Int.add_mul_emod_self_right, Int.emod_eq_of_lt (by omega) (by omega)]
  have i0 : ie a b c (wn a b c s) = 0 := by
    have hw : gwithin a b c (wn a b c s) (ginodes a b c + 1) = 0 := within_zero hg (by omega) (by omega)
    rw [ie, if_neg (by omega), if_neg (by omega)]
  refine ⟨i0, ?_⟩
  rw [is, if_neg (by omega), d1, d2]
  omega
theorem block_back {a b c s : Int} (he : we a b c s = 0) (hk : wk a b c s = 6) : pe a b c s = 0 ∧ pg a b c s * c + pp a b c s = wn a b c s ∧ be a b c (pg a b c s) (pp a b c s) = 0 ∧ bs a b c (pg a b c s) (pp a b c s) = s ∧ 0 ≤ pg a b c s ∧ pg a b c s < a ∧ 0 ≤ pp a b c s ∧ pp a b c s < c := by
  obtain ⟨hg, h0, h1⟩ := within_ok (a := a) (b := b) (c := c) (n := s) (m := gsize a b c) (by unfold we at he; omega)
  have bd := wk_bd he
  obtain ⟨q, r, q0, q1, r0, r1, eq, er, es⟩ := high_at hg (by omega) h1
  have hb0 : 0 < b := by have := hg.2.2.1; omega
  have hr : 2 + b ≤ r := by
    by_cases hb : 2 + b ≤ r
    · exact hb
    · by_cases hi : 2 ≤ r
      · have := (w_inode he (by omega) (by omega) (by omega)).1
        omega
      · have := (w_map (by omega) he (by omega) (by omega)).1
        omega
  obtain ⟨k1, n1⟩ := w_block he (by omega) (by omega)
  rw [er, eq] at n1
  have pe0 : pe a b c s = 0 := by rw [pe, if_neg (by omega), if_neg (by omega)]
  have d1 : wn a b c s / c = q := by
    rw [n1, show q * c + r - 2 - b = (r - 2 - b) + q * c by omega, Int.add_mul_ediv_right _ _ (by omega), Int.ediv_eq_zero_of_lt (by omega) (by omega)]
    omega
  have d2 : wn a b c s % c = r - 2 - b := by
    rw [n1, show q * c + r - 2 - b = (r - 2 - b) + q * c by omega, Int.add_mul_emod_self_right, Int.emod_eq_of_lt (by omega) (by omega)]
  have g1 : pg a b c s = q := by rw [pg, if_neg (by omega), d1]
  have g2 : pp a b c s = r - 2 - b := by rw [pp, if_neg (by omega), d2]
  have w1 : gwithin a b c q a = 0 := within_zero hg q0 q1
  have w2 : gwithin a b c (r - 2 - b) c = 0 := within_zero hg (by omega) (by omega)
  have b0 : be a b c q (r - 2 - b) = 0 := by rw [be, if_neg (by omega), w2]
  rw [g1, g2, n1]
  refine ⟨pe0, by omega, b0, ?_, by omega, by omega, by omega, by omega⟩
  rw [bs, if_neg (by omega)]
  omega

/-- How many of a kind there are ahead of a sector, counted. -/
def cnt (a b c k : Int) : Nat → Int
  | 0 => 0
  | n + 1 => cnt a b c k n + if wk a b c n = k then 1 else 0
/-- The same, reckoned. -/
def cfm (a b c k s : Int) : Int :=
  if s ≤ gfirst a b c 0 then (if k = 0 then (if 1 ≤ s then 1 else 0) else if k = 1 then (if 2 ≤ s then 1 else 0) else if k = 2 then (if 2 ≤ s then s - 2 else 0) else 0)
  else if k = 0 ∨ k = 1 then 1 else if k = 2 then gfirst a b c 0 - 2
  else if k = 3 then (s - gfirst a b c 0) / (2 + b + c) + (if 1 ≤ (s - gfirst a b c 0) % (2 + b + c) then 1 else 0)
  else if k = 4 then (s - gfirst a b c 0) / (2 + b + c) + (if 2 ≤ (s - gfirst a b c 0) % (2 + b + c) then 1 else 0)
  else if k = 5 then (s - gfirst a b c 0) / (2 + b + c) * b + (if (s - gfirst a b c 0) % (2 + b + c) ≤ 2 then 0 else if (s - gfirst a b c 0) % (2 + b + c) ≤ 2 + b then (s - gfirst a b c 0) % (2 + b + c) - 2 else b)
  else if k = 6 then (s - gfirst a b c 0) / (2 + b + c) * c + (if (s - gfirst a b c 0) % (2 + b + c) ≤ 2 + b then 0 else (s - gfirst a b c 0) % (2 + b + c) - 2 - b)
  else 0
theorem div_step {x L : Int} (hL : 0 < L) : ((x + 1) / L = x / L ∧ (x + 1) % L = x % L + 1 ∧ x % L + 1 < L) ∨ ((x + 1) / L = x / L + 1 ∧ (x + 1) % L = 0 ∧ x % L + 1 = L) := by
  have h1 := Int.mul_ediv_add_emod x L
  have h2 := Int.emod_lt_of_pos x hL
  have h3 := Int.emod_nonneg x (show L ≠ 0 by omega)
  by_cases h : x % L + 1 < L
  · left
    have e : x + 1 = (x % L + 1) + (x / L) * L := by rw [Int.mul_comm]; omega
    refine ⟨?_, ?_, h⟩
    · rw [e, Int.add_mul_ediv_right _ _ (by omega), Int.ediv_eq_zero_of_lt (by omega) h]
      omega
    · rw [e, Int.add_mul_emod_self_right, Int.emod_eq_of_lt (by omega) h]
  · right
    have e : x + 1 = (x / L + 1) * L := by rw [Int.add_mul, Int.mul_comm]; omega
    refine ⟨?_, ?_, by omega⟩
    · rw [e, Int.mul_ediv_cancel _ (by omega)]
    · rw [e, Int.mul_emod_left]
end Cw
