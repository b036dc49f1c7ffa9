/- How many sectors of each kind there are; which sectors a region has. No program in sight. -/
import Derived.Test.YtgigbkgdbhikmaaFitsLaw
namespace Cw
theorem wk_low {a b c s : Int} (he : we a b c s = 0) (h : s < gfirst a b c 0) : wk a b c s = if s = 0 ∨ s = 1 then s else 2 := (w_low he h).1
theorem wk_high {a b c s q r : Int} (hg : Gok a b c) (he : we a b c s = 0) (h : gfirst a b c 0 ≤ s) (er : (s - gfirst a b c 0) % (2 + b + c) = r) : wk a b c s = if 2 + b ≤ r then 6 else if 2 ≤ r then 5 else 3 + r := by
  subst er
  by_cases hb : 2 + b ≤ (s - gfirst a b c 0) % (2 + b + c)
  · rw [if_pos hb, (w_block he h hb).1]
  · by_cases hi : 2 ≤ (s - gfirst a b c 0) % (2 + b + c)
    · rw [if_neg hb, if_pos hi, (w_inode he h hb hi).1]
    · rw [if_neg hb, if_neg hi, (w_map (by have := hg.2.2.1; omega) he h hi).1]

theorem cfm_step {a b c s k : Int} (hg : Gok a b c) (h0 : 0 ≤ s) (h1 : s < gsize a b c) (hk0 : 0 ≤ k) (hk6 : k ≤ 6) : cfm a b c k (s + 1) = cfm a b c k s + if wk a b c s = k then 1 else 0 := by
  have he := we_zero hg h0 h1
  have hf := (in_size hg (q := 0) (r := 0) (by omega) (by have := hg.1; omega) (by omega) (by have := hg.2.2.1; have := hg.2.2.2.2.1; omega)).2.2
  have hb1 := hg.2.2.1
  have hc1 := hg.2.2.2.2.1
  by_cases hl : s + 1 ≤ gfirst a b c 0
  · rw [cfm, cfm, if_pos hl, if_pos (show s ≤ gfirst a b c 0 by omega), wk_low he (by omega)]
    rcases (show k = 0 ∨ k = 1 ∨ k = 2 ∨ k = 3 ∨ k = 4 ∨ k = 5 ∨ k = 6 by omega) with rfl | rfl | rfl | rfl | rfl | rfl | rfl <;> simp only [reduceIte, Int.reduceEq] <;> (repeat' split) <;> omega
  · have hge : gfirst a b c 0 ≤ s := by omega
    have hL : 0 < 2 + b + c := by omega
    have hst := div_step (x := s - gfirst a b c 0) hL
    rw [show s - gfirst a b c 0 + 1 = s + 1 - gfirst a b c 0 by omega] at hst
    have hr0 := Int.emod_nonneg (s - gfirst a b c 0) (show 2 + b + c ≠ 0 by omega)
    have hwk := wk_high (q := 0) hg he hge rfl
    rw [hwk, cfm, cfm, if_neg hl]
    have hb2 : ∀ q : Int, (q + 1) * b = q * b + b := fun q => by rw [Int.add_mul, Int.one_mul]
    have hc2 : ∀ q : Int, (q + 1) * c = q * c + c := fun q => by rw [Int.add_mul, Int.one_mul]
    by_cases hs : s ≤ gfirst a b c 0
    · have e : s - gfirst a b c 0 = 0 := by omega
      rw [if_pos hs]
      rw [e] at hst ⊢
      rw [Int.zero_ediv, Int.zero_emod] at hst
      rw [Int.zero_emod]
      rcases hst with ⟨s1, s2, _⟩ | ⟨_, _, s3⟩
      · rw [s1, s2]
        rcases (show k = 0 ∨ k = 1 ∨ k = 2 ∨ k = 3 ∨ k = 4 ∨ k = 5 ∨ k = 6 by omega) with rfl | rfl | rfl | rfl | rfl | rfl | rfl <;> simp <;> (repeat' split) <;> omega
      · omega
    · rw [if_neg hs]
      generalize (s - gfirst a b c 0) / (2 + b + c) = q at *
      generalize (s - gfirst a b c 0) % (2 + b + c) = r at *
      rcases hst with ⟨s1, s2, s3⟩ | ⟨s1, s2, s3⟩
      · rw [s1, s2]
        rcases (show k = 0 ∨ k = 1 ∨ k = 2 ∨ k = 3 ∨ k = 4 ∨ k = 5 ∨ k = 6 by omega) with rfl | rfl | rfl | rfl | rfl | rfl | rfl <;> simp <;> (repeat' split) <;> omega
      · rw [s1, s2, hb2 q, hc2 q]
        rcases (show k = 0 ∨ k = 1 ∨ k = 2 ∨ k = 3 ∨ k = 4 ∨ k = 5 ∨ k = 6 by omega) with rfl | rfl | rfl | rfl | rfl | rfl | rfl <;> simp <;> (repeat' split) <;> omega

theorem cnt_cfm {a b c k : Int} (hg : Gok a b c) (hk0 : 0 ≤ k) (hk6 : k ≤ 6) : ∀ n : Nat, (n : Int) ≤ gsize a b c → cnt a b c k n = cfm a b c k n
  | 0, _ => by
    have hf := (in_size hg (q := 0) (r := 0) (by omega) (by have := hg.1; omega) (by omega) (by have := hg.2.2.1; have := hg.2.2.2.2.1; omega)).2.2
    rw [cnt, cfm, if_pos (by omega)]
    simp
  | n + 1, h => by
    have ih := cnt_cfm hg hk0 hk6 n (by omega)
    rw [cnt, ih, show ((n + 1 : Nat) : Int) = (n : Int) + 1 by omega, cfm_step hg (by omega) (by omega) hk0 hk6]

theorem cnt_all {a b c : Int} (hg : Gok a b c) (n : Nat) (hn : (n : Int) = gsize a b c) : cnt a b c 0 n = 1 ∧ cnt a b c 1 n = 1 ∧ cnt a b c 2 n = (gregions a b c + 15) / 16 ∧ cnt a b c 3 n = a ∧ cnt a b c 4 n = a ∧ cnt a b c 5 n = ginodes a b c ∧ cnt a b c 6 n = a * c := by
  have hb1 := hg.2.2.1
  have hc1 := hg.2.2.2.2.1
  have ha1 := hg.1
  have hz : gsize a b c = gfirst a b c 0 + a * (2 + b + c) := by rw [gsize, if_pos hg, first_add]
  have hp : 1 * (2 + b + c) ≤ a * (2 + b + c) := Int.mul_le_mul_of_nonneg_right (by omega) (by omega)
  have e1 : (gsize a b c - gfirst a b c 0) / (2 + b + c) = a := by rw [hz, show gfirst a b c 0 + a * (2 + b + c) - gfirst a b c 0 = a * (2 + b + c) by omega, Int.mul_ediv_cancel _ (by omega)]
  have e2 : (gsize a b c - gfirst a b c 0) % (2 + b + c) = 0 := by rw [hz, show gfirst a b c 0 + a * (2 + b + c) - gfirst a b c 0 = a * (2 + b + c) by omega, Int.mul_emod_left]
  have hnl : ¬ gsize a b c ≤ gfirst a b c 0 := by omega
  have ht : gfirst a b c 0 - 2 = (gregions a b c + 15) / 16 := by
    unfold gfirst gregions
    rw [if_pos hg]
    omega
  have hi : ginodes a b c = a * b := by rw [ginodes, if_pos hg]
  have key : ∀ k : Int, 0 ≤ k → k ≤ 6 → cnt a b c k n = cfm a b c k (gsize a b c) := fun k h0 h6 => by rw [cnt_cfm hg h0 h6 n (by omega), hn]
  rw [key 0 (by omega) (by omega), key 1 (by omega) (by omega), key 2 (by omega) (by omega), key 3 (by omega) (by omega), key 4 (by omega) (by omega), key 5 (by omega) (by omega), key 6 (by omega) (by omega)]
  simp only [cfm, if_neg hnl, e1, e2]
  rw [← ht, hi]
  simp
  omega

/-- The sectors of a region. -/
def Rs (a b c p s : Int) : Prop := (p < a ∧ (s = gfirst a b c p ∨ s = gfirst a b c p + 1)) ∨ (a ≤ p ∧ s = is a b c (p - a + 1))
theorem is_eq {a b c p : Int} (hg : Gok a b c) (h0 : a ≤ p) (h1 : p < gregions a b c) : ∃ q r : Int, 0 ≤ q ∧ q < a ∧ 0 ≤ r ∧ r < b ∧ p - a = q * b + r ∧ is a b c (p - a + 1) = gfirst a b c q + (2 + r) := by
  have hb1 := hg.2.2.1
  have ha1 := hg.1
  have hr : gregions a b c = a + a * b := by rw [gregions, if_pos hg]
  have hi : ginodes a b c = a * b := by rw [ginodes, if_pos hg]
  have hw : gwithin a b c (p - a + 1) (ginodes a b c + 1) = 0 := within_zero hg (by omega) (by omega)
  have i0 : ie a b c (p - a + 1) = 0 := by rw [ie, if_neg (by omega), if_neg (by omega)]
  have h2 := Int.mul_ediv_add_emod (p - a) b
  have h3 := Int.emod_nonneg (p - a) (show b ≠ 0 by omega)
  have h4 := Int.emod_lt_of_pos (p - a) (show 0 < b by omega)
  rw [Int.mul_comm] at h2
  refine ⟨(p - a) / b, (p - a) % b, Int.ediv_nonneg (by omega) (by omega), ?_, h3, h4, by omega, ?_⟩
  · rw [Int.ediv_lt_iff_lt_mul (by omega)]
    omega
  · rw [is, if_neg (by omega), show p - a + 1 - 1 = p - a by omega]
    omega
theorem region_iff {a b c p s : Int} (hg : Gok a b c) (hp0 : 0 ≤ p) (hp1 : p < gregions a b c) (h0 : 0 ≤ s) (h1 : s < gsize a b c) : (re a b c s = 0 ∧ rr a b c s = p) ↔ Rs a b c p s := by
  have he := we_zero hg h0 h1
  have hb1 := hg.2.2.1
  have hc1 := hg.2.2.2.2.1
  have bd := wk_bd he
  constructor
  · rintro ⟨r1, r2⟩
    have hk : wk a b c s = 5 ∨ wk a b c s = 3 ∨ wk a b c s = 4 := by
      rw [re, if_neg (by omega)] at r1
      split at r1
      · assumption
      · omega
    by_cases k5 : wk a b c s = 5
    · obtain ⟨i1, i2⟩ := inode_back he k5
      rw [rr, if_neg (by omega), if_pos k5] at r2
      obtain ⟨q, r, q0, q1, g0, g1, eq, er, es⟩ := high_at hg (by omega) h1
      have hi1 : 1 ≤ wn a b c s := by
        unfold ie at i1
        split at i1
        · omega
        · rename_i hz
          have hw : gwithin a b c (wn a b c s) (ginodes a b c + 1) = 0 := by omega
          have := (within_ok hw).2.1
          split at i1 <;> omega
      right
      exact ⟨by omega, by rw [show p - a + 1 = wn a b c s by omega]; exact i2.symm⟩
    · obtain ⟨m1, m2⟩ := map_back he (by omega)
      rw [rr, if_neg (by omega), if_neg k5, if_pos (by omega)] at r2
      rw [r2] at m1 m2
      have hlt := (within_ok m1).2.2
      rw [mapAt, if_neg (by omega)] at m2
      left
      refine ⟨hlt, ?_⟩
      split at m2
      · exact .inr m2.symm
      · exact .inl m2.symm
  · rintro (⟨hp, hs⟩ | ⟨hp, hs⟩)
    · obtain ⟨e, e0, e1, es⟩ : ∃ e : Int, 0 ≤ e ∧ e ≤ 1 ∧ s = gfirst a b c p + e := by
        rcases hs with h | h
        · exact ⟨0, by omega, by omega, by omega⟩
        · exact ⟨1, by omega, by omega, by omega⟩
      obtain ⟨d1, d2⟩ := high_mk hg (q := p) (r := e) e0 (by omega)
      obtain ⟨z1, _, _⟩ := in_size hg (q := p) (r := e) hp0 hp e0 (by omega)
      rw [← es] at d1 d2 z1
      obtain ⟨k1, n1⟩ := w_map (by omega) he z1 (by omega)
      rw [d2] at k1
      rw [d1] at n1
      refine ⟨?_, ?_⟩
      · rw [re, if_neg (by omega), if_pos (by omega)]
      · rw [rr, if_neg (by omega), if_neg (by omega), if_pos (by omega), n1]
    · obtain ⟨q, r, q0, q1, r0, r1, e1, e2⟩ := is_eq hg hp hp1
      rw [e2] at hs
      obtain ⟨d1, d2⟩ := high_mk hg (q := q) (r := 2 + r) (by omega) (by omega)
      obtain ⟨z1, _, _⟩ := in_size hg (q := q) (r := 2 + r) q0 q1 (by omega) (by omega)
      rw [← hs] at d1 d2 z1
      obtain ⟨k1, n1⟩ := w_inode he z1 (by omega) (by omega)
      rw [d1, d2] at n1
      refine ⟨?_, ?_⟩
      · rw [re, if_neg (by omega), if_pos (by omega)]
      · rw [rr, if_neg (by omega), if_pos k1, n1]
        omega
/-- How many sectors of a region there are ahead of a sector. -/
def rcn (a b c p : Int) : Nat → Int
  | 0 => 0
  | n + 1 => rcn a b c p n + if re a b c n = 0 ∧ rr a b c n = p then 1 else 0
theorem rcn_eq {a b c p : Int} (hg : Gok a b c) (hp0 : 0 ≤ p) (hp1 : p < gregions a b c) : ∀ n : Nat, (n : Int) ≤ gsize a b c → rcn a b c p n = if p < a then (if gfirst a b c p < n then 1 else 0) + (if gfirst a b c p + 1 < n then 1 else 0) else if is a b c (p - a + 1) < n then 1 else 0
  | 0, _ => by
    rw [rcn]
    by_cases hp : p < a
    · have := (in_size hg (q := p) (r := 0) hp0 hp (by omega) (by have := hg.2.2.1; have := hg.2.2.2.2.1; omega))
      rw [if_pos hp, if_neg (by omega), if_neg (by omega)]
      rfl
    · obtain ⟨q, r, q0, q1, r0, r1, e1, e2⟩ := is_eq hg (by omega) hp1
      have := (in_size hg (q := q) (r := 2 + r) q0 q1 (by omega) (by have := hg.2.2.1; have := hg.2.2.2.2.1; omega))
      rw [if_neg hp, if_neg (by omega)]
  | n + 1, h => by
    have ih := rcn_eq hg hp0 hp1 n (by omega)
    have hi := region_iff hg hp0 hp1 (s := (n : Int)) (by omega) (by omega)
    rw [rcn, ih]
    simp only [hi, Rs]
    by_cases hp : p < a
    · simp only [if_pos hp]
      have e : ((n + 1 : Nat) : Int) = (n : Int) + 1 := by omega
      rw [e]
      (repeat' split) <;> omega
    · simp only [if_neg hp]
      have e : ((n + 1 : Nat) : Int) = (n : Int) + 1 := by omega
      rw [e]
      (repeat' split) <;> omega
theorem rcn_all {a b c p : Int} (hg : Gok a b c) (hp0 : 0 ≤ p) (hp1 : p < gregions a b c) (n : Nat) (hn : (n : Int) = gsize a b c) : rcn a b c p n = if p < a then 2 else 1 := by
  rw [rcn_eq hg hp0 hp1 n (by omega)]
  have hb := hg.2.2.1
  have hc := hg.2.2.2.2.1
  by_cases hp : p < a
  · have := (in_size hg (q := p) (r := 1) hp0 hp (by omega) (by omega))
    rw [if_pos hp, if_pos hp, if_pos (by omega), if_pos (by omega)]
    rfl
  · obtain ⟨q, r, q0, q1, r0, r1, e1, e2⟩ := is_eq hg (by omega) hp1
    have := (in_size hg (q := q) (r := 2 + r) q0 q1 (by omega) (by omega))
    rw [if_neg hp, if_neg hp, if_pos (by omega)]
/-- A region's place in the table is a sector of the table. -/
theorem table_kind {a b c p : Int} (hg : Gok a b c) (hp0 : 0 ≤ p) (hp1 : p < gregions a b c) : te a b c p = 0 ∧ ts a b c p = 2 + p / 16 ∧ toff a b c p = p % 16 * 4 ∧ we a b c (2 + p / 16) = 0 ∧ wk a b c (2 + p / 16) = 2 := by
  have t0 : te a b c p = 0 := within_zero hg hp0 hp1
  have ha := hg.1
  have hr : gregions a b c = a + a * b := by rw [gregions, if_pos hg]
  have hf : 2 + p / 16 < gfirst a b c 0 := by
    unfold gfirst
    rw [Int.zero_mul]
    omega
  have hs := in_size hg (q := 0) (r := 0) (by omega) (by omega) (by omega) (by have := hg.2.2.1; have := hg.2.2.2.2.1; omega)
  have he := we_zero hg (s := 2 + p / 16) (by omega) (by omega)
  refine ⟨t0, by rw [ts, if_neg (by omega)], by rw [toff, if_neg (by omega)], he, ?_⟩
  rw [wk_low he hf, if_neg (by omega)]
end Cw
