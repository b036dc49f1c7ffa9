/- Of each kind the sectors' numbers rise; each group lies behind the one ahead of it. No program in sight. -/
import Derived.Test.YtigaallhjlmhbaaGeoSpec
namespace Cw
theorem lex_lt {q q' r r' m lo : Int} (hm : 0 ≤ m) (h : q' < q ∨ (q' = q ∧ r' < r)) (h1 : lo ≤ r) (h2 : r' < lo + m) : q' * m + r' < q * m + r := by
  rcases h with h | ⟨rfl, h⟩
  · have : (q' + 1) * m ≤ q * m := Int.mul_le_mul_of_nonneg_right (by omega) hm
    rw [Int.add_mul] at this
    omega
  · omega
theorem div_lt_or {x y L : Int} (hL : 0 < L) (h : x < y) : x / L < y / L ∨ (x / L = y / L ∧ x % L < y % L) := by
  have h1 := Int.mul_ediv_add_emod x L
  have h2 := Int.mul_ediv_add_emod y L
  have h3 := Int.emod_lt_of_pos x hL
  have h4 := Int.emod_nonneg y (show L ≠ 0 by omega)
  have h5 : x / L ≤ y / L := Int.ediv_le_ediv hL (by omega)
  rcases Int.lt_or_eq_of_le h5 with h6 | h6
  · exact .inl h6
  · refine .inr ⟨h6, ?_⟩
    rw [h6] at h1
    omega
theorem wk_bd {a b c s : Int} (he : we a b c s = 0) : 0 ≤ wk a b c s ∧ wk a b c s ≤ 6 ∧ (s < gfirst a b c 0 ↔ wk a b c s ≤ 2) := by
  obtain ⟨hg, h0, h1⟩ := within_ok (a := a) (b := b) (c := c) (n := s) (m := gsize a b c) (by unfold we at he; omega)
  by_cases hl : s < gfirst a b c 0
  · have := (w_low he hl).1
    rw [this]
    split <;> omega
  · obtain ⟨k0, k1, r0, r1⟩ := high_bd hg (by omega) h1
    by_cases hb : 2 + b ≤ (s - gfirst a b c 0) % (2 + b + c)
    · have := (w_block he (by omega) hb).1
      omega
    · by_cases hi : 2 ≤ (s - gfirst a b c 0) % (2 + b + c)
      · have := (w_inode he (by omega) hb hi).1
        omega
      · have := (w_map (by have := hg.2.2.1; omega) he (by omega) hi).1
        omega
theorem wn_rises {a b c s s' : Int} (he : we a b c s = 0) (he' : we a b c s' = 0) (hlt : s' < s) (hk : wk a b c s' = wk a b c s) : wn a b c s' < wn a b c s := by
  obtain ⟨hg, h0, h1⟩ := within_ok (a := a) (b := b) (c := c) (n := s) (m := gsize a b c) (by unfold we at he; omega)
  obtain ⟨_, h0', h1'⟩ := within_ok (a := a) (b := b) (c := c) (n := s') (m := gsize a b c) (by unfold we at he'; omega)
  have b1 := wk_bd he
  have b2 := wk_bd he'
  have hg' := hg
  obtain ⟨g1, g2, g3, g4, g5, g6⟩ := hg'
  by_cases hl : s < gfirst a b c 0
  · obtain ⟨k1, n1⟩ := w_low he hl
    obtain ⟨k2, n2⟩ := w_low he' (by omega)
    rw [k1, k2] at hk
    rw [n1, n2]
    split at hk <;> split at hk <;> (first | rw [if_pos (by assumption)] | rw [if_neg (by assumption)]) <;> (first | rw [if_pos (by assumption)] | rw [if_neg (by assumption)] | skip) <;> omega
  · have hl' : ¬ s' < gfirst a b c 0 := by omega
    obtain ⟨q0, q1, r0, r1⟩ := high_bd hg (by omega) h1
    obtain ⟨q0', q1', r0', r1'⟩ := high_bd hg (by omega) h1'
    have hd := div_lt_or (show 0 < 2 + b + c by omega) (show s' - gfirst a b c 0 < s - gfirst a b c 0 by omega)
    have wb := fun h => w_block he (by omega) h
    have wi := fun h h2 => w_inode he (by omega) h h2
    have wm := fun h => w_map (by omega) he (by omega) h
    have wb' := fun h => w_block he' (by omega) h
    have wi' := fun h h2 => w_inode he' (by omega) h h2
    have wm' := fun h => w_map (by omega) he' (by omega) h
    generalize (s - gfirst a b c 0) / (2 + b + c) = q at *
    generalize (s - gfirst a b c 0) % (2 + b + c) = r at *
    generalize (s' - gfirst a b c 0) / (2 + b + c) = q' at *
    generalize (s' - gfirst a b c 0) % (2 + b + c) = r' at *
    by_cases hb : 2 + b ≤ r
    · obtain ⟨k1, n1⟩ := wb hb
      by_cases hb' : 2 + b ≤ r'
      · obtain ⟨k2, n2⟩ := wb' hb'
        have := lex_lt (m := c) (lo := 2 + b) (by omega) hd hb (by omega)
        rw [n1, n2]
        omega
      · by_cases hi' : 2 ≤ r'
        · have := (wi' hb' hi').1
          omega
        · have := (wm' hi').1
          omega
    · by_cases hi : 2 ≤ r
      · obtain ⟨k1, n1⟩ := wi hb hi
        by_cases hb' : 2 + b ≤ r'
        · have := (wb' hb').1
          omega
        · by_cases hi' : 2 ≤ r'
          · obtain ⟨k2, n2⟩ := wi' hb' hi'
            have := lex_lt (m := b) (lo := 2) (by omega) hd hi (by omega)
            rw [n1, n2]
            omega
          · have := (wm' hi').1
            omega
      · obtain ⟨k1, n1⟩ := wm hi
        by_cases hb' : 2 + b ≤ r'
        · have := (wb' hb').1
          omega
        · by_cases hi' : 2 ≤ r'
          · have := (wi' hb' hi').1
            omega
          · obtain ⟨k2, n2⟩ := wm' hi'
            rw [n1, n2]
            omega
theorem next_group {a b c k : Int} : gfirst a b c (k - 1) + 2 + b + (c - 1) + 1 = gfirst a b c k := by
  have : (k - 1) * (2 + b + c) = k * (2 + b + c) - (2 + b + c) := by rw [Int.sub_mul]; omega
  unfold gfirst
  omega
end Cw
