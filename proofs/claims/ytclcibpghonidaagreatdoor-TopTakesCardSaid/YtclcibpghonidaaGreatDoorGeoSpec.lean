/- What the program's package geom computes, as plain functions of integers; and the bounds of their numbers. No program in sight. -/
namespace Cw
/-- May a geometry be? -/
def Gok (a b c : Int) : Prop := 1 ≤ a ∧ a ≤ 4 ∧ 1 ≤ b ∧ b ≤ 32 ∧ 1 ≤ c ∧ c ≤ 64
instance (a b c : Int) : Decidable (Gok a b c) := by unfold Gok; infer_instance
def gcheck (a b c : Int) : Int := if Gok a b c then 0 else 4
def gmay (a b c : Int) : Bool := decide (Gok a b c)
def ginodes (a b c : Int) : Int := if Gok a b c then a * b else 0
def gregions (a b c : Int) : Int := if Gok a b c then a + a * b else 0
def gfirst (a b c k : Int) : Int := 2 + (a + a * b + 15) / 16 + k * (2 + b + c)
def gsize (a b c : Int) : Int := if Gok a b c then gfirst a b c a else 0
def gwithin (a b c n m : Int) : Int := if ¬ Gok a b c then 4 else if n < 0 ∨ m ≤ n then 1 else 0
/-- What a sector is: the kind, the number, the error. -/
def we (a b c s : Int) : Int := gwithin a b c s (gsize a b c)
def wk (a b c s : Int) : Int := if we a b c s ≠ 0 then 0 else if s < gfirst a b c 0 then (if s = 0 ∨ s = 1 then s else 2) else
  if 2 + b ≤ (s - gfirst a b c 0) % (2 + b + c) then 6 else if 2 ≤ (s - gfirst a b c 0) % (2 + b + c) then 5 else 3 + (s - gfirst a b c 0) % (2 + b + c)
def wn (a b c s : Int) : Int := if we a b c s ≠ 0 then 0 else if s < gfirst a b c 0 then (if s = 0 ∨ s = 1 then 0 else s - 2) else
  if 2 + b ≤ (s - gfirst a b c 0) % (2 + b + c) then (s - gfirst a b c 0) / (2 + b + c) * c + (s - gfirst a b c 0) % (2 + b + c) - 2 - b
  else if 2 ≤ (s - gfirst a b c 0) % (2 + b + c) then (s - gfirst a b c 0) / (2 + b + c) * b + (s - gfirst a b c 0) % (2 + b + c) - 2 + 1 else (s - gfirst a b c 0) / (2 + b + c)
def me (a b c k : Int) : Int := gwithin a b c k a
def mapAt (a b c k : Int) (blocks : Bool) : Int := if me a b c k ≠ 0 then 0 else if blocks then gfirst a b c k + 1 else gfirst a b c k
def ie (a b c n : Int) : Int := if gwithin a b c n (ginodes a b c + 1) ≠ 0 then gwithin a b c n (ginodes a b c + 1) else if n = 0 then 1 else 0
def ig (a b c n : Int) : Int := if ie a b c n ≠ 0 then 0 else (n - 1) / b
def ip (a b c n : Int) : Int := if ie a b c n ≠ 0 then 0 else (n - 1) % b
def is (a b c n : Int) : Int := if ie a b c n ≠ 0 then 0 else gfirst a b c ((n - 1) / b) + 2 + (n - 1) % b
def be (a b c k p : Int) : Int := if gwithin a b c k a ≠ 0 then gwithin a b c k a else gwithin a b c p c
def bs (a b c k p : Int) : Int := if be a b c k p ≠ 0 then 0 else gfirst a b c k + 2 + b + p
def pe (a b c s : Int) : Int := if we a b c s ≠ 0 then we a b c s else if wk a b c s ≠ 6 then 1 else 0
def pg (a b c s : Int) : Int := if pe a b c s ≠ 0 then 0 else wn a b c s / c
def pp (a b c s : Int) : Int := if pe a b c s ≠ 0 then 0 else wn a b c s % c
def te (a b c r : Int) : Int := gwithin a b c r (gregions a b c)
def ts (a b c r : Int) : Int := if te a b c r ≠ 0 then 0 else 2 + r / 16
def toff (a b c r : Int) : Int := if te a b c r ≠ 0 then 0 else r % 16 * 4
def re (a b c s : Int) : Int := if we a b c s ≠ 0 then we a b c s else if wk a b c s = 5 ∨ wk a b c s = 3 ∨ wk a b c s = 4 then 0 else 1
def rr (a b c s : Int) : Int := if we a b c s ≠ 0 then 0 else if wk a b c s = 5 then wn a b c s + (a - 1) else if wk a b c s = 3 ∨ wk a b c s = 4 then wn a b c s else 0

theorem ab_bd {a b c : Int} (h : Gok a b c) : 1 ≤ a * b ∧ a * b ≤ 128 := by
  obtain ⟨h1, h2, h3, h4, h5, h6⟩ := h
  have p1 : 1 * 1 ≤ a * b := Int.mul_le_mul h1 h3 (by omega) (by omega)
  have p2 : a * b ≤ 4 * 32 := Int.mul_le_mul h2 h4 (by omega) (by omega)
  omega
theorem kl_bd {a b c k : Int} (h : Gok a b c) (h0 : 0 ≤ k) (h1 : k ≤ 4) : 0 ≤ k * (2 + b + c) ∧ k * (2 + b + c) ≤ 392 := by
  obtain ⟨_, _, h3, h4, h5, h6⟩ := h
  have p1 : 0 ≤ k * (2 + b + c) := Int.mul_nonneg h0 (by omega)
  have p2 : k * (2 + b + c) ≤ 4 * 98 := Int.mul_le_mul h1 (by omega) (by omega) (by omega)
  omega
theorem first_bd {a b c k : Int} (h : Gok a b c) (h0 : 0 ≤ k) (h1 : k ≤ 4) : 3 ≤ gfirst a b c k ∧ gfirst a b c k ≤ 403 := by
  have := ab_bd h
  have := kl_bd h h0 h1
  obtain ⟨_, _, h3, h4, h5, h6⟩ := h
  unfold gfirst
  omega
theorem size_bd (a b c : Int) : 0 ≤ gsize a b c ∧ gsize a b c ≤ 403 := by
  unfold gsize
  split
  · rename_i h
    have := first_bd h (k := a) (by have := h.1; omega) h.2.1
    omega
  · omega
theorem regions_bd (a b c : Int) : 0 ≤ gregions a b c ∧ gregions a b c ≤ 132 := by
  unfold gregions
  split
  · rename_i h
    have := ab_bd h
    have := h.1
    have := h.2.1
    omega
  · omega
theorem inodes_bd (a b c : Int) : 0 ≤ ginodes a b c ∧ ginodes a b c ≤ 128 := by
  unfold ginodes
  split
  · rename_i h
    have := ab_bd h
    omega
  · omega
theorem within_ok {a b c n m : Int} (h : gwithin a b c n m = 0) : Gok a b c ∧ 0 ≤ n ∧ n < m := by
  unfold gwithin at h
  split at h
  · omega
  · rename_i h1
    split at h
    · omega
    · exact ⟨Decidable.not_not.1 h1, by omega, by omega⟩
theorem within_zero {a b c n m : Int} (h : Gok a b c) (h0 : 0 ≤ n) (h1 : n < m) : gwithin a b c n m = 0 := by
  unfold gwithin
  rw [if_neg (by simpa using h), if_neg (by omega)]
/-- Of a sector behind the table: its group, and its place there. -/
theorem high_bd {a b c s : Int} (h : Gok a b c) (h0 : gfirst a b c 0 ≤ s) (h1 : s < gsize a b c) :
    0 ≤ (s - gfirst a b c 0) / (2 + b + c) ∧ (s - gfirst a b c 0) / (2 + b + c) < a ∧ 0 ≤ (s - gfirst a b c 0) % (2 + b + c) ∧ (s - gfirst a b c 0) % (2 + b + c) < 2 + b + c := by
  have hL : 0 < 2 + b + c := by have := h.2.2.1; have := h.2.2.2.2.1; omega
  refine ⟨Int.ediv_nonneg (by omega) (by omega), ?_, Int.emod_nonneg _ (by omega), Int.emod_lt_of_pos _ hL⟩
  rw [Int.ediv_lt_iff_lt_mul hL]
  unfold gsize at h1
  rw [if_pos h] at h1
  unfold gfirst at *
  omega
theorem prod_bd {k a b m n : Int} (h0 : 0 ≤ k) (h1 : k < a) (ha : a ≤ m) (hb : 0 ≤ b) (hb2 : b ≤ n) (hn : 0 ≤ n) (hm : 0 ≤ m) : 0 ≤ k * b ∧ k * b ≤ m * n :=
  ⟨Int.mul_nonneg h0 hb, Int.mul_le_mul (by omega) hb2 hb hm⟩
theorem wn_bd (a b c s : Int) : 0 ≤ wn a b c s ∧ wn a b c s ≤ 400 := by
  unfold wn
  split
  · omega
  · rename_i h
    obtain ⟨hg, h0, h1⟩ := within_ok (a := a) (b := b) (c := c) (n := s) (m := gsize a b c) (by unfold we at h; omega)
    have hs := size_bd a b c
    split
    · split <;> omega
    · rename_i h2
      obtain ⟨k0, k1, r0, r1⟩ := high_bd hg (by omega) h1
      have hg' := hg
      obtain ⟨g1, g2, g3, g4, g5, g6⟩ := hg
      generalize (s - gfirst a b c 0) / (2 + b + c) = k at *
      generalize (s - gfirst a b c 0) % (2 + b + c) = r at *
      have p1 := prod_bd k0 k1 g2 (b := c) (by omega) g6 (by omega) (by omega)
      have p2 := prod_bd k0 k1 g2 (b := b) (by omega) g4 (by omega) (by omega)
      split
      · omega
      · split <;> omega
theorem w_low {a b c s : Int} (he : we a b c s = 0) (h : s < gfirst a b c 0) : wk a b c s = (if s = 0 ∨ s = 1 then s else 2) ∧ wn a b c s = (if s = 0 ∨ s = 1 then 0 else s - 2) := by
  unfold wk wn
  rw [he]
  simp [h]
theorem w_block {a b c s : Int} (he : we a b c s = 0) (h : gfirst a b c 0 ≤ s) (hr : 2 + b ≤ (s - gfirst a b c 0) % (2 + b + c)) :
    wk a b c s = 6 ∧ wn a b c s = (s - gfirst a b c 0) / (2 + b + c) * c + (s - gfirst a b c 0) % (2 + b + c) - 2 - b := by
  unfold wk wn
  rw [he]
  have : ¬ s < gfirst a b c 0 := by omega
  simp [this, hr]
theorem w_inode {a b c s : Int} (he : we a b c s = 0) (h : gfirst a b c 0 ≤ s) (hr : ¬ 2 + b ≤ (s - gfirst a b c 0) % (2 + b + c)) (hr2 : 2 ≤ (s - gfirst a b c 0) % (2 + b + c)) :
    wk a b c s = 5 ∧ wn a b c s = (s - gfirst a b c 0) / (2 + b + c) * b + (s - gfirst a b c 0) % (2 + b + c) - 2 + 1 := by
  unfold wk wn
  rw [he]
  have : ¬ s < gfirst a b c 0 := by omega
  simp [this, hr, hr2]
theorem w_map {a b c s : Int} (hb : 0 ≤ b) (he : we a b c s = 0) (h : gfirst a b c 0 ≤ s) (hr2 : ¬ 2 ≤ (s - gfirst a b c 0) % (2 + b + c)) :
    wk a b c s = 3 + (s - gfirst a b c 0) % (2 + b + c) ∧ wn a b c s = (s - gfirst a b c 0) / (2 + b + c) := by
  unfold wk wn
  rw [he]
  have h1 : ¬ s < gfirst a b c 0 := by omega
  have h2 : ¬ 2 + b ≤ (s - gfirst a b c 0) % (2 + b + c) := by omega
  simp [h1, h2, hr2]
theorem w_none {a b c s : Int} (he : we a b c s ≠ 0) : wk a b c s = 0 ∧ wn a b c s = 0 := by
  unfold wk wn
  simp [he]
end Cw
