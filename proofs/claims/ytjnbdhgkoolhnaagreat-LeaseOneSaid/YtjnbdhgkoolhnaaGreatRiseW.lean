/- Of each kind the sectors' numbers rise; each group lies behind the one ahead of it. No program in sight. -/
import Derived.Test.YtjnbdhgkoolhnaaGreatGeoSpec
import Derived.Test.YtjnbdhgkoolhnaaGreatGeomW
import Derived.Test.YtjnbdhgkoolhnaaGreatWireW
namespace Cw
theorem lex_lt {q q' r r' m lo : Int} (hm : 0 ≤ m) (h : q' < q ∨ (q' = q ∧ r' < r)) (h1 : lo ≤ r) (h2 : r' < lo + m) : q' * m + r' < q * m + r := by
  rcases h with h | ⟨rfl, h⟩
  · have : (q' + 1) * m ≤ q * m := Int.mul_le_mul_of_nonneg_right (by omega) hm
    rw [Int.add_mul] at this
    omega
  · omega
theorem div_lt_or {x y L : Int} (hL : 0 < L) (h : x < y) : x / L < y / L ∨ (x / L = y / L ∧ x % L < y % L) := by
  have h1 := Int.mul_ediv_add_emod x L
  have h2 := Int.mul_ediv_add_emod y L
  have h3 := Int.emod_lt_of_pos x hL
  have h4 := Int.emod_nonneg y (show L ≠ 0 by omega)
  have h5 : x / L ≤ y / L := Int.ediv_le_ediv hL (by omega)
  rcases Int.lt_or_eq_of_le h5 with h6 | h6
  · exact .inl h6
  · refine .inr ⟨h6, ?_⟩
    rw [h6] at h1
    omega
theorem wk_bd {a b c s : Int} (he : we a b c s = 0) : 0 ≤ wk a b c s ∧ wk a b c s ≤ 6 ∧ (s < gfirst a b c 0 ↔ wk a b c s ≤ 2) := by
  obtain ⟨hg, h0, h1⟩ := within_ok (a := a) (b := b) (c := c) (n := s) (m := gsize a b c) (by unfold we at he; omega)
  by_cases hl : s < gfirst a b c 0
  · have := (w_low he hl).1
    rw [this]
    split <;> omega
  · obtain ⟨k0, k1, r0, r1⟩ := high_bd hg (by omega) h1
    by_cases hb : 2 + b ≤ (s - gfirst a b c 0) % (2 + b + c)
    · have := (w_block he (by omega) hb).1
      omega
    · by_cases hi : 2 ≤ (s - gfirst a b c 0) % (2 + b + c)
      · have := (w_inode he (by omega) hb hi).1
        omega
      · have := (w_map (by have := hg.2.2.1; omega) he (by omega) hi).1
        omega
theorem wn_rises {a b c s s' : Int} (he : we a b c s = 0) (he' : we a b c s' = 0) (hlt : s' < s) (hk : wk a b c s' = wk a b c s) : wn a b c s' < wn a b c s := by
  obtain ⟨hg, h0, h1⟩ := within_ok (a := a) (b := b) (c := c) (n := s) (m := gsize a b c) (by unfold we at he; omega)
  obtain ⟨_, h0', h1'⟩ := within_ok (a := a) (b := b) (c := c) (n := s') (m := gsize a b c) (by unfold we at he'; omega)
  have b1 := wk_bd he
  have b2 := wk_bd he'
  have hg' := hg
  obtain ⟨g1, g2, g3, g4, g5, g6⟩ := hg'
  by_cases hl : s < gfirst a b c 0
  · obtain ⟨k1, n1⟩ := w_low he hl
    obtain ⟨k2, n2⟩ := w_low he' (by omega)
    rw [k1, k2] at hk
    rw [n1, n2]
    split at hk <;> split at hk <;> (first | rw [if_pos (by assumption)] | rw [if_neg (by assumption)]) <;> (first | rw [if_pos (by assumption)] | rw [if_neg (by assumption)] | skip) <;> omega
  · have hl' : ¬ s' < gfirst a b c 0 := by omega
    obtain ⟨q0, q1, r0, r1⟩ := high_bd hg (by omega) h1
    obtain ⟨q0', q1', r0', r1'⟩ := high_bd hg (by omega) h1'
    have hd := div_lt_or (show 0 < 2 + b + c by omega) (show s' - gfirst a b c 0 < s - gfirst a b c 0 by omega)
    have wb := fun h => w_block he (by omega) h
    have wi := fun h h2 => w_inode he (by omega) h h2
    have wm := fun h => w_map (by omega) he (by omega) h
    have wb' := fun h => w_block he' (by omega) h
    have wi' := fun h h2 => w_inode he' (by omega) h h2
    have wm' := fun h => w_map (by omega) he' (by omega) h
    generalize (s - gfirst a b c 0) / (2 + b + c) = q at *
    generalize (s - gfirst a b c 0) % (2 + b + c) = r at *
    generalize (s' - gfirst a b c 0) / (2 + b + c) = q' at *
    generalize (s' - gfirst a b c 0) % (2 + b + c) = r' at *
    by_cases hb : 2 + b ≤ r
    · obtain ⟨k1, n1⟩ := wb hb
      by_cases hb' : 2 + b ≤ r'
      · obtain ⟨k2, n2⟩ := wb' hb'
        have := lex_lt (m := c) (lo := 2 + b) (by omega) hd hb (by omega)
        rw [n1, n2]
        omega
      · by_cases hi' : 2 ≤ r'
        · have := (wi' hb' hi').1
          omega
        · have := (wm' hi').1
          omega
    · by_cases hi : 2 ≤ r
      · obtain ⟨k1, n1⟩ := wi hb hi
        by_cases hb' : 2 + b ≤ r'
        · have := (wb' hb').1
          omega
        · by_cases hi' : 2 ≤ r'
          · obtain ⟨k2, n2⟩ := wi' hb' hi'
            have := lex_lt (m := b) (lo := 2) (by omega) hd hi (by omega)
            rw [n1, n2]
            omega
          · have := (wm' hi').1
            omega
      · obtain ⟨k1, n1⟩ := wm hi
        by_cases hb' : 2 + b ≤ r'
        · have := (wb' hb').1
          omega
        · by_cases hi' : 2 ≤ r'
          · have := (wi' hb' hi').1
            omega
          · obtain ⟨k2, n2⟩ := wm' hi'
            rw [n1, n2]
            omega
theorem next_group {a b c k : Int} : gfirst a b c (k - 1) + 2 + b + (c - 1) + 1 = gfirst a b c k := by
  have : (k - 1) * (2 + b + c) = k * (2 + b + c) - (2 + b + c) := by rw [Int.sub_mul]; omega
  unfold gfirst
  omega
end Cw
namespace Cw
theorem first_add (a b c k : Int) : gfirst a b c k = gfirst a b c 0 + k * (2 + b + c) := by
  unfold gfirst
  rw [Int.zero_mul]
  omega
/-- A sector behind the table, by its group and its place there. -/
theorem high_at {a b c s : Int} (hg : Gok a b c) (h0 : gfirst a b c 0 ≤ s) (h1 : s < gsize a b c) : ∃ q r : Int, 0 ≤ q ∧ q < a ∧ 0 ≤ r ∧ r < 2 + b + c ∧ (s - gfirst a b c 0) / (2 + b + c) = q ∧ (s - gfirst a b c 0) % (2 + b + c) = r ∧ s = gfirst a b c q + r := by
  obtain ⟨q0, q1, r0, r1⟩ := high_bd hg h0 h1
  refine ⟨_, _, q0, q1, r0, r1, rfl, rfl, ?_⟩
  rw [first_add]
  have h := Int.mul_ediv_add_emod (s - gfirst a b c 0) (2 + b + c)
  rw [Int.mul_comm] at h
  omega
theorem high_mk {a b c q r : Int} (hg : Gok a b c) (r0 : 0 ≤ r) (r1 : r < 2 + b + c) : (gfirst a b c q + r - gfirst a b c 0) / (2 + b + c) = q ∧ (gfirst a b c q + r - gfirst a b c 0) % (2 + b + c) = r := by
  have hL : 0 < 2 + b + c := by have := hg.2.2.1; have := hg.2.2.2.2.1; omega
  have e : gfirst a b c q + r - gfirst a b c 0 = r + q * (2 + b + c) := by rw [first_add]; omega
  rw [e]
  constructor
  · rw [Int.add_mul_ediv_right _ _ (by omega), Int.ediv_eq_zero_of_lt r0 r1]
    omega
  · rw [Int.add_mul_emod_self_right, Int.emod_eq_of_lt r0 r1]
theorem in_size {a b c q r : Int} (hg : Gok a b c) (q0 : 0 ≤ q) (q1 : q < a) (r0 : 0 ≤ r) (r1 : r < 2 + b + c) : gfirst a b c 0 ≤ gfirst a b c q + r ∧ gfirst a b c q + r < gsize a b c ∧ 2 ≤ gfirst a b c 0 := by
  have hL : 0 < 2 + b + c := by have := hg.2.2.1; have := hg.2.2.2.2.1; omega
  have h1 : (q + 1) * (2 + b + c) ≤ a * (2 + b + c) := Int.mul_le_mul_of_nonneg_right (by omega) (by omega)
  have h2 : 0 ≤ q * (2 + b + c) := Int.mul_nonneg q0 (by omega)
  rw [Int.add_mul] at h1
  have h3 := first_bd hg (k := 0) (by omega) (by omega)
  unfold gsize
  rw [if_pos hg, first_add a b c q, first_add a b c a]
  omega
theorem we_zero {a b c s : Int} (hg : Gok a b c) (h0 : 0 ≤ s) (h1 : s < gsize a b c) : we a b c s = 0 := within_zero hg h0 h1

theorem map_back {a b c s : Int} (he : we a b c s = 0) (hk : wk a b c s = 3 ∨ wk a b c s = 4) : me a b c (wn a b c s) = 0 ∧ mapAt a b c (wn a b c s) (decide (wk a b c s = 4)) = s := by
  obtain ⟨hg, h0, h1⟩ := within_ok (a := a) (b := b) (c := c) (n := s) (m := gsize a b c) (by unfold we at he; omega)
  have bd := wk_bd he
  obtain ⟨q, r, q0, q1, r0, r1, eq, er, es⟩ := high_at hg (by omega) h1
  have hr : r < 2 := by
    by_cases hb : 2 + b ≤ r
    · have := (w_block he (by omega) (by omega)).1
      omega
    · by_cases hi : 2 ≤ r
      · have := (w_inode he (by omega) (by omega) (by omega)).1
        omega
      · omega
  obtain ⟨k1, n1⟩ := w_map (by have := hg.2.2.1; omega) he (by omega) (by omega)
  rw [er] at k1
  rw [eq] at n1
  have m0 : me a b c q = 0 := within_zero hg q0 q1
  rw [n1, k1, mapAt, if_neg (by omega)]
  refine ⟨m0, ?_⟩
  by_cases e : r = 1
  · rw [if_pos (by simp [e])]
    omega
  · rw [if_neg (by simp; omega)]
    omega
theorem inode_back {a b c s : Int} (he : we a b c s = 0) (hk : wk a b c s = 5) : ie a b c (wn a b c s) = 0 ∧ is a b c (wn a b c s) = s := by
  obtain ⟨hg, h0, h1⟩ := within_ok (a := a) (b := b) (c := c) (n := s) (m := gsize a b c) (by unfold we at he; omega)
  have bd := wk_bd he
  obtain ⟨q, r, q0, q1, r0, r1, eq, er, es⟩ := high_at hg (by omega) h1
  have hb0 : 0 < b := by have := hg.2.2.1; omega
  have hr : ¬ 2 + b ≤ r ∧ 2 ≤ r := by
    by_cases hb : 2 + b ≤ r
    · have := (w_block he (by omega) (by omega)).1
      omega
    · by_cases hi : 2 ≤ r
      · exact ⟨hb, hi⟩
      · have := (w_map (by omega) he (by omega) (by omega)).1
        omega
  obtain ⟨k1, n1⟩ := w_inode he (by omega) (by omega) (by omega)
  rw [er, eq] at n1
  have p1 : 0 ≤ q * b := Int.mul_nonneg q0 (by omega)
  have p2 : (q + 1) * b ≤ a * b := Int.mul_le_mul_of_nonneg_right (by omega) (by omega)
  rw [Int.add_mul] at p2
  have hin : ginodes a b c = a * b := by rw [ginodes, if_pos hg]
  have d1 : (wn a b c s - 1) / b = q := by
    rw [n1, show q * b + r - 2 + 1 - 1 = (r - 2) + q * b by omega, Int.add_mul_ediv_right _ _ (by omega), Int.ediv_eq_zero_of_lt (by omega) (by omega)]
    omega
  have d2 : (wn a b c s - 1) % b = r - 2 := by
    rw [n1, show q * b + r - 2 + 1 - 1 = (r - 2) + q * b by omega, Int.add_mul_emod_self_right, Int.emod_eq_of_lt (by omega) (by omega)]
  have i0 : ie a b c (wn a b c s) = 0 := by
    have hw : gwithin a b c (wn a b c s) (ginodes a b c + 1) = 0 := within_zero hg (by omega) (by omega)
    rw [ie, if_neg (by omega), if_neg (by omega)]
  refine ⟨i0, ?_⟩
  rw [is, if_neg (by omega), d1, d2]
  omega
theorem block_back {a b c s : Int} (he : we a b c s = 0) (hk : wk a b c s = 6) : pe a b c s = 0 ∧ pg a b c s * c + pp a b c s = wn a b c s ∧ be a b c (pg a b c s) (pp a b c s) = 0 ∧ bs a b c (pg a b c s) (pp a b c s) = s ∧ 0 ≤ pg a b c s ∧ pg a b c s < a ∧ 0 ≤ pp a b c s ∧ pp a b c s < c := by
  obtain ⟨hg, h0, h1⟩ := within_ok (a := a) (b := b) (c := c) (n := s) (m := gsize a b c) (by unfold we at he; omega)
  have bd := wk_bd he
  obtain ⟨q, r, q0, q1, r0, r1, eq, er, es⟩ := high_at hg (by omega) h1
  have hb0 : 0 < b := by have := hg.2.2.1; omega
  have hr : 2 + b ≤ r := by
    by_cases hb : 2 + b ≤ r
    · exact hb
    · by_cases hi : 2 ≤ r
      · have := (w_inode he (by omega) (by omega) (by omega)).1
        omega
      · have := (w_map (by omega) he (by omega) (by omega)).1
        omega
  obtain ⟨k1, n1⟩ := w_block he (by omega) (by omega)
  rw [er, eq] at n1
  have pe0 : pe a b c s = 0 := by rw [pe, if_neg (by omega), if_neg (by omega)]
  have d1 : wn a b c s / c = q := by
    rw [n1, show q * c + r - 2 - b = (r - 2 - b) + q * c by omega, Int.add_mul_ediv_right _ _ (by omega), Int.ediv_eq_zero_of_lt (by omega) (by omega)]
    omega
  have d2 : wn a b c s % c = r - 2 - b := by
    rw [n1, show q * c + r - 2 - b = (r - 2 - b) + q * c by omega, Int.add_mul_emod_self_right, Int.emod_eq_of_lt (by omega) (by omega)]
  have g1 : pg a b c s = q := by rw [pg, if_neg (by omega), d1]
  have g2 : pp a b c s = r - 2 - b := by rw [pp, if_neg (by omega), d2]
  have w1 : gwithin a b c q a = 0 := within_zero hg q0 q1
  have w2 : gwithin a b c (r - 2 - b) c = 0 := within_zero hg (by omega) (by omega)
  have b0 : be a b c q (r - 2 - b) = 0 := by rw [be, if_neg (by omega), w2]
  rw [g1, g2, n1]
  refine ⟨pe0, by omega, b0, ?_, by omega, by omega, by omega, by omega⟩
  rw [bs, if_neg (by omega)]
  omega

/-- How many of a kind there are ahead of a sector, counted. -/
def cnt (a b c k : Int) : Nat → Int
  | 0 => 0
  | n + 1 => cnt a b c k n + if wk a b c n = k then 1 else 0
/-- The same, reckoned. -/
def cfm (a b c k s : Int) : Int :=
  if s ≤ gfirst a b c 0 then (if k = 0 then (if 1 ≤ s then 1 else 0) else if k = 1 then (if 2 ≤ s then 1 else 0) else if k = 2 then (if 2 ≤ s then s - 2 else 0) else 0)
  else if k = 0 ∨ k = 1 then 1 else if k = 2 then gfirst a b c 0 - 2
  else if k = 3 then (s - gfirst a b c 0) / (2 + b + c) + (if 1 ≤ (s - gfirst a b c 0) % (2 + b + c) then 1 else 0)
  else if k = 4 then (s - gfirst a b c 0) / (2 + b + c) + (if 2 ≤ (s - gfirst a b c 0) % (2 + b + c) then 1 else 0)
  else if k = 5 then (s - gfirst a b c 0) / (2 + b + c) * b + (if (s - gfirst a b c 0) % (2 + b + c) ≤ 2 then 0 else if (s - gfirst a b c 0) % (2 + b + c) ≤ 2 + b then (s - gfirst a b c 0) % (2 + b + c) - 2 else b)
  else if k = 6 then (s - gfirst a b c 0) / (2 + b + c) * c + (if (s - gfirst a b c 0) % (2 + b + c) ≤ 2 + b then 0 else (s - gfirst a b c 0) % (2 + b + c) - 2 - b)
  else 0
theorem div_step {x L : Int} (hL : 0 < L) : ((x + 1) / L = x / L ∧ (x + 1) % L = x % L + 1 ∧ x % L + 1 < L) ∨ ((x + 1) / L = x / L + 1 ∧ (x + 1) % L = 0 ∧ x % L + 1 = L) := by
  have h1 := Int.mul_ediv_add_emod x L
  have h2 := Int.emod_lt_of_pos x hL
  have h3 := Int.emod_nonneg x (show L ≠ 0 by omega)
  by_cases h : x % L + 1 < L
  · left
    have e : x + 1 = (x % L + 1) + (x / L) * L := by rw [Int.mul_comm]; omega
    refine ⟨?_, ?_, h⟩
    · rw [e, Int.add_mul_ediv_right _ _ (by omega), Int.ediv_eq_zero_of_lt (by omega) h]
      omega
    · rw [e, Int.add_mul_emod_self_right, Int.emod_eq_of_lt (by omega) h]
  · right
    have e : x + 1 = (x / L + 1) * L := by rw [Int.add_mul, Int.mul_comm]; omega
    refine ⟨?_, ?_, by omega⟩
    · rw [e, Int.mul_ediv_cancel _ (by omega)]
    · rw [e, Int.mul_emod_left]
end Cw
namespace Cw
open Go Go.RowKit Go.IntWalk
open Go.Proofs

def L7 (f : Nat → Int) : Array Value := #[.int .i64 (f 0), .int .i64 (f 1), .int .i64 (f 2), .int .i64 (f 3), .int .i64 (f 4), .int .i64 (f 5), .int .i64 (f 6)]
def put7 (f : Nat → Int) (k : Nat) (v : Int) : Nat → Int := fun j => if j = k then v else f j
theorem L7_set (f : Nat → Int) (k : Nat) (v : Int) (h : k ≤ 6) : (L7 f).setIfInBounds k (.int .i64 v) = L7 (put7 f k v) := by
  rcases (show k = 0 ∨ k = 1 ∨ k = 2 ∨ k = 3 ∨ k = 4 ∨ k = 5 ∨ k = 6 by omega) with rfl | rfl | rfl | rfl | rfl | rfl | rfl <;> rfl
/-- What the list of the last numbers says. -/
def Ris (a b c : Int) (f : Nat → Int) (k : Nat) : Prop := ∀ j : Nat, j ≤ 6 → f j = -1 ∨ ∃ s : Nat, s < k ∧ we a b c s = 0 ∧ wk a b c s = j ∧ f j = wn a b c s
theorem ris_lt {a b c : Int} {f : Nat → Int} {k j : Nat} (h : Ris a b c f k) (hj : j ≤ 6) (he : we a b c k = 0) (hk : wk a b c k = j) : f j < wn a b c k := by
  have := wn_bd a b c k
  rcases h j hj with e | ⟨s, h1, h2, h3, h4⟩
  · omega
  · rw [h4]
    exact wn_rises he h2 (by omega) (by omega)
theorem ris_put {a b c : Int} {f : Nat → Int} {k j : Nat} (h : Ris a b c f k) (he : we a b c k = 0) (hk : wk a b c k = j) : Ris a b c (put7 f j (wn a b c k)) (k + 1) := by
  intro i hi
  by_cases e : i = j
  · subst e
    exact .inr ⟨k, by omega, he, hk, by simp [put7]⟩
  · rcases h i hi with e1 | ⟨s, h1, h2, h3, h4⟩
    · exact .inl (by simp [put7, e, e1])
    · exact .inr ⟨s, by omega, h2, h3, by simp [put7, e, h4]⟩

theorem heap_set_ne {w : World} {g h i : Nat} {v : Value} {x : Option Obj} (hne : h ≠ g) (hX : w.heap[h]? = x) : (w.setCell ⟨g, i, none⟩ v).heap[h]? = x := (Below.heap_setCell w ⟨g, i, none⟩ v h hne).trans hX
theorem heap_alloc_lt {w : World} {h : Nat} {o x : Obj} (hX : w.heap[h]? = some x) : (w.alloc o).heap[h]? = some x := (Below.heap_alloc w o h (blk_lt hX)).trans hX
theorem we_group {a b c : Int} (hg : Gok a b c) (k : Nat) (h1 : 1 ≤ k) (h2 : (k : Int) < a) : be a b c ((k : Int) - 1) (c - 1) = 0 ∧ me a b c k = 0 ∧ mapAt a b c k false = bs a b c ((k : Int) - 1) (c - 1) + 1 ∧ 0 ≤ bs a b c ((k : Int) - 1) (c - 1) ∧ bs a b c ((k : Int) - 1) (c - 1) ≤ 403 := by
  have hc := hg.2.2.2.2.1
  have hb1 := hg.2.2.1
  have h3 : gwithin a b c ((k : Int) - 1) a = 0 := within_zero hg (by omega) (by omega)
  have h4 : gwithin a b c (c - 1) c = 0 := within_zero hg (by omega) (by omega)
  have h5 : be a b c ((k : Int) - 1) (c - 1) = 0 := by rw [be, if_neg (by omega), h4]
  have h6 : me a b c k = 0 := within_zero hg (by omega) h2
  have h7 := @next_group a b c k
  have h8 := in_size hg (q := (k : Int) - 1) (r := 2 + b + (c - 1)) (by omega) (by omega) (by omega) (by omega)
  have h9 := (size_bd a b c)
  have h10 : bs a b c ((k : Int) - 1) (c - 1) = gfirst a b c ((k : Int) - 1) + 2 + b + (c - 1) := by rw [bs, if_neg (by omega)]
  refine ⟨h5, h6, ?_, by omega, by omega⟩
  rw [mapAt, if_neg (by omega), h10]
  simp
  omega

/-- What the walk carries: the box of the geometry, the list. -/
structure Box3 (w wr : World) (a b c : Int) : Prop where
  below : Below w.heap.size w wr
  blk : wr.heap[w.heap.size]? = some (.cells #[.int .i64 a, .int .i64 b, .int .i64 c] 23 (0, 0))
theorem Box3.new (w : World) (a b c : Int) : Box3 w (w.alloc (.cells #[.int .i64 a, .int .i64 b, .int .i64 c] 23)) a b c := ⟨below_alloc (Below.refl _ _) _, heap_alloc_new _ _⟩
theorem Box3.step {w w1 w2 : World} {a b c : Int} (h : Box3 w w1 a b c) (hb : Below w1.heap.size w1 w2) : Box3 w w2 a b c := ⟨below_step hb h.below.size h.below, (hb.block _ (blk_lt h.blk)).trans h.blk⟩
theorem Box3.box {w w1 : World} {a b c : Int} (h : Box3 w w1 a b c) : (∀ o, w1.cell? ⟨w.heap.size, o, none⟩ = #[Value.int .i64 a, .int .i64 b, .int .i64 c][o]?) ∧ w.heap.size < w1.heap.size := ⟨fun o => blk_cell h.blk o, blk_lt h.blk⟩
end Cw
