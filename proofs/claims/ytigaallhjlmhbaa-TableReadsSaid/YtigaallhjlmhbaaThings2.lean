/- The list of all sectors and the numbers of package geom say the same. No program in sight. -/
import Derived.Test.YtigaallhjlmhbaaThings
import Derived.Test.YtigaallhjlmhbaaGeoSpec
namespace Cw

theorem dmN (L k r : Nat) (h : r < L) : (k * L + r) / L = k ∧ (k * L + r) % L = r := by
  have hL : 0 < L := by omega
  constructor
  · rw [Nat.mul_comm, Nat.mul_add_div hL, Nat.div_eq_of_lt h]; rfl
  · rw [Nat.mul_comm, Nat.mul_add_mod, Nat.mod_eq_of_lt h]
theorem dmi (L k r : Int) (h0 : 0 ≤ r) (h : r < L) : (k * L + r) / L = k ∧ (k * L + r) % L = r := by
  constructor
  · rw [Int.add_comm, Int.add_mul_ediv_right _ _ (by omega), Int.ediv_eq_zero_of_lt h0 h]; omega
  · rw [Int.add_comm, Int.add_mul_emod_self_right, Int.emod_eq_of_lt h0 h]

theorem thing_cases (a b c j : Nat) (h : j < size a b c) :
    (j < 2 ∧ thing a b c j = (j, 0, 0, 0)) ∨ (∃ i, i < tabs a b ∧ j = 2 + i ∧ thing a b c j = (2, i, 0, 0)) ∨
    (∃ k r, k < a ∧ r < 2 + b + c ∧ j = 2 + tabs a b + (k * (2 + b + c) + r) ∧ ((r < 2 ∧ thing a b c j = (3 + r, k, k, 0)) ∨ (∃ i, i < b ∧ r = 2 + i ∧ thing a b c j = (5, k * b + i + 1, k, i)) ∨ (∃ i, i < c ∧ r = 2 + b + i ∧ thing a b c j = (6, k * c + i, k, i)))) := by
  by_cases h0 : j < 2
  · exact .inl ⟨h0, by simp [thing, h0]⟩
  by_cases h1 : j < 2 + tabs a b
  · exact .inr (.inl ⟨j - 2, by omega, by omega, by simp [thing, h0, h1]⟩)
  refine .inr (.inr ?_)
  have hs := Nat.div_add_mod (j - 2 - tabs a b) (2 + b + c)
  have hr := Nat.mod_lt (j - 2 - tabs a b) (show 0 < 2 + b + c by omega)
  have hk : (j - 2 - tabs a b) / (2 + b + c) < a := by
    rw [Nat.div_lt_iff_lt_mul (by omega)]; unfold size at h; omega
  have ht : thing a b c j = if (j - 2 - tabs a b) % (2 + b + c) < 2 then (3 + (j - 2 - tabs a b) % (2 + b + c), (j - 2 - tabs a b) / (2 + b + c), (j - 2 - tabs a b) / (2 + b + c), 0) else
      if (j - 2 - tabs a b) % (2 + b + c) < 2 + b then (5, (j - 2 - tabs a b) / (2 + b + c) * b + ((j - 2 - tabs a b) % (2 + b + c) - 2) + 1, (j - 2 - tabs a b) / (2 + b + c), (j - 2 - tabs a b) % (2 + b + c) - 2)
      else (6, (j - 2 - tabs a b) / (2 + b + c) * c + ((j - 2 - tabs a b) % (2 + b + c) - 2 - b), (j - 2 - tabs a b) / (2 + b + c), (j - 2 - tabs a b) % (2 + b + c) - 2 - b) := by
    unfold thing
    simp only [if_neg h0, if_neg h1]
  rw [ht]
  generalize (j - 2 - tabs a b) / (2 + b + c) = k at *
  generalize (j - 2 - tabs a b) % (2 + b + c) = r at *
  refine ⟨k, r, hk, hr, by rw [Nat.mul_comm]; omega, ?_⟩
  by_cases r2 : r < 2
  · exact .inl ⟨r2, by simp [r2]⟩
  by_cases rb : r < 2 + b
  · exact .inr (.inl ⟨r - 2, by omega, by omega, by simp [r2, rb]⟩)
  · exact .inr (.inr ⟨r - 2 - b, by omega, by omega, by simp [r2, rb]⟩)

theorem thing_group (a b c k r : Nat) (hr : r < 2 + b + c) : thing a b c (2 + tabs a b + (k * (2 + b + c) + r)) =
    if r < 2 then (3 + r, k, k, 0) else if r < 2 + b then (5, k * b + (r - 2) + 1, k, r - 2) else (6, k * c + (r - 2 - b), k, r - 2 - b) := by
  obtain ⟨e1, e2⟩ := dmN (2 + b + c) k r hr
  have h0 : ¬ 2 + tabs a b + (k * (2 + b + c) + r) < 2 := by omega
  have h1 : ¬ 2 + tabs a b + (k * (2 + b + c) + r) < 2 + tabs a b := by omega
  unfold thing
  simp only [if_neg h0, if_neg h1]
  rw [show 2 + tabs a b + (k * (2 + b + c) + r) - 2 - tabs a b = k * (2 + b + c) + r by omega, e1, e2]

theorem in_sizeN (a b c k r : Nat) (hk : k < a) (hr : r < 2 + b + c) : 2 + tabs a b + (k * (2 + b + c) + r) < size a b c := by
  unfold size
  have := Nat.mul_le_mul_right (2 + b + c) (show k + 1 ≤ a by omega)
  rw [Nat.add_mul] at this
  omega

theorem first_cast (a b c k : Nat) : gfirst a b c k = ((2 + tabs a b + k * (2 + b + c) : Nat) : Int) := by
  unfold gfirst tabs
  push_cast
  rfl
theorem size_cast {a b c : Nat} (h : Gok a b c) : gsize a b c = (size a b c : Nat) := by
  rw [gsize, if_pos h, first_cast]; rfl

theorem wk_thing {a b c s : Nat} (hg : Gok a b c) (hs : s < size a b c) :
    we a b c s = 0 ∧ wk a b c s = (thing a b c s).1 ∧ wn a b c s = (thing a b c s).2.1 ∧ ((thing a b c s).1 = 6 → pg a b c s = (thing a b c s).2.2.1 ∧ pp a b c s = (thing a b c s).2.2.2) := by
  have he : we a b c s = 0 := within_zero hg (by omega) (by rw [size_cast hg]; omega)
  have hf : gfirst (a : Int) b c 0 = ((2 + tabs a b : Nat) : Int) := by have := first_cast a b c 0; simpa using this
  refine ⟨he, ?_⟩
  have pe0 : wk a b c s = 6 → pg a b c s = wn a b c s / c ∧ pp a b c s = wn a b c s % c := by
    intro h6
    have : pe a b c s = 0 := by unfold pe; rw [he, h6]; rfl
    unfold pg pp
    rw [this]
    exact ⟨rfl, rfl⟩
  rcases thing_cases a b c s hs with ⟨h1, e⟩ | ⟨i, hi, rfl, e⟩ | ⟨k, r, hk, hr, rfl, hh⟩
  · obtain ⟨w1, w2⟩ := w_low he (by rw [hf]; omega)
    rw [e, w1, w2]
    rw [if_pos (by omega), if_pos (by omega)]
    exact ⟨rfl, rfl, fun h => absurd h (by omega)⟩
  · obtain ⟨w1, w2⟩ := w_low he (by rw [hf]; omega)
    rw [e, w1, w2]
    by_cases h0 : (((2 + i : Nat) : Int) = 0 ∨ ((2 + i : Nat) : Int) = 1)
    · omega
    · rw [if_neg h0, if_neg h0]
      exact ⟨rfl, by push_cast; omega, fun h => absurd h (by simp)⟩
  · have hsub : ((2 + tabs a b + (k * (2 + b + c) + r) : Nat) : Int) - gfirst a b c 0 = (k : Int) * (2 + b + c) + r := by rw [hf]; push_cast; omega
    obtain ⟨d1, d2⟩ := dmi (2 + b + c) k r (by omega) (by omega)
    have hlo : gfirst (a : Int) b c 0 ≤ ((2 + tabs a b + (k * (2 + b + c) + r) : Nat) : Int) := by rw [hf]; omega
    rcases hh with ⟨hr2, e⟩ | ⟨i, hi, rfl, e⟩ | ⟨i, hi, rfl, e⟩
    · obtain ⟨w1, w2⟩ := w_map (by omega) he hlo (by rw [hsub, d2]; omega)
      rw [e, w1, w2, hsub, d1, d2]
      exact ⟨by push_cast; rfl, rfl, fun h => absurd h (by simp; omega)⟩
    · obtain ⟨w1, w2⟩ := w_inode he hlo (by rw [hsub, d2]; omega) (by rw [hsub, d2]; omega)
      rw [e, w1, w2, hsub, d1, d2]
      exact ⟨rfl, by push_cast; omega, fun h => absurd h (by simp)⟩
    · obtain ⟨w1, w2⟩ := w_block he hlo (by rw [hsub, d2]; omega)
      obtain ⟨p1, p2⟩ := pe0 w1
      rw [e, p1, p2, w1, w2, hsub, d1, d2]
      obtain ⟨f1, f2⟩ := dmi c k i (by omega) (by omega)
      refine ⟨rfl, by push_cast; omega, fun _ => ?_⟩
      rw [show (k : Int) * c + ((2 + b + i : Nat) : Int) - 2 - b = k * c + i by push_cast; omega, f1, f2]
      exact ⟨rfl, rfl⟩

theorem things_some {a b c j : Nat} {y : Nat × Nat × Nat × Nat} (h : (things a b c)[j]? = some y) : j < size a b c ∧ y = thing a b c j := by
  have hj : j < size a b c := by
    obtain ⟨h1, _⟩ := List.getElem?_eq_some_iff.1 h
    rwa [things_length] at h1
  rw [things_get a b c j hj] at h
  exact ⟨hj, by injection h with h; exact h.symm⟩

/-- One place alone answers yes. -/
theorem find_one {a b c : Nat} {p : Nat × Nat × Nat × Nat → Bool} (i : Nat) (hi : i < size a b c) (hp : p (thing a b c i) = true) (hu : ∀ j, j < size a b c → p (thing a b c j) = true → j = i) : findAt p (things a b c) = i := by
  refine findAt_some (things_get a b c i hi) hp fun j y hj hy => ?_
  obtain ⟨h1, rfl⟩ := things_some hy
  cases hq : p (thing a b c j) with
  | false => rfl
  | true => have := hu j h1 hq; omega
theorem find_no {a b c : Nat} {p : Nat × Nat × Nat × Nat → Bool} (hu : ∀ j, j < size a b c → p (thing a b c j) = false) : findAt p (things a b c) = -1 := by
  refine findAt_none fun j y hy => ?_
  obtain ⟨h1, rfl⟩ := things_some hy
  exact hu j h1

theorem find_map (a b c : Nat) (m : Bool) (n : Int) : findAt (isThing (if m then 4 else 3) n) (things a b c) =
    if 0 ≤ n ∧ n < a then gfirst a b c n + (if m then 1 else 0) else -1 := by
  have key : ∀ j, j < size a b c → isThing (if m then 4 else 3) n (thing a b c j) = true → ∃ k : Nat, k < a ∧ n = k ∧ j = 2 + tabs a b + (k * (2 + b + c) + (if m then 1 else 0)) := by
    intro j hj hp
    simp only [isThing, Bool.and_eq_true, beq_iff_eq] at hp
    obtain ⟨p1, p2⟩ := hp
    rcases thing_cases a b c j hj with ⟨h1, e⟩ | ⟨i, hi, rfl, e⟩ | ⟨k, r, hk, hr, rfl, hh⟩
    · rw [e] at p1 p2; cases m <;> simp at p1 p2 <;> omega
    · rw [e] at p1 p2; cases m <;> simp at p1 p2
    · rcases hh with ⟨hr2, e⟩ | ⟨i, hi, rfl, e⟩ | ⟨i, hi, rfl, e⟩
      · rw [e] at p1 p2
        refine ⟨k, hk, p2.symm, ?_⟩
        cases m <;> simp at p1 p2 ⊢ <;> omega
      · rw [e] at p1 p2; cases m <;> simp at p1 p2
      · rw [e] at p1 p2; cases m <;> simp at p1 p2
  by_cases h : 0 ≤ n ∧ n < a
  · rw [if_pos h]
    obtain ⟨k, rfl⟩ := Int.eq_ofNat_of_zero_le h.1
    have hk : k < a := by omega
    have hL : (if m then 1 else 0) < 2 + b + c := by cases m <;> simp <;> omega
    rw [find_one (2 + tabs a b + (k * (2 + b + c) + (if m then 1 else 0))) (in_sizeN a b c k _ hk hL) ?_ ?_]
    · rw [first_cast]; cases m <;> simp <;> omega
    · rw [thing_group a b c k _ hL]
      cases m <;> simp [isThing]
    · intro j hj hp
      obtain ⟨k', _, e, rfl⟩ := key j hj hp
      obtain rfl : k = k' := by omega
      rfl
  · rw [if_neg h]
    refine find_no fun j hj => ?_
    cases hq : isThing (if m then 4 else 3) n (thing a b c j) with
    | false => rfl
    | true => obtain ⟨k, hk, e, _⟩ := key j hj hq; omega

theorem find_inode (a b c : Nat) (hb : 1 ≤ b) (n : Int) : findAt (isThing 5 n) (things a b c) =
    if 1 ≤ n ∧ n ≤ a * b then gfirst a b c ((n - 1) / b) + 2 + (n - 1) % b else -1 := by
  have key : ∀ j, j < size a b c → isThing 5 n (thing a b c j) = true → ∃ k i : Nat, k < a ∧ i < b ∧ n = k * b + i + 1 ∧ j = 2 + tabs a b + (k * (2 + b + c) + (2 + i)) := by
    intro j hj hp
    simp only [isThing, Bool.and_eq_true, beq_iff_eq] at hp
    obtain ⟨p1, p2⟩ := hp
    rcases thing_cases a b c j hj with ⟨h1, e⟩ | ⟨i, hi, rfl, e⟩ | ⟨k, r, hk, hr, rfl, hh⟩
    · rw [e] at p1 p2; simp at p1 p2; omega
    · rw [e] at p1 p2; simp at p1 p2
    · rcases hh with ⟨hr2, e⟩ | ⟨i, hi, rfl, e⟩ | ⟨i, hi, rfl, e⟩
      · rw [e] at p1 p2; simp at p1 p2; omega
      · rw [e] at p1 p2
        exact ⟨k, i, hk, hi, by simpa using p2.symm, rfl⟩
      · rw [e] at p1 p2; simp at p1 p2
  by_cases h : 1 ≤ n ∧ n ≤ a * b
  · rw [if_pos h]
    obtain ⟨m, hm⟩ := Int.eq_ofNat_of_zero_le (show 0 ≤ n - 1 by omega)
    obtain rfl : n = m + 1 := by omega
    have hmb : m < a * b := by
      have : ((a * b : Nat) : Int) = (a : Int) * b := by simp
      omega
    have hk : m / b < a := by rw [Nat.div_lt_iff_lt_mul (by omega)]; exact hmb
    have hi : m % b < b := Nat.mod_lt _ (by omega)
    have hdm := Nat.div_add_mod m b
    rw [Nat.mul_comm] at hdm
    rw [find_one (2 + tabs a b + (m / b * (2 + b + c) + (2 + m % b))) (in_sizeN a b c _ _ hk (by omega)) ?_ ?_]
    · rw [show (m : Int) + 1 - 1 = m by omega, ← Int.natCast_ediv, ← Int.natCast_emod, first_cast]
      push_cast
      omega
    · rw [thing_group a b c _ _ (by omega)]
      rw [if_neg (by omega), if_pos (by omega)]
      simp only [isThing, Bool.and_eq_true, beq_iff_eq]
      refine ⟨rfl, ?_⟩
      have : m / b * b + (2 + m % b - 2) + 1 = m + 1 := by omega
      rw [this]; rfl
    · intro j hj hp
      obtain ⟨k', i', _, hi', e, rfl⟩ := key j hj hp
      have e' : m = k' * b + i' := by
        have : ((k' * b + i' : Nat) : Int) = (k' : Int) * b + i' := by simp
        omega
      obtain ⟨d1, d2⟩ := dmN b k' i' hi'
      rw [e', d1, d2]
  · rw [if_neg h]
    refine find_no fun j hj => ?_
    cases hq : isThing 5 n (thing a b c j) with
    | false => rfl
    | true =>
      obtain ⟨k, i, hk, hi, e, _⟩ := key j hj hq
      exfalso
      apply h
      have h1 := Nat.mul_le_mul_right b (show k + 1 ≤ a by omega)
      rw [Nat.add_mul] at h1
      have h2 : ((a * b : Nat) : Int) = (a : Int) * b := by simp
      have h3 : ((k * b : Nat) : Int) = (k : Int) * b := by simp
      omega

theorem find_block (a b c : Nat) (g p : Int) : findAt (isBlock g p) (things a b c) =
    if (0 ≤ g ∧ g < a) ∧ (0 ≤ p ∧ p < c) then gfirst a b c g + 2 + b + p else -1 := by
  have key : ∀ j, j < size a b c → isBlock g p (thing a b c j) = true → ∃ k i : Nat, k < a ∧ i < c ∧ g = k ∧ p = i ∧ j = 2 + tabs a b + (k * (2 + b + c) + (2 + b + i)) := by
    intro j hj hp
    simp only [isBlock, Bool.and_eq_true, beq_iff_eq] at hp
    obtain ⟨⟨p1, p2⟩, p3⟩ := hp
    rcases thing_cases a b c j hj with ⟨h1, e⟩ | ⟨i, hi, rfl, e⟩ | ⟨k, r, hk, hr, rfl, hh⟩
    · rw [e] at p1 p2; simp at p1 p2; omega
    · rw [e] at p1 p2; simp at p1 p2
    · rcases hh with ⟨hr2, e⟩ | ⟨i, hi, rfl, e⟩ | ⟨i, hi, rfl, e⟩
      · rw [e] at p1 p2; simp at p1 p2; omega
      · rw [e] at p1 p2; simp at p1 p2
      · rw [e] at p1 p2 p3
        exact ⟨k, i, hk, hi, p2.symm, p3.symm, rfl⟩
  by_cases h : (0 ≤ g ∧ g < a) ∧ (0 ≤ p ∧ p < c)
  · rw [if_pos h]
    obtain ⟨k, rfl⟩ := Int.eq_ofNat_of_zero_le h.1.1
    obtain ⟨i, rfl⟩ := Int.eq_ofNat_of_zero_le h.2.1
    have hk : k < a := by omega
    have hi : i < c := by omega
    rw [find_one (2 + tabs a b + (k * (2 + b + c) + (2 + b + i))) (in_sizeN a b c k _ hk (by omega)) ?_ ?_]
    · rw [first_cast]; push_cast; omega
    · rw [thing_group a b c k _ (by omega), if_neg (by omega), if_neg (by omega)]
      rw [show 2 + b + i - 2 - b = i by omega]
      simp [isBlock]
    · intro j hj hp
      obtain ⟨k', i', _, _, e1, e2, rfl⟩ := key j hj hp
      obtain rfl : k = k' := by omega
      obtain rfl : i = i' := by omega
      rfl
  · rw [if_neg h]
    refine find_no fun j hj => ?_
    cases hq : isBlock g p (thing a b c j) with
    | false => rfl
    | true => obtain ⟨k, i, hk, hi, e1, e2, _⟩ := key j hj hq; omega
end Cw
