/- Plain facts about the geometry of the disk: which numbers a geometry tells, and the list of all its sectors. No program in sight. -/
namespace Cw

/-- The sectors of a geometry, in order: kind, number, group, place. -/
def things (a b c : Nat) : List (Nat × Nat × Nat × Nat) :=
  [(0, 0, 0, 0), (1, 0, 0, 0)] ++ (List.range ((a + a * b + 15) / 16)).map (fun i => (2, i, 0, 0)) ++ (List.range a).flatMap fun k => [(3, k, k, 0), (4, k, k, 0)] ++ (List.range b).map (fun i => (5, k * b + i + 1, k, i)) ++ (List.range c).map (fun i => (6, k * c + i, k, i))

theorem flatMap_length {α : Type} (f : Nat → List α) (L : Nat) (h : ∀ k, (f k).length = L) : ∀ a, ((List.range a).flatMap f).length = a * L := by
  intro a
  induction a with
  | zero => simp
  | succ a ih => rw [List.range_succ, List.flatMap_append, List.length_append, ih]; simp [h, Nat.add_mul]

theorem flatMap_get {α : Type} (f : Nat → List α) (L : Nat) (h : ∀ k, (f k).length = L) : ∀ a k r, k < a → r < L → ((List.range a).flatMap f)[k * L + r]? = (f k)[r]? := by
  intro a
  induction a with
  | zero => intro k r hk; omega
  | succ a ih =>
    intro k r hk hr
    rw [List.range_succ, List.flatMap_append]
    have hl := flatMap_length f L h a
    by_cases hka : k < a
    · rw [List.getElem?_append_left, ih k r hka hr]
      rw [hl]
      have := Nat.mul_le_mul_right L (show k + 1 ≤ a by omega)
      rw [Nat.add_mul] at this; omega
    · obtain rfl : k = a := by omega
      rw [List.getElem?_append_right (by rw [hl]; omega), hl]
      simp


def tabs (a b : Nat) : Nat := (a + a * b + 15) / 16
/-- The sector at a place of the list, told without the list. -/
def thing (a b c s : Nat) : Nat × Nat × Nat × Nat :=
  if s < 2 then (s, 0, 0, 0) else if s < 2 + tabs a b then (2, s - 2, 0, 0) else
  let k := (s - 2 - tabs a b) / (2 + b + c)
  let r := (s - 2 - tabs a b) % (2 + b + c)
  if r < 2 then (3 + r, k, k, 0) else if r < 2 + b then (5, k * b + (r - 2) + 1, k, r - 2) else (6, k * c + (r - 2 - b), k, r - 2 - b)

def size (a b c : Nat) : Nat := 2 + tabs a b + a * (2 + b + c)

def group (b c k : Nat) : List (Nat × Nat × Nat × Nat) :=
  [(3, k, k, 0), (4, k, k, 0)] ++ (List.range b).map (fun i => (5, k * b + i + 1, k, i)) ++ (List.range c).map (fun i => (6, k * c + i, k, i))

theorem group_length (b c k : Nat) : (group b c k).length = 2 + b + c := by simp [group]; omega

theorem group_get (b c k r : Nat) (h : r < 2 + b + c) : (group b c k)[r]? = some (if r < 2 then (3 + r, k, k, 0) else if r < 2 + b then (5, k * b + (r - 2) + 1, k, r - 2) else (6, k * c + (r - 2 - b), k, r - 2 - b)) := by
  unfold group
  by_cases h0 : r = 0
  · subst h0; simp
  by_cases h1 : r = 1
  · subst h1; simp
  by_cases h2 : r < 2 + b
  · rw [List.getElem?_append_left (by simp; omega), List.getElem?_append_right (by simp; omega)]
    simp only [List.length_cons, List.length_nil, List.getElem?_map]
    rw [List.getElem?_range (by omega)]
    rw [if_neg (by omega), if_pos h2]
    rfl
  · rw [List.getElem?_append_right (by simp; omega)]
    simp only [List.length_append, List.length_map, List.length_range, List.length_cons, List.length_nil, List.getElem?_map]
    rw [List.getElem?_range (by omega), if_neg (by omega), if_neg h2]
    simp [show r - (0 + 1 + 1 + b) = r - 2 - b by omega]

theorem things_eq (a b c : Nat) : things a b c = [(0, 0, 0, 0), (1, 0, 0, 0)] ++ (List.range (tabs a b)).map (fun i => (2, i, 0, 0)) ++ (List.range a).flatMap (group b c) := rfl

theorem things_length (a b c : Nat) : (things a b c).length = size a b c := by
  rw [things_eq, List.length_append, flatMap_length (group b c) _ (group_length b c)]
  simp [size]; omega

theorem things_get (a b c s : Nat) (h : s < size a b c) : (things a b c)[s]? = some (thing a b c s) := by
  rw [things_eq]
  unfold thing
  by_cases h2 : s < 2 + tabs a b
  · rw [List.getElem?_append_left (by simp; omega)]
    by_cases h0 : s = 0
    · subst h0; simp
    by_cases h1 : s = 1
    · subst h1; simp
    rw [List.getElem?_append_right (by simp; omega), List.getElem?_map]
    simp only [List.length_cons, List.length_nil]
    rw [List.getElem?_range (by omega), if_neg (by omega), if_pos h2]
    rfl
  · have hs := Nat.div_add_mod (s - 2 - tabs a b) (2 + b + c)
    have hr := Nat.mod_lt (s - 2 - tabs a b) (show 0 < 2 + b + c by omega)
    have hk : (s - 2 - tabs a b) / (2 + b + c) < a := by
      rw [Nat.div_lt_iff_lt_mul (by omega)]; unfold size at h; omega
    rw [List.getElem?_append_right (by simp; omega)]
    simp only [List.length_append, List.length_map, List.length_range, List.length_cons, List.length_nil]
    rw [show s - (0 + 1 + 1 + tabs a b) = (s - 2 - tabs a b) / (2 + b + c) * (2 + b + c) + (s - 2 - tabs a b) % (2 + b + c) by rw [Nat.mul_comm]; omega]
    rw [flatMap_get (group b c) _ (group_length b c) a _ _ hk hr, group_get _ _ _ _ hr]
    have h3 : ¬ s < 2 := by omega
    simp only [if_neg h3, if_neg h2]


/-- A thing's kind and number. -/
def isThing (k n : Int) (x : Nat × Nat × Nat × Nat) : Bool := ((x.1 : Int) == k) && ((x.2.1 : Int) == n)
def isBlock (g p : Int) (x : Nat × Nat × Nat × Nat) : Bool := ((x.1 : Int) == 6) && ((x.2.2.1 : Int) == g) && ((x.2.2.2 : Int) == p)
/-- The place of the first of a list that answers yes; -1: there is none. -/
def findAt {α : Type} (p : α → Bool) (l : List α) : Int := match l.findIdx? p with | some i => (i : Int) | none => -1

theorem findAt_some {α : Type} {p : α → Bool} {l : List α} {i : Nat} {x : α} (hi : l[i]? = some x) (hp : p x = true) (hno : ∀ j y, j < i → l[j]? = some y → p y = false) : findAt p l = i := by
  obtain ⟨hl, hx⟩ := List.getElem?_eq_some_iff.1 hi
  have h : l.findIdx? p = some i := by
    rw [List.findIdx?_eq_some_iff_getElem]
    refine ⟨hl, by rw [hx]; exact hp, fun j hj => ?_⟩
    have := hno j _ hj (List.getElem?_eq_getElem (by omega))
    simpa using this
  simp [findAt, h]
theorem findAt_none {α : Type} {p : α → Bool} {l : List α} (hno : ∀ (j : Nat) y, l[j]? = some y → p y = false) : findAt p l = -1 := by
  have h : l.findIdx? p = none := by
    rw [List.findIdx?_eq_none_iff]
    intro x hx
    obtain ⟨j, hj⟩ := List.mem_iff_getElem?.1 hx
    exact hno j x hj
  simp [findAt, h]
end Cw
