/- Plain facts about the geometry of the disk: which numbers a geometry tells, and the list of all its sectors. No program in sight. -/
import Derived.Test.YtjnbdhgkoolhnaaGreatGeoSpec
namespace Cw

/-- The sectors of a geometry, in order: kind, number, group, place. -/
def things (a b c : Nat) : List (Nat × Nat × Nat × Nat) :=
  [(0, 0, 0, 0), (1, 0, 0, 0)] ++ (List.range ((a + a * b + 15) / 16)).map (fun i => (2, i, 0, 0)) ++ (List.range a).flatMap fun k => [(3, k, k, 0), (4, k, k, 0)] ++ (List.range b).map (fun i => (5, k * b + i + 1, k, i)) ++ (List.range c).map (fun i => (6, k * c + i, k, i))

theorem flatMap_length {α : Type} (f : Nat → List α) (L : Nat) (h : ∀ k, (f k).length = L) : ∀ a, ((List.range a).flatMap f).length = a * L := by
  intro a
  induction a with
  | zero => simp
  | succ a ih => rw [List.range_succ, List.flatMap_append, List.length_append, ih]; simp [h, Nat.add_mul]

def tabs (a b : Nat) : Nat := (a + a * b + 15) / 16
/-- The sector at a place of the list, told without the list. -/
def thing (a b c s : Nat) : Nat × Nat × Nat × Nat :=
  if s < 2 then (s, 0, 0, 0) else if s < 2 + tabs a b then (2, s - 2, 0, 0) else
  let k := (s - 2 - tabs a b) / (2 + b + c)
  let r := (s - 2 - tabs a b) % (2 + b + c)
  if r < 2 then (3 + r, k, k, 0) else if r < 2 + b then (5, k * b + (r - 2) + 1, k, r - 2) else (6, k * c + (r - 2 - b), k, r - 2 - b)

def size (a b c : Nat) : Nat := 2 + tabs a b + a * (2 + b + c)

def group (b c k : Nat) : List (Nat × Nat × Nat × Nat) :=
  [(3, k, k, 0), (4, k, k, 0)] ++ (List.range b).map (fun i => (5, k * b + i + 1, k, i)) ++ (List.range c).map (fun i => (6, k * c + i, k, i))

theorem group_length (b c k : Nat) : (group b c k).length = 2 + b + c := by simp [group]; omega

theorem things_eq (a b c : Nat) : things a b c = [(0, 0, 0, 0), (1, 0, 0, 0)] ++ (List.range (tabs a b)).map (fun i => (2, i, 0, 0)) ++ (List.range a).flatMap (group b c) := rfl

theorem things_length (a b c : Nat) : (things a b c).length = size a b c := by
  rw [things_eq, List.length_append, flatMap_length (group b c) _ (group_length b c)]
  simp [size]; omega

/-- A thing's kind and number. -/
def isThing (k n : Int) (x : Nat × Nat × Nat × Nat) : Bool := ((x.1 : Int) == k) && ((x.2.1 : Int) == n)
def isBlock (g p : Int) (x : Nat × Nat × Nat × Nat) : Bool := ((x.1 : Int) == 6) && ((x.2.2.1 : Int) == g) && ((x.2.2.2 : Int) == p)
/-- The place of the first of a list that answers yes; -1: there is none. -/
def findAt {α : Type} (p : α → Bool) (l : List α) : Int := match l.findIdx? p with | some i => (i : Int) | none => -1

end Cw
namespace Cw

end Cw
