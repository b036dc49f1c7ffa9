/- Rows of things, laid flat. No program in sight. -/
import Derived.Test.YtkmgnfgcgfafcaaVcN
namespace Cw
open Go Vc
section
variable {α : Type}
def fcs {α : Type} (f : α → List Value) (l : List α) : List Value := (l.map f).flatten
theorem fcs_length {f : α → List Value} {c : Nat} (hc : ∀ a, (f a).length = c) (l : List α) : (fcs f l).length = l.length * c := by
  induction l with
  | nil => simp [fcs]
  | cons p l ih =>
    simp only [fcs, List.map_cons, List.flatten_cons, List.length_append, List.length_cons] at *
    rw [ih, hc, Nat.add_mul]
    omega
theorem fcs_drop {f : α → List Value} {c : Nat} (hc : ∀ a, (f a).length = c) : ∀ (l : List α) (i : Nat) (h : i < l.length), (fcs f l).drop (i * c) = f l[i] ++ fcs f (l.drop (i + 1))
  | a :: l, 0, _ => by simp [fcs]
  | a :: l, i + 1, h => by
    have := fcs_drop hc l i (by simpa using h)
    rw [show (i + 1) * c = c + i * c by rw [Nat.add_mul]; omega, show fcs f (a :: l) = f a ++ fcs f l from rfl, ← List.drop_drop]
    rw [show (f a ++ fcs f l).drop c = fcs f l by rw [← hc a]; exact List.drop_left, this]
    rfl
theorem fcs_at {f : α → List Value} {c : Nat} (hc : ∀ a, (f a).length = c) {l : List α} {i : Nat} (h : i < l.length) {j : Nat} {u : Value} (hu : (f l[i])[j]? = some u) : (fcs f l)[(i : Int).toNat * c + j]? = some u := by
  rw [Int.toNat_natCast, ← List.getElem?_drop, fcs_drop hc l i h, List.getElem?_append_left (List.getElem?_eq_some_iff.1 hu).1]
  exact hu
theorem fcs_app (f : α → List Value) (l : List α) (a : α) : fcs f (l ++ [a]) = fcs f l ++ f a := by simp [fcs]
theorem fcs_split {f : α → List Value} {c : Nat} (hc : ∀ a, (f a).length = c) (l : List α) (i : Nat) (h : i ≤ l.length) : (fcs f l).take (i * c) = fcs f (l.take i) ∧ (fcs f l).drop (i * c) = fcs f (l.drop i) := by
  have e : fcs f l = fcs f (l.take i) ++ fcs f (l.drop i) := by
    have e0 : fcs f (l.take i ++ l.drop i) = fcs f (l.take i) ++ fcs f (l.drop i) := by simp only [fcs, List.map_append, List.flatten_append]
    rw [← e0, List.take_append_drop]
  have hl : (fcs f (l.take i)).length = i * c := by rw [fcs_length hc, List.length_take, Nat.min_eq_left h]
  rw [e]
  exact ⟨List.take_left' hl, List.drop_left' hl⟩
end
theorem setAt_one {xs : List Value} {k : Nat} {v : Value} (h : k < xs.length) : Vc.setAt xs k [v] = xs.set k v := by
  rw [List.set_eq_take_append_cons_drop, if_pos h]
  simp [Vc.setAt]
theorem set_fcs {α : Type} {f : α → List Value} {c : Nat} (hc : ∀ a, (f a).length = c) {l : List α} {i j : Nat} {v : Value} {a' : α} (h : i < l.length) (hj : j < c) (ha : (f l[i]).set j v = f a') : Vc.setAt (fcs f l) (i * c + j) [v] = fcs f (l.set i a') := by
  have e0 : ∀ (x y : List α), fcs f (x ++ y) = fcs f x ++ fcs f y := fun x y => by simp only [fcs, List.map_append, List.flatten_append]
  have e1 : fcs f l = fcs f (l.take i) ++ (f l[i] ++ fcs f (l.drop (i + 1))) := by
    have : l = l.take i ++ l[i] :: l.drop (i + 1) := by rw [List.getElem_cons_drop, List.take_append_drop]
    conv => lhs; rw [this, e0]
    rfl
  have hl : (fcs f (l.take i)).length = i * c := by rw [fcs_length hc, List.length_take, Nat.min_eq_left (by omega)]
  have hlt : i * c + j < (fcs f l).length := by
    rw [fcs_length hc]
    have : (i + 1) * c ≤ l.length * c := Nat.mul_le_mul_right _ (by omega)
    rw [Nat.add_mul] at this
    omega
  rw [setAt_one hlt, e1, List.set_append_right _ _ (by omega), hl, Nat.add_sub_cancel_left, List.set_append_left _ _ (by rw [hc]; exact hj), ha, List.set_eq_take_append_cons_drop, if_pos h, e0]
  rfl
end Cw
