/- ref01.Put; what all laws of the layer use: works, names; book.Among, book.Fit. -/
import Derived.Test.YtigaallhjlmhbaaFieldW3
namespace Cw
open Go Go.RowKit Go.IntWalk
open Go.Proofs

theorem held2 {w : World} {g : Nat} {x y : Value} {T : TypeId} (h : w.heap[g]? = some (.cells #[x, y] T (0, 0))) :
    w.cell? ⟨g, 0, none⟩ = some x ∧ w.cell? ⟨g, 1, none⟩ = some y ∧ w.frozen? ⟨g, 0, none⟩ = false ∧ w.frozen? ⟨g, 1, none⟩ = false :=
  ⟨cell_of_row w g 0 _ T (0, 0) h, cell_of_row w g 1 _ T (0, 0) h, by simp [World.frozen?, h], by simp [World.frozen?, h]⟩

theorem stored2 {w : World} {g : Nat} {x y : Value} {T : TypeId} (h : w.heap[g]? = some (.cells #[x, y] T (0, 0))) (a b : Value) :
    (w.setCell ⟨g, 0, none⟩ a).cell? ⟨g, 0, none⟩ = some a ∧ ((w.setCell ⟨g, 0, none⟩ a).setCell ⟨g, 1, none⟩ b).cell? ⟨g, 1, none⟩ = some b := by
  have h1 := setCell_eq_setRow w g 0 #[x, y] T (0, 0) a h
  have hh1 : (w.setCell ⟨g, 0, none⟩ a).heap[g]? = some (.cells #[a, y] T (0, 0)) := by rw [h1]; exact setRow_heap w g _ _ T _ h
  have h2 := setCell_eq_setRow (w.setCell ⟨g, 0, none⟩ a) g 1 #[a, y] T (0, 0) b hh1
  have hh2 : ((w.setCell ⟨g, 0, none⟩ a).setCell ⟨g, 1, none⟩ b).heap[g]? = some (.cells #[a, b] T (0, 0)) := by rw [h2]; exact setRow_heap _ g _ _ T _ hh1
  exact ⟨(held2 hh1).1, (held2 hh2).2.1⟩
theorem below_setCell {B g : Nat} {w0 w : World} (hb : Below B w0 w) (hg : B ≤ g) (o : Nat) (v : Value) : Below B w0 (w.setCell ⟨g, o, none⟩ v) :=
  hb.trans ⟨rfl, rfl, rfl, by simp [World.setCell], fun k hk => Below.heap_setCell _ _ _ _ (fun e => by simp at e; omega)⟩

theorem put_258 (w : World) : Calls Try.prog 47 #[.int .i64 3, .int .i64 2, .int .i64 258] w fun e w' => e = .returned (.tuple #[.agg #[.int .i64 3, .string ⟨#[2, 1]⟩], .int .i64 0]) ∧ Below w.heap.size w w' := by
  have h := put_any 3 2 258 w
  rw [show pute 3 2 258 = 0 by decide, show putoff 3 2 258 = 3 by decide, show putb 3 2 258 = [2, 1] by decide] at h
  exact h

theorem blank_len (w : World) : Calls Try.prog 41 #[] w fun e w' => (∃ s : ByteArray, e = .returned (.string s) ∧ s.size = 64) ∧ Below w.heap.size w w' :=
  (blank_any w).mono fun e w' ⟨he, hb⟩ => ⟨⟨_, he, by decide⟩, hb⟩

end Cw
