/- Blocks of two cells of the call's own, carried from world to world. No program in sight. -/
import Derived.Test.YtapmgndnjgoimaaGreatBase
namespace Cw
open Go Go.RowKit
/-- A block's two cells. -/
def two (w : World) (g : Nat) (a b : Value) : Prop := w.cell? ⟨g, 0, none⟩ = some a ∧ w.cell? ⟨g, 1, none⟩ = some b ∧ g < w.heap.size
theorem two_new (w : World) (a b : Value) (T : TypeId) : two (w.alloc (.cells #[a, b] T)) w.heap.size a b :=
  ⟨cell_of_row _ _ 0 #[a, b] T (0, 0) (heap_alloc_new w _), cell_of_row _ _ 1 #[a, b] T (0, 0) (heap_alloc_new w _), by simp⟩
theorem two_step {w w1 : World} {g : Nat} {a b : Value} (h : two w g a b) (hb : Below w.heap.size w w1) : two w1 g a b :=
  ⟨(hb.cell (p := ⟨g, 0, none⟩) h.2.2).trans h.1, (hb.cell (p := ⟨g, 1, none⟩) h.2.2).trans h.2.1, Nat.lt_of_lt_of_le h.2.2 hb.size⟩
theorem two_alloc {w : World} {g : Nat} {a b : Value} (h : two w g a b) (o : Obj) : two (w.alloc o) g a b :=
  two_step h ((Below.refl _ _).alloc (Nat.le_refl _) _)
theorem below_alloc {w w0 : World} (h : Below w.heap.size w w0) (o : Obj) : Below w.heap.size w (w0.alloc o) := h.alloc h.size _
theorem lit_add (n i : Nat) : (⟨n, 0, none⟩ : Addr).add i = ⟨n, i, none⟩ := by unfold Addr.add; split <;> simp_all
end Cw
