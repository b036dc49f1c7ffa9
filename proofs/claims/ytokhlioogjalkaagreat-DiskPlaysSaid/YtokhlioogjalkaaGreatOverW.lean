/- The walks of Overlap and Both. -/
import Derived.Test.YtokhlioogjalkaaGreatPatchW
namespace Cw
open Go Go.RowKit Go.IntWalk
open Go.Proofs

def ove (a b : Pt) : Int := if okp a = true ∧ okp b = true then 0 else 1
def both (a b : Pt) : Bool := decide (max a.1 b.1 < min (a.1 + a.2.size) (b.1 + b.2.size))
def ovb (a b : Pt) : Bool := if ove a b = 0 then both a b else false
theorem ret_bi {a a' : Bool} {b b' : Int} (h : a = a') (h2 : b = b') : Ending.returned (.tuple #[.bool a, .int .i64 b]) = .returned (.tuple #[.bool a', .int .i64 b']) := by rw [h, h2]

theorem over_start (w : World) (a b c d : Value) (T : TypeId) : two ((w.alloc (.cells #[a, b] T)).alloc (.cells #[c, d] T)) w.heap.size a b ∧ two ((w.alloc (.cells #[a, b] T)).alloc (.cells #[c, d] T)) (w.heap.size + 1) c d ∧
    Below w.heap.size w ((w.alloc (.cells #[a, b] T)).alloc (.cells #[c, d] T)) := by
  refine ⟨two_alloc (two_new w a b T) _, ?_, below_alloc (below_alloc (Below.refl _ _) _) _⟩
  have := two_new (w.alloc (.cells #[a, b] T)) c d T
  simpa using this

theorem over_lit (w : World) (a b c d : Value) (T : TypeId) : let w0 := ((w.alloc (.cells #[a, b] T)).alloc (.cells #[c, d] T)).alloc (.cells #[a, b, c, d] T)
    two w0 w.heap.size a b ∧ two w0 (w.heap.size + 1) c d ∧ (w0.cell? ⟨w.heap.size + 1 + 1, 0, none⟩ = some a ∧ w0.cell? ⟨w.heap.size + 1 + 1, 1, none⟩ = some b ∧ w0.cell? ⟨w.heap.size + 1 + 1, 2, none⟩ = some c ∧ w0.cell? ⟨w.heap.size + 1 + 1, 3, none⟩ = some d) ∧
    w.heap.size + 1 + 1 < w0.heap.size ∧ Below w.heap.size w w0 := by
  obtain ⟨h1, h2, h3⟩ := over_start w a b c d T
  have hn := fun o => cell_of_row _ ((w.alloc (.cells #[a, b] T)).alloc (.cells #[c, d] T)).heap.size o #[a, b, c, d] T (0, 0) (heap_alloc_new ((w.alloc (.cells #[a, b] T)).alloc (.cells #[c, d] T)) _)
  refine ⟨two_alloc h1 _, two_alloc h2 _, ?_, by simp, below_alloc h3 _⟩
  simpa using And.intro (hn 0) (And.intro (hn 1) (And.intro (hn 2) (hn 3)))

end Cw
