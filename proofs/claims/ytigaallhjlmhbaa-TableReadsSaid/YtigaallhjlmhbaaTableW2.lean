/- TableApart answers true. -/
import Derived.Test.YtigaallhjlmhbaaTableW
import Derived.Test.YtigaallhjlmhbaaOverW
import Derived.Deep.DeepCutAuto
import Derived.Deep.RegionHeld3
namespace Cw
open Go Go.RowKit Go.IntWalk
open Go.Proofs

theorem tex : tps 1 2 3 1 1 258 = 2 ∧ (tpp 1 2 3 1 1 258).1 = 4 ∧ (tpp 1 2 3 1 1 258).2 = ⟨#[1, 2, 1, 0]⟩ ∧ tpe 1 2 3 1 1 258 = 0 := by decide +kernel

set_option maxRecDepth 100000 in
set_option maxHeartbeats 400000 in
theorem tworks_any (w : World) : Calls Try.prog 23 #[] w fun e w' => e = .returned (.bool true) ∧ Below w.heap.size w w' := by
  have h := tput_any 1 2 3 1 1 258
  rw [tex.1, tex.2.1, tex.2.2.1, tex.2.2.2] at h
  have H := Lib.hid h
  clear h
  go_enter Try.func23, Try.ntmps23
  go_wp2_with fail
  refine (H.out _).mono ?_
  rintro e w1 ⟨rfl, hb⟩
  have hB := below_alloc hb (.cells #[.int .i64 4, .string ⟨#[1, 2, 1, 0]⟩] 45)
  go_wp2_with fail
  go_ret
  exact ⟨rfl, below_alloc hb _⟩

theorem two_both (w : World) (a b c d : Value) (T : TypeId) : two ((w.alloc (.cells #[a, b] T)).alloc (.cells #[c, d] T)) w.heap.size a b ∧ two ((w.alloc (.cells #[a, b] T)).alloc (.cells #[c, d] T)) (w.heap.size + 1) c d ∧
    Below w.heap.size w ((w.alloc (.cells #[a, b] T)).alloc (.cells #[c, d] T)) := over_start w a b c d T

theorem blk_two {w : World} {g : Nat} {a b : Value} {T : TypeId} (h : w.heap[g]? = some (.cells #[a, b] T (0, 0))) : two w g a b := ⟨blk_cell h 0, blk_cell h 1, blk_lt h⟩
/-- A block of three cells. -/
def three (w : World) (g : Nat) (a b c : Value) : Prop := w.cell? ⟨g, 0, none⟩ = some a ∧ w.cell? ⟨g, 1, none⟩ = some b ∧ w.cell? ⟨g, 2, none⟩ = some c ∧ g < w.heap.size
theorem three_step {w w1 : World} {g : Nat} {a b c : Value} (h : three w g a b c) (hb : Below w.heap.size w w1) : three w1 g a b c :=
  ⟨(hb.cell (p := ⟨g, 0, none⟩) h.2.2.2).trans h.1, (hb.cell (p := ⟨g, 1, none⟩) h.2.2.2).trans h.2.1, (hb.cell (p := ⟨g, 2, none⟩) h.2.2.2).trans h.2.2.1, Nat.lt_of_lt_of_le h.2.2.2 hb.size⟩
theorem blk_three {w : World} {g : Nat} {a b c : Value} {T : TypeId} (h : w.heap[g]? = some (.cells #[a, b, c] T (0, 0))) : three w g a b c := ⟨blk_cell h 0, blk_cell h 1, blk_cell h 2, blk_lt h⟩

end Cw
