/- GeomRises answers true. -/
import Derived.Test.YtigaallhjlmhbaaRiseLaw
import Derived.Test.YtigaallhjlmhbaaFitsLaw
import Derived.Test.YtigaallhjlmhbaaGeomEx
import Derived.Test.YtigaallhjlmhbaaWireW3
namespace Cw
open Go Go.RowKit Go.IntWalk
open Go.Proofs

def L7 (f : Nat → Int) : Array Value := #[.int .i64 (f 0), .int .i64 (f 1), .int .i64 (f 2), .int .i64 (f 3), .int .i64 (f 4), .int .i64 (f 5), .int .i64 (f 6)]
def put7 (f : Nat → Int) (k : Nat) (v : Int) : Nat → Int := fun j => if j = k then v else f j
theorem L7_set (f : Nat → Int) (k : Nat) (v : Int) (h : k ≤ 6) : (L7 f).setIfInBounds k (.int .i64 v) = L7 (put7 f k v) := by
  rcases (show k = 0 ∨ k = 1 ∨ k = 2 ∨ k = 3 ∨ k = 4 ∨ k = 5 ∨ k = 6 by omega) with rfl | rfl | rfl | rfl | rfl | rfl | rfl <;> rfl
/-- What the list of the last numbers says. -/
def Ris (a b c : Int) (f : Nat → Int) (k : Nat) : Prop := ∀ j : Nat, j ≤ 6 → f j = -1 ∨ ∃ s : Nat, s < k ∧ we a b c s = 0 ∧ wk a b c s = j ∧ f j = wn a b c s
theorem ris_lt {a b c : Int} {f : Nat → Int} {k j : Nat} (h : Ris a b c f k) (hj : j ≤ 6) (he : we a b c k = 0) (hk : wk a b c k = j) : f j < wn a b c k := by
  have := wn_bd a b c k
  rcases h j hj with e | ⟨s, h1, h2, h3, h4⟩
  · omega
  · rw [h4]
    exact wn_rises he h2 (by omega) (by omega)
theorem ris_put {a b c : Int} {f : Nat → Int} {k j : Nat} (h : Ris a b c f k) (he : we a b c k = 0) (hk : wk a b c k = j) : Ris a b c (put7 f j (wn a b c k)) (k + 1) := by
  intro i hi
  by_cases e : i = j
  · subst e
    exact .inr ⟨k, by omega, he, hk, by simp [put7]⟩
  · rcases h i hi with e1 | ⟨s, h1, h2, h3, h4⟩
    · exact .inl (by simp [put7, e, e1])
    · exact .inr ⟨s, by omega, h2, h3, by simp [put7, e, h4]⟩

theorem heap_set_ne {w : World} {g h i : Nat} {v : Value} {x : Option Obj} (hne : h ≠ g) (hX : w.heap[h]? = x) : (w.setCell ⟨g, i, none⟩ v).heap[h]? = x := (Below.heap_setCell w ⟨g, i, none⟩ v h hne).trans hX
theorem heap_alloc_lt {w : World} {h : Nat} {o x : Obj} (hX : w.heap[h]? = some x) : (w.alloc o).heap[h]? = some x := (Below.heap_alloc w o h (blk_lt hX)).trans hX
theorem we_group {a b c : Int} (hg : Gok a b c) (k : Nat) (h1 : 1 ≤ k) (h2 : (k : Int) < a) : be a b c ((k : Int) - 1) (c - 1) = 0 ∧ me a b c k = 0 ∧ mapAt a b c k false = bs a b c ((k : Int) - 1) (c - 1) + 1 ∧ 0 ≤ bs a b c ((k : Int) - 1) (c - 1) ∧ bs a b c ((k : Int) - 1) (c - 1) ≤ 403 := by
  have hc := hg.2.2.2.2.1
  have hb1 := hg.2.2.1
  have h3 : gwithin a b c ((k : Int) - 1) a = 0 := within_zero hg (by omega) (by omega)
  have h4 : gwithin a b c (c - 1) c = 0 := within_zero hg (by omega) (by omega)
  have h5 : be a b c ((k : Int) - 1) (c - 1) = 0 := by rw [be, if_neg (by omega), h4]
  have h6 : me a b c k = 0 := within_zero hg (by omega) h2
  have h7 := @next_group a b c k
  have h8 := in_size hg (q := (k : Int) - 1) (r := 2 + b + (c - 1)) (by omega) (by omega) (by omega) (by omega)
  have h9 := (size_bd a b c)
  have h10 : bs a b c ((k : Int) - 1) (c - 1) = gfirst a b c ((k : Int) - 1) + 2 + b + (c - 1) := by rw [bs, if_neg (by omega)]
  refine ⟨h5, h6, ?_, by omega, by omega⟩
  rw [mapAt, if_neg (by omega), h10]
  simp
  omega

/-- What the walk carries: the box of the geometry, the list. -/
structure Box3 (w wr : World) (a b c : Int) : Prop where
  below : Below w.heap.size w wr
  blk : wr.heap[w.heap.size]? = some (.cells #[.int .i64 a, .int .i64 b, .int .i64 c] 34 (0, 0))
theorem Box3.new (w : World) (a b c : Int) : Box3 w (w.alloc (.cells #[.int .i64 a, .int .i64 b, .int .i64 c] 34)) a b c := ⟨below_alloc (Below.refl _ _) _, heap_alloc_new _ _⟩
theorem Box3.step {w w1 w2 : World} {a b c : Int} (h : Box3 w w1 a b c) (hb : Below w1.heap.size w1 w2) : Box3 w w2 a b c := ⟨below_step hb h.below.size h.below, (hb.block _ (blk_lt h.blk)).trans h.blk⟩
theorem Box3.box {w w1 : World} {a b c : Int} (h : Box3 w w1 a b c) : (∀ o, w1.cell? ⟨w.heap.size, o, none⟩ = #[Value.int .i64 a, .int .i64 b, .int .i64 c][o]?) ∧ w.heap.size < w1.heap.size := ⟨fun o => blk_cell h.blk o, blk_lt h.blk⟩
end Cw
