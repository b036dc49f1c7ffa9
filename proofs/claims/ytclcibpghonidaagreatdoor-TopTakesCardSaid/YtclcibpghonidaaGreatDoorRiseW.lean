/- Of each kind the sectors' numbers rise; each group lies behind the one ahead of it. No program in sight. -/
import Derived.Test.YtclcibpghonidaaGreatDoorGeoSpec
import Derived.Test.YtclcibpghonidaaGreatDoorGeomW
import Derived.Test.YtclcibpghonidaaGreatDoorWireW
namespace Cw
end Cw
namespace Cw
/-- How many of a kind there are ahead of a sector, counted. -/
def cnt (a b c k : Int) : Nat → Int
  | 0 => 0
  | n + 1 => cnt a b c k n + if wk a b c n = k then 1 else 0
/-- The same, reckoned. -/
def cfm (a b c k s : Int) : Int :=
  if s ≤ gfirst a b c 0 then (if k = 0 then (if 1 ≤ s then 1 else 0) else if k = 1 then (if 2 ≤ s then 1 else 0) else if k = 2 then (if 2 ≤ s then s - 2 else 0) else 0)
  else if k = 0 ∨ k = 1 then 1 else if k = 2 then gfirst a b c 0 - 2
  else if k = 3 then (s - gfirst a b c 0) / (2 + b + c) + (if 1 ≤ (s - gfirst a b c 0) % (2 + b + c) then 1 else 0)
  else if k = 4 then (s - gfirst a b c 0) / (2 + b + c) + (if 2 ≤ (s - gfirst a b c 0) % (2 + b + c) then 1 else 0)
  else if k = 5 then (s - gfirst a b c 0) / (2 + b + c) * b + (if (s - gfirst a b c 0) % (2 + b + c) ≤ 2 then 0 else if (s - gfirst a b c 0) % (2 + b + c) ≤ 2 + b then (s - gfirst a b c 0) % (2 + b + c) - 2 else b)
  else if k = 6 then (s - gfirst a b c 0) / (2 + b + c) * c + (if (s - gfirst a b c 0) % (2 + b + c) ≤ 2 + b then 0 else (s - gfirst a b c 0) % (2 + b + c) - 2 - b)
  else 0
end Cw
namespace Cw
open Go Go.RowKit Go.IntWalk
open Go.Proofs

def L7 (f : Nat → Int) : Array Value := #[.int .i64 (f 0), .int .i64 (f 1), .int .i64 (f 2), .int .i64 (f 3), .int .i64 (f 4), .int .i64 (f 5), .int .i64 (f 6)]
def put7 (f : Nat → Int) (k : Nat) (v : Int) : Nat → Int := fun j => if j = k then v else f j
/-- What the list of the last numbers says. -/
def Ris (a b c : Int) (f : Nat → Int) (k : Nat) : Prop := ∀ j : Nat, j ≤ 6 → f j = -1 ∨ ∃ s : Nat, s < k ∧ we a b c s = 0 ∧ wk a b c s = j ∧ f j = wn a b c s
/-- What the walk carries: the box of the geometry, the list. -/
structure Box3 (w wr : World) (a b c : Int) : Prop where
  below : Below w.heap.size w wr
  blk : wr.heap[w.heap.size]? = some (.cells #[.int .i64 a, .int .i64 b, .int .i64 c] 41 (0, 0))
theorem Box3.new (w : World) (a b c : Int) : Box3 w (w.alloc (.cells #[.int .i64 a, .int .i64 b, .int .i64 c] 41)) a b c := ⟨below_alloc (Below.refl _ _) _, heap_alloc_new _ _⟩
theorem Box3.step {w w1 w2 : World} {a b c : Int} (h : Box3 w w1 a b c) (hb : Below w1.heap.size w1 w2) : Box3 w w2 a b c := ⟨below_step hb h.below.size h.below, (hb.block _ (blk_lt h.blk)).trans h.blk⟩
theorem Box3.box {w w1 : World} {a b c : Int} (h : Box3 w w1 a b c) : (∀ o, w1.cell? ⟨w.heap.size, o, none⟩ = #[Value.int .i64 a, .int .i64 b, .int .i64 c][o]?) ∧ w.heap.size < w1.heap.size := ⟨fun o => blk_cell h.blk o, blk_lt h.blk⟩
end Cw
