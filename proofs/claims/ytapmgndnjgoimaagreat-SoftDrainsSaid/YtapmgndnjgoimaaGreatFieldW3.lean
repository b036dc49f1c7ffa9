/- The walks of the document's answer for the package field: wide, within, Num, Get, Put, Check, Blank. -/
import Derived.Test.YtapmgndnjgoimaaGreatFieldW2
import Derived.Test.YtapmgndnjgoimaaGreatCopy
namespace Cw
open Go Go.RowKit Go.IntWalk
open Go.Proofs

theorem num_cons (s : ByteArray) (o n k : Nat) (hk : k < n) (h : o + n ≤ s.size) : numAt s (o + k) (n - k) = (s[o + k]'(by omega)).toNat + 256 * numAt s (o + (k + 1)) (n - (k + 1)) := by
  rw [numAt, drop1 s (o + k) (by omega), show n - k = (n - (k + 1)) + 1 by omega, List.take_succ_cons]
  rfl
theorem num_lt (l : List UInt8) : num l < 256 ^ l.length := by
  induction l with
  | nil => simp [num]
  | cons b l ih =>
    have := b.toNat_lt
    simp only [num, List.foldr_cons, List.length_cons, Nat.pow_succ] at ih ⊢
    omega
theorem numAt_lt (s : ByteArray) (o n : Nat) (hn : n ≤ 6) : numAt s o n < 281474976710656 := by
  refine Nat.lt_of_lt_of_le (num_lt _) ?_
  refine Nat.le_trans (Nat.pow_le_pow_right (by decide) (show _ ≤ 6 by rw [List.length_take]; omega)) (by decide)

theorem nof1 {n : Int} {h1 : n = 1 ∨ n = 2 ∨ n = 4} : 0 ≤ n := by omega

theorem fresh64 : ∃ C : Array Value, C.toList = bcells (List.replicate 64 0) ∧ ∀ w, (Instr.makeSlice 37 (.int .i64 64) (.int .i64 64)).run Tryz.prog w = .ok (.slice (some ⟨w.heap.size, 0, none⟩) 64 64) (w.alloc (.cells C 5)) :=
  ⟨(bcells (List.replicate 64 0)).toArray, rfl, fun _ => by kernel_rfl⟩

end Cw
/- ref01.Put; what all laws of the layer use: works, names; book.Among, book.Fit. -/
namespace Cw
open Go Go.RowKit Go.IntWalk
open Go.Proofs

theorem held2 {w : World} {g : Nat} {x y : Value} {T : TypeId} (h : w.heap[g]? = some (.cells #[x, y] T (0, 0))) :
    w.cell? ⟨g, 0, none⟩ = some x ∧ w.cell? ⟨g, 1, none⟩ = some y ∧ w.frozen? ⟨g, 0, none⟩ = false ∧ w.frozen? ⟨g, 1, none⟩ = false :=
  ⟨cell_of_row w g 0 _ T (0, 0) h, cell_of_row w g 1 _ T (0, 0) h, by simp [World.frozen?, h], by simp [World.frozen?, h]⟩

theorem stored2 {w : World} {g : Nat} {x y : Value} {T : TypeId} (h : w.heap[g]? = some (.cells #[x, y] T (0, 0))) (a b : Value) :
    (w.setCell ⟨g, 0, none⟩ a).cell? ⟨g, 0, none⟩ = some a ∧ ((w.setCell ⟨g, 0, none⟩ a).setCell ⟨g, 1, none⟩ b).cell? ⟨g, 1, none⟩ = some b := by
  have h1 := setCell_eq_setRow w g 0 #[x, y] T (0, 0) a h
  have hh1 : (w.setCell ⟨g, 0, none⟩ a).heap[g]? = some (.cells #[a, y] T (0, 0)) := by rw [h1]; exact setRow_heap w g _ _ T _ h
  have h2 := setCell_eq_setRow (w.setCell ⟨g, 0, none⟩ a) g 1 #[a, y] T (0, 0) b hh1
  have hh2 : ((w.setCell ⟨g, 0, none⟩ a).setCell ⟨g, 1, none⟩ b).heap[g]? = some (.cells #[a, b] T (0, 0)) := by rw [h2]; exact setRow_heap _ g _ _ T _ hh1
  exact ⟨(held2 hh1).1, (held2 hh2).2.1⟩
theorem below_setCell {B g : Nat} {w0 w : World} (hb : Below B w0 w) (hg : B ≤ g) (o : Nat) (v : Value) : Below B w0 (w.setCell ⟨g, o, none⟩ v) :=
  hb.trans ⟨rfl, rfl, rfl, by simp [World.setCell], fun k hk => Below.heap_setCell _ _ _ _ (fun e => by simp at e; omega)⟩

theorem put_258 (w : World) : Calls Tryz.prog 69 #[.int .i64 3, .int .i64 2, .int .i64 258] w fun e w' => e = .returned (.tuple #[.agg #[.int .i64 3, .string ⟨#[2, 1]⟩], .int .i64 0]) ∧ Below w.heap.size w w' := by
  have h := put_any 3 2 258 w
  rw [show pute 3 2 258 = 0 by decide, show putoff 3 2 258 = 3 by decide, show putb 3 2 258 = [2, 1] by decide] at h
  exact h

theorem blank_len (w : World) : Calls Tryz.prog 19 #[] w fun e w' => (∃ s : ByteArray, e = .returned (.string s) ∧ s.size = 64) ∧ Below w.heap.size w w' :=
  (blank_any w).mono fun e w' ⟨he, hb⟩ => ⟨⟨_, he, by decide⟩, hb⟩

end Cw
