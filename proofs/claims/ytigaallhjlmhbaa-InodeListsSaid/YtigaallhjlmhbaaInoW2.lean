/- The walks of the packages inode and cutwaterref06: the patches of parts. -/
import Derived.Test.YtigaallhjlmhbaaInoW
import Derived.Test.YtigaallhjlmhbaaFieldW4
namespace Cw
open Go Go.RowKit Go.IntWalk
open Go.Proofs

def atn (i m : Int) : Bool := decide (i < 0 ∨ m ≤ i)
def ato (f i m n : Int) : Int := if atn i m = true then 0 else putoff (f + 2 * i) 2 n
def atb (f i m n : Int) : List UInt8 := if atn i m = true then [] else putb (f + 2 * i) 2 n
def ate (f i m n : Int) : Int := if atn i m = true then 1 else pute (f + 2 * i) 2 n

set_option maxRecDepth 100000 in
set_option maxHeartbeats 1000000 in
theorem iat_any (f i m n : Int) (f0 : 0 ≤ f) (f1 : f ≤ 8) (m1 : m ≤ 32) (w : World) : Calls Try.prog 74 #[.int .i64 f, .int .i64 i, .int .i64 m, .int .i64 n] w fun e w' => e = .returned (.tuple #[patch (ato f i m n) (atb f i m n), .int .i64 (ate f i m n)]) ∧ Below w.heap.size w w' := by
  by_cases h : atn i m = true
  · have hh : i < 0 ∨ m ≤ i := by simpa [atn] using h
    rw [ato, atb, ate, if_pos h, if_pos h, if_pos h]
    clear h
    rcases hh with h1 | h1
    · skip
      go_enter Try.func74, Try.ntmps74
      go_wp2_with fail
      have hM1 := heap_alloc_new w (.cells #[.int .i64 0, .string ⟨#[]⟩] 45)
      have hB1 := below_alloc (Below.refl w.heap.size w) (.cells #[.int .i64 0, .string ⟨#[]⟩] 45)
      generalize World.alloc w _ = w0 at *
      have m0 := blk_cell hM1 0
      have m1 := blk_cell hM1 1
      refine bodyPost_ret (v := .tuple #[.agg #[.int .i64 0, .string ⟨#[]⟩], .int .i64 1]) (by simp [results, Try.results74, go_sem, m0, m1]) rfl ⟨rfl, hB1⟩
    · by_cases h0 : i < 0
      · skip
        go_enter Try.func74, Try.ntmps74
        go_wp2_with fail
        have hM1 := heap_alloc_new w (.cells #[.int .i64 0, .string ⟨#[]⟩] 45)
        have hB1 := below_alloc (Below.refl w.heap.size w) (.cells #[.int .i64 0, .string ⟨#[]⟩] 45)
        generalize World.alloc w _ = w0 at *
        have m0 := blk_cell hM1 0
        have m1 := blk_cell hM1 1
        refine bodyPost_ret (v := .tuple #[.agg #[.int .i64 0, .string ⟨#[]⟩], .int .i64 1]) (by simp [results, Try.results74, go_sem, m0, m1]) rfl ⟨rfl, hB1⟩
      · skip
        go_enter Try.func74, Try.ntmps74
        go_wp2_with fail
        have hM1 := heap_alloc_new w (.cells #[.int .i64 0, .string ⟨#[]⟩] 45)
        have hB1 := below_alloc (Below.refl w.heap.size w) (.cells #[.int .i64 0, .string ⟨#[]⟩] 45)
        generalize World.alloc w _ = w0 at *
        have m0 := blk_cell hM1 0
        have m1 := blk_cell hM1 1
        refine bodyPost_ret (v := .tuple #[.agg #[.int .i64 0, .string ⟨#[]⟩], .int .i64 1]) (by simp [results, Try.results74, go_sem, m0, m1]) rfl ⟨rfl, hB1⟩
  · have hh : ¬ (i < 0 ∨ m ≤ i) := by simpa [atn] using h
    rw [ato, atb, ate, if_neg h, if_neg h, if_neg h]
    have H := Lib.hid (put_any (f + 2 * i) 2 n)
    clear h
    generalize putoff (f + 2 * i) 2 n = po at *
    generalize putb (f + 2 * i) 2 n = pb at *
    generalize pute (f + 2 * i) 2 n = pe at *
    unfold patch at *
    generalize S pb = ps at *
    go_enter Try.func74, Try.ntmps74
    go_wp2_with fail
    have hM := heap_alloc_new w (.cells #[.int .i64 0, .string ⟨#[]⟩] 45)
    have hB := below_alloc (Below.refl w.heap.size w) (.cells #[.int .i64 0, .string ⟨#[]⟩] 45)
    generalize World.alloc w _ = w0 at *
    refine (H.out _).mono ?_
    rintro e w1 ⟨rfl, hb⟩
    have hM1 := (hb.block _ (blk_lt hM)).trans hM
    have hB1 := below_step hb hB.size hB
    clear hb hM hB
    have m0 := blk_cell hM1 0
    have m1 := blk_cell hM1 1
    have f0 := blk_free hM1 0
    have f1 := blk_free hM1 1
    obtain ⟨X0, X1⟩ := stored2 hM1 (.int .i64 po) (.string ps)
    go_wp2_with fail
    refine bodyPost_ret (v := .tuple #[.agg #[.int .i64 po, .string ps], .int .i64 pe]) (by simp [results, Try.results74, go_sem, X0, X1]) rfl ⟨rfl, below_setCell (below_setCell hB1 (by omega) _ _) (by omega) _ _⟩

set_option maxRecDepth 100000 in
set_option maxHeartbeats 1000000 in
theorem iitem_any (i n : Int) (w : World) : Calls Try.prog 42 #[.int .i64 i, .int .i64 n] w fun e w' => e = .returned (.tuple #[patch (ato 0 i 32 n) (atb 0 i 32 n), .int .i64 (ate 0 i 32 n)]) ∧ Below w.heap.size w w' := by
  have H := Lib.hid (iat_any 0 i 32 n (by omega) (by omega) (by omega))
  generalize ato 0 i 32 n = po at *
  generalize atb 0 i 32 n = pb at *
  generalize ate 0 i 32 n = pe at *
  unfold patch at *
  generalize S pb = ps at *
  go_enter Try.func42, Try.ntmps42
  go_wp2_with fail
  have hM := heap_alloc_new w (.cells #[.int .i64 0, .string ⟨#[]⟩] 45)
  have hB := below_alloc (Below.refl w.heap.size w) (.cells #[.int .i64 0, .string ⟨#[]⟩] 45)
  generalize World.alloc w _ = w0 at *
  refine (H.out _).mono ?_
  rintro e w1 ⟨rfl, hb⟩
  have hM1 := (hb.block _ (blk_lt hM)).trans hM
  have hB1 := below_step hb hB.size hB
  clear hb hM hB
  have m0 := blk_cell hM1 0
  have m1 := blk_cell hM1 1
  have f0 := blk_free hM1 0
  have f1 := blk_free hM1 1
  obtain ⟨X0, X1⟩ := stored2 hM1 (.int .i64 po) (.string ps)
  go_wp2_with fail
  refine bodyPost_ret (v := .tuple #[.agg #[.int .i64 po, .string ps], .int .i64 pe]) (by simp [results, Try.results42, go_sem, X0, X1]) rfl ⟨rfl, below_setCell (below_setCell hB1 (by omega) _ _) (by omega) _ _⟩

end Cw
