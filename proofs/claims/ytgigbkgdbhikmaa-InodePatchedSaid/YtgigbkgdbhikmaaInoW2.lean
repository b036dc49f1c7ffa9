/- The walks of the packages inode and cutwaterref06: the patches of parts. -/
import Derived.Test.YtgigbkgdbhikmaaInoW
import Derived.Test.YtgigbkgdbhikmaaFieldW4
namespace Cw
open Go Go.RowKit Go.IntWalk
open Go.Proofs

def atn (i m : Int) : Bool := decide (i < 0 ∨ m ≤ i)
def ato (f i m n : Int) : Int := if atn i m = true then 0 else putoff (f + 2 * i) 2 n
def atb (f i m n : Int) : List UInt8 := if atn i m = true then [] else putb (f + 2 * i) 2 n
def ate (f i m n : Int) : Int := if atn i m = true then 1 else pute (f + 2 * i) 2 n

set_option maxRecDepth 100000 in
set_option maxHeartbeats 1000000 in
theorem ilinks_any (n : Int) (w : World) : Calls Try.prog 63 #[.int .i64 n] w fun e w' => e = .returned (.tuple #[patch (putoff 1 1 n) (putb 1 1 n), .int .i64 (pute 1 1 n)]) ∧ Below w.heap.size w w' := by
  have H := Lib.hid (put_any 1 1 n)
  generalize putoff 1 1 n = po at *
  generalize putb 1 1 n = pb at *
  generalize pute 1 1 n = pe at *
  unfold patch at *
  generalize S pb = ps at *
  go_enter Try.func63, Try.ntmps63
  go_wp2_with fail
  have hM := heap_alloc_new w (.cells #[.int .i64 0, .string ⟨#[]⟩] 39)
  have hB := below_alloc (Below.refl w.heap.size w) (.cells #[.int .i64 0, .string ⟨#[]⟩] 39)
  generalize World.alloc w _ = w0 at *
  refine (H.out _).mono ?_
  rintro e w1 ⟨rfl, hb⟩
  have hM1 := (hb.block _ (blk_lt hM)).trans hM
  have hB1 := below_step hb hB.size hB
  clear hb hM hB
  have m0 := blk_cell hM1 0
  have m1 := blk_cell hM1 1
  have f0 := blk_free hM1 0
  have f1 := blk_free hM1 1
  obtain ⟨X0, X1⟩ := stored2 hM1 (.int .i64 po) (.string ps)
  go_wp2_with fail
  refine bodyPost_ret (v := .tuple #[.agg #[.int .i64 po, .string ps], .int .i64 pe]) (by simp [results, Try.results63, go_sem, X0, X1]) rfl ⟨rfl, below_setCell (below_setCell hB1 (by omega) _ _) (by omega) _ _⟩

set_option maxRecDepth 100000 in
set_option maxHeartbeats 1000000 in
theorem isize_any (n : Int) (w : World) : Calls Try.prog 65 #[.int .i64 n] w fun e w' => e = .returned (.tuple #[patch (putoff 2 2 n) (putb 2 2 n), .int .i64 (pute 2 2 n)]) ∧ Below w.heap.size w w' := by
  have H := Lib.hid (put_any 2 2 n)
  generalize putoff 2 2 n = po at *
  generalize putb 2 2 n = pb at *
  generalize pute 2 2 n = pe at *
  unfold patch at *
  generalize S pb = ps at *
  go_enter Try.func65, Try.ntmps65
  go_wp2_with fail
  have hM := heap_alloc_new w (.cells #[.int .i64 0, .string ⟨#[]⟩] 39)
  have hB := below_alloc (Below.refl w.heap.size w) (.cells #[.int .i64 0, .string ⟨#[]⟩] 39)
  generalize World.alloc w _ = w0 at *
  refine (H.out _).mono ?_
  rintro e w1 ⟨rfl, hb⟩
  have hM1 := (hb.block _ (blk_lt hM)).trans hM
  have hB1 := below_step hb hB.size hB
  clear hb hM hB
  have m0 := blk_cell hM1 0
  have m1 := blk_cell hM1 1
  have f0 := blk_free hM1 0
  have f1 := blk_free hM1 1
  obtain ⟨X0, X1⟩ := stored2 hM1 (.int .i64 po) (.string ps)
  go_wp2_with fail
  refine bodyPost_ret (v := .tuple #[.agg #[.int .i64 po, .string ps], .int .i64 pe]) (by simp [results, Try.results65, go_sem, X0, X1]) rfl ⟨rfl, below_setCell (below_setCell hB1 (by omega) _ _) (by omega) _ _⟩

set_option maxRecDepth 100000 in
set_option maxHeartbeats 1000000 in
theorem iparent_any (n : Int) (w : World) : Calls Try.prog 66 #[.int .i64 n] w fun e w' => e = .returned (.tuple #[patch (putoff 4 2 n) (putb 4 2 n), .int .i64 (pute 4 2 n)]) ∧ Below w.heap.size w w' := by
  have H := Lib.hid (put_any 4 2 n)
  generalize putoff 4 2 n = po at *
  generalize putb 4 2 n = pb at *
  generalize pute 4 2 n = pe at *
  unfold patch at *
  generalize S pb = ps at *
  go_enter Try.func66, Try.ntmps66
  go_wp2_with fail
  have hM := heap_alloc_new w (.cells #[.int .i64 0, .string ⟨#[]⟩] 39)
  have hB := below_alloc (Below.refl w.heap.size w) (.cells #[.int .i64 0, .string ⟨#[]⟩] 39)
  generalize World.alloc w _ = w0 at *
  refine (H.out _).mono ?_
  rintro e w1 ⟨rfl, hb⟩
  have hM1 := (hb.block _ (blk_lt hM)).trans hM
  have hB1 := below_step hb hB.size hB
  clear hb hM hB
  have m0 := blk_cell hM1 0
  have m1 := blk_cell hM1 1
  have f0 := blk_free hM1 0
  have f1 := blk_free hM1 1
  obtain ⟨X0, X1⟩ := stored2 hM1 (.int .i64 po) (.string ps)
  go_wp2_with fail
  refine bodyPost_ret (v := .tuple #[.agg #[.int .i64 po, .string ps], .int .i64 pe]) (by simp [results, Try.results66, go_sem, X0, X1]) rfl ⟨rfl, below_setCell (below_setCell hB1 (by omega) _ _) (by omega) _ _⟩

set_option maxRecDepth 100000 in
set_option maxHeartbeats 1000000 in
theorem imore_any (n : Int) (w : World) : Calls Try.prog 69 #[.int .i64 n] w fun e w' => e = .returned (.tuple #[patch (putoff 24 2 n) (putb 24 2 n), .int .i64 (pute 24 2 n)]) ∧ Below w.heap.size w w' := by
  have H := Lib.hid (put_any 24 2 n)
  generalize putoff 24 2 n = po at *
  generalize putb 24 2 n = pb at *
  generalize pute 24 2 n = pe at *
  unfold patch at *
  generalize S pb = ps at *
  go_enter Try.func69, Try.ntmps69
  go_wp2_with fail
  have hM := heap_alloc_new w (.cells #[.int .i64 0, .string ⟨#[]⟩] 39)
  have hB := below_alloc (Below.refl w.heap.size w) (.cells #[.int .i64 0, .string ⟨#[]⟩] 39)
  generalize World.alloc w _ = w0 at *
  refine (H.out _).mono ?_
  rintro e w1 ⟨rfl, hb⟩
  have hM1 := (hb.block _ (blk_lt hM)).trans hM
  have hB1 := below_step hb hB.size hB
  clear hb hM hB
  have m0 := blk_cell hM1 0
  have m1 := blk_cell hM1 1
  have f0 := blk_free hM1 0
  have f1 := blk_free hM1 1
  obtain ⟨X0, X1⟩ := stored2 hM1 (.int .i64 po) (.string ps)
  go_wp2_with fail
  refine bodyPost_ret (v := .tuple #[.agg #[.int .i64 po, .string ps], .int .i64 pe]) (by simp [results, Try.results69, go_sem, X0, X1]) rfl ⟨rfl, below_setCell (below_setCell hB1 (by omega) _ _) (by omega) _ _⟩

set_option maxRecDepth 100000 in
set_option maxHeartbeats 1000000 in
theorem rpart_any (o b n : Int) (w : World) : Calls Try.prog 64 #[.int .i64 o, .int .i64 b, .int .i64 n] w fun e w' => e = .returned (.tuple #[patch (putoff o b n) (putb o b n), .int .i64 (pute o b n)]) ∧ Below w.heap.size w w' := by
  have H := Lib.hid (rput_any o b n)
  generalize putoff o b n = po at *
  generalize putb o b n = pb at *
  generalize pute o b n = pe at *
  unfold patch at *
  generalize S pb = ps at *
  go_enter Try.func64, Try.ntmps64
  go_wp2_with fail
  have hM := heap_alloc_new w (.cells #[.int .i64 0, .string ⟨#[]⟩] 39)
  have hB := below_alloc (Below.refl w.heap.size w) (.cells #[.int .i64 0, .string ⟨#[]⟩] 39)
  generalize World.alloc w _ = w0 at *
  refine (H.out _).mono ?_
  rintro e w1 ⟨rfl, hb⟩
  have hM1 := (hb.block _ (blk_lt hM)).trans hM
  have hB1 := below_step hb hB.size hB
  clear hb hM hB
  have m0 := blk_cell hM1 0
  have m1 := blk_cell hM1 1
  have f0 := blk_free hM1 0
  have f1 := blk_free hM1 1
  obtain ⟨X0, X1⟩ := stored2 hM1 (.int .i64 po) (.string ps)
  go_wp2_with fail
  refine bodyPost_ret (v := .tuple #[.agg #[.int .i64 po, .string ps], .int .i64 pe]) (by simp [results, Try.results64, go_sem, X0, X1]) rfl ⟨rfl, below_setCell (below_setCell hB1 (by omega) _ _) (by omega) _ _⟩

set_option maxRecDepth 100000 in
set_option maxHeartbeats 1000000 in
theorem iat_any (f i m n : Int) (f0 : 0 ≤ f) (f1 : f ≤ 8) (m1 : m ≤ 32) (w : World) : Calls Try.prog 106 #[.int .i64 f, .int .i64 i, .int .i64 m, .int .i64 n] w fun e w' => e = .returned (.tuple #[patch (ato f i m n) (atb f i m n), .int .i64 (ate f i m n)]) ∧ Below w.heap.size w w' := by
  by_cases h : atn i m = true
  · have hh : i < 0 ∨ m ≤ i := by simpa [atn] using h
    rw [ato, atb, ate, if_pos h, if_pos h, if_pos h]
    clear h
    rcases hh with h1 | h1
    · skip
      go_enter Try.func106, Try.ntmps106
      go_wp2_with fail
      have hM1 := heap_alloc_new w (.cells #[.int .i64 0, .string ⟨#[]⟩] 39)
      have hB1 := below_alloc (Below.refl w.heap.size w) (.cells #[.int .i64 0, .string ⟨#[]⟩] 39)
      generalize World.alloc w _ = w0 at *
      have m0 := blk_cell hM1 0
      have m1 := blk_cell hM1 1
      refine bodyPost_ret (v := .tuple #[.agg #[.int .i64 0, .string ⟨#[]⟩], .int .i64 1]) (by simp [results, Try.results106, go_sem, m0, m1]) rfl ⟨rfl, hB1⟩
    · by_cases h0 : i < 0
      · skip
        go_enter Try.func106, Try.ntmps106
        go_wp2_with fail
        have hM1 := heap_alloc_new w (.cells #[.int .i64 0, .string ⟨#[]⟩] 39)
        have hB1 := below_alloc (Below.refl w.heap.size w) (.cells #[.int .i64 0, .string ⟨#[]⟩] 39)
        generalize World.alloc w _ = w0 at *
        have m0 := blk_cell hM1 0
        have m1 := blk_cell hM1 1
        refine bodyPost_ret (v := .tuple #[.agg #[.int .i64 0, .string ⟨#[]⟩], .int .i64 1]) (by simp [results, Try.results106, go_sem, m0, m1]) rfl ⟨rfl, hB1⟩
      · skip
        go_enter Try.func106, Try.ntmps106
        go_wp2_with fail
        have hM1 := heap_alloc_new w (.cells #[.int .i64 0, .string ⟨#[]⟩] 39)
        have hB1 := below_alloc (Below.refl w.heap.size w) (.cells #[.int .i64 0, .string ⟨#[]⟩] 39)
        generalize World.alloc w _ = w0 at *
        have m0 := blk_cell hM1 0
        have m1 := blk_cell hM1 1
        refine bodyPost_ret (v := .tuple #[.agg #[.int .i64 0, .string ⟨#[]⟩], .int .i64 1]) (by simp [results, Try.results106, go_sem, m0, m1]) rfl ⟨rfl, hB1⟩
  · have hh : ¬ (i < 0 ∨ m ≤ i) := by simpa [atn] using h
    rw [ato, atb, ate, if_neg h, if_neg h, if_neg h]
    have H := Lib.hid (put_any (f + 2 * i) 2 n)
    clear h
    generalize putoff (f + 2 * i) 2 n = po at *
    generalize putb (f + 2 * i) 2 n = pb at *
    generalize pute (f + 2 * i) 2 n = pe at *
    unfold patch at *
    generalize S pb = ps at *
    go_enter Try.func106, Try.ntmps106
    go_wp2_with fail
    have hM := heap_alloc_new w (.cells #[.int .i64 0, .string ⟨#[]⟩] 39)
    have hB := below_alloc (Below.refl w.heap.size w) (.cells #[.int .i64 0, .string ⟨#[]⟩] 39)
    generalize World.alloc w _ = w0 at *
    refine (H.out _).mono ?_
    rintro e w1 ⟨rfl, hb⟩
    have hM1 := (hb.block _ (blk_lt hM)).trans hM
    have hB1 := below_step hb hB.size hB
    clear hb hM hB
    have m0 := blk_cell hM1 0
    have m1 := blk_cell hM1 1
    have f0 := blk_free hM1 0
    have f1 := blk_free hM1 1
    obtain ⟨X0, X1⟩ := stored2 hM1 (.int .i64 po) (.string ps)
    go_wp2_with fail
    refine bodyPost_ret (v := .tuple #[.agg #[.int .i64 po, .string ps], .int .i64 pe]) (by simp [results, Try.results106, go_sem, X0, X1]) rfl ⟨rfl, below_setCell (below_setCell hB1 (by omega) _ _) (by omega) _ _⟩

set_option maxRecDepth 100000 in
set_option maxHeartbeats 1000000 in
theorem idirect_any (i n : Int) (w : World) : Calls Try.prog 67 #[.int .i64 i, .int .i64 n] w fun e w' => e = .returned (.tuple #[patch (ato 8 i 8 n) (atb 8 i 8 n), .int .i64 (ate 8 i 8 n)]) ∧ Below w.heap.size w w' := by
  have H := Lib.hid (iat_any 8 i 8 n (by omega) (by omega) (by omega))
  generalize ato 8 i 8 n = po at *
  generalize atb 8 i 8 n = pb at *
  generalize ate 8 i 8 n = pe at *
  unfold patch at *
  generalize S pb = ps at *
  go_enter Try.func67, Try.ntmps67
  go_wp2_with fail
  have hM := heap_alloc_new w (.cells #[.int .i64 0, .string ⟨#[]⟩] 39)
  have hB := below_alloc (Below.refl w.heap.size w) (.cells #[.int .i64 0, .string ⟨#[]⟩] 39)
  generalize World.alloc w _ = w0 at *
  refine (H.out _).mono ?_
  rintro e w1 ⟨rfl, hb⟩
  have hM1 := (hb.block _ (blk_lt hM)).trans hM
  have hB1 := below_step hb hB.size hB
  clear hb hM hB
  have m0 := blk_cell hM1 0
  have m1 := blk_cell hM1 1
  have f0 := blk_free hM1 0
  have f1 := blk_free hM1 1
  obtain ⟨X0, X1⟩ := stored2 hM1 (.int .i64 po) (.string ps)
  go_wp2_with fail
  refine bodyPost_ret (v := .tuple #[.agg #[.int .i64 po, .string ps], .int .i64 pe]) (by simp [results, Try.results67, go_sem, X0, X1]) rfl ⟨rfl, below_setCell (below_setCell hB1 (by omega) _ _) (by omega) _ _⟩

set_option maxRecDepth 100000 in
set_option maxHeartbeats 1000000 in
theorem iitem_any (i n : Int) (w : World) : Calls Try.prog 70 #[.int .i64 i, .int .i64 n] w fun e w' => e = .returned (.tuple #[patch (ato 0 i 32 n) (atb 0 i 32 n), .int .i64 (ate 0 i 32 n)]) ∧ Below w.heap.size w w' := by
  have H := Lib.hid (iat_any 0 i 32 n (by omega) (by omega) (by omega))
  generalize ato 0 i 32 n = po at *
  generalize atb 0 i 32 n = pb at *
  generalize ate 0 i 32 n = pe at *
  unfold patch at *
  generalize S pb = ps at *
  go_enter Try.func70, Try.ntmps70
  go_wp2_with fail
  have hM := heap_alloc_new w (.cells #[.int .i64 0, .string ⟨#[]⟩] 39)
  have hB := below_alloc (Below.refl w.heap.size w) (.cells #[.int .i64 0, .string ⟨#[]⟩] 39)
  generalize World.alloc w _ = w0 at *
  refine (H.out _).mono ?_
  rintro e w1 ⟨rfl, hb⟩
  have hM1 := (hb.block _ (blk_lt hM)).trans hM
  have hB1 := below_step hb hB.size hB
  clear hb hM hB
  have m0 := blk_cell hM1 0
  have m1 := blk_cell hM1 1
  have f0 := blk_free hM1 0
  have f1 := blk_free hM1 1
  obtain ⟨X0, X1⟩ := stored2 hM1 (.int .i64 po) (.string ps)
  go_wp2_with fail
  refine bodyPost_ret (v := .tuple #[.agg #[.int .i64 po, .string ps], .int .i64 pe]) (by simp [results, Try.results70, go_sem, X0, X1]) rfl ⟨rfl, below_setCell (below_setCell hB1 (by omega) _ _) (by omega) _ _⟩

set_option maxRecDepth 100000 in
set_option maxHeartbeats 1000000 in
theorem rdirect_any (i n : Int) (w : World) : Calls Try.prog 68 #[.int .i64 i, .int .i64 n] w fun e w' => e = .returned (.tuple #[patch (ato 8 i 8 n) (atb 8 i 8 n), .int .i64 (ate 8 i 8 n)]) ∧ Below w.heap.size w w' := by
  by_cases h : atn i 8 = true
  · have hh : i < 0 ∨ 8 ≤ i := by simpa [atn] using h
    rw [ato, atb, ate, if_pos h, if_pos h, if_pos h]
    clear h
    rcases hh with h1 | h1
    · skip
      go_enter Try.func68, Try.ntmps68
      go_wp2_with fail
      have hM1 := heap_alloc_new w (.cells #[.int .i64 0, .string ⟨#[]⟩] 39)
      have hB1 := below_alloc (Below.refl w.heap.size w) (.cells #[.int .i64 0, .string ⟨#[]⟩] 39)
      generalize World.alloc w _ = w0 at *
      have m0 := blk_cell hM1 0
      have m1 := blk_cell hM1 1
      refine bodyPost_ret (v := .tuple #[.agg #[.int .i64 0, .string ⟨#[]⟩], .int .i64 1]) (by simp [results, Try.results68, go_sem, m0, m1]) rfl ⟨rfl, hB1⟩
    · skip
      go_enter Try.func68, Try.ntmps68
      go_wp2_with fail
      have hM1 := heap_alloc_new w (.cells #[.int .i64 0, .string ⟨#[]⟩] 39)
      have hB1 := below_alloc (Below.refl w.heap.size w) (.cells #[.int .i64 0, .string ⟨#[]⟩] 39)
      generalize World.alloc w _ = w0 at *
      have m0 := blk_cell hM1 0
      have m1 := blk_cell hM1 1
      refine bodyPost_ret (v := .tuple #[.agg #[.int .i64 0, .string ⟨#[]⟩], .int .i64 1]) (by simp [results, Try.results68, go_sem, m0, m1]) rfl ⟨rfl, hB1⟩
  · have hh : ¬ (i < 0 ∨ 8 ≤ i) := by simpa [atn] using h
    rw [ato, atb, ate, if_neg h, if_neg h, if_neg h]
    have H := Lib.hid (rpart_any (8 + 2 * i) 2 n)
    clear h
    generalize putoff (8 + 2 * i) 2 n = po at *
    generalize putb (8 + 2 * i) 2 n = pb at *
    generalize pute (8 + 2 * i) 2 n = pe at *
    unfold patch at *
    generalize S pb = ps at *
    go_enter Try.func68, Try.ntmps68
    go_wp2_with fail
    have hM := heap_alloc_new w (.cells #[.int .i64 0, .string ⟨#[]⟩] 39)
    have hB := below_alloc (Below.refl w.heap.size w) (.cells #[.int .i64 0, .string ⟨#[]⟩] 39)
    generalize World.alloc w _ = w0 at *
    refine (H.out _).mono ?_
    rintro e w1 ⟨rfl, hb⟩
    have hM1 := (hb.block _ (blk_lt hM)).trans hM
    have hB1 := below_step hb hB.size hB
    clear hb hM hB
    have m0 := blk_cell hM1 0
    have m1 := blk_cell hM1 1
    have f0 := blk_free hM1 0
    have f1 := blk_free hM1 1
    obtain ⟨X0, X1⟩ := stored2 hM1 (.int .i64 po) (.string ps)
    go_wp2_with fail
    refine bodyPost_ret (v := .tuple #[.agg #[.int .i64 po, .string ps], .int .i64 pe]) (by simp [results, Try.results68, go_sem, X0, X1]) rfl ⟨rfl, below_setCell (below_setCell hB1 (by omega) _ _) (by omega) _ _⟩

set_option maxRecDepth 100000 in
set_option maxHeartbeats 1000000 in
theorem ritem_any (i n : Int) (w : World) : Calls Try.prog 71 #[.int .i64 i, .int .i64 n] w fun e w' => e = .returned (.tuple #[patch (ato 0 i 32 n) (atb 0 i 32 n), .int .i64 (ate 0 i 32 n)]) ∧ Below w.heap.size w w' := by
  by_cases h : atn i 32 = true
  · have hh : i < 0 ∨ 32 ≤ i := by simpa [atn] using h
    rw [ato, atb, ate, if_pos h, if_pos h, if_pos h]
    clear h
    rcases hh with h1 | h1
    · skip
      go_enter Try.func71, Try.ntmps71
      go_wp2_with fail
      have hM1 := heap_alloc_new w (.cells #[.int .i64 0, .string ⟨#[]⟩] 39)
      have hB1 := below_alloc (Below.refl w.heap.size w) (.cells #[.int .i64 0, .string ⟨#[]⟩] 39)
      generalize World.alloc w _ = w0 at *
      have m0 := blk_cell hM1 0
      have m1 := blk_cell hM1 1
      refine bodyPost_ret (v := .tuple #[.agg #[.int .i64 0, .string ⟨#[]⟩], .int .i64 1]) (by simp [results, Try.results71, go_sem, m0, m1]) rfl ⟨rfl, hB1⟩
    · skip
      go_enter Try.func71, Try.ntmps71
      go_wp2_with fail
      have hM1 := heap_alloc_new w (.cells #[.int .i64 0, .string ⟨#[]⟩] 39)
      have hB1 := below_alloc (Below.refl w.heap.size w) (.cells #[.int .i64 0, .string ⟨#[]⟩] 39)
      generalize World.alloc w _ = w0 at *
      have m0 := blk_cell hM1 0
      have m1 := blk_cell hM1 1
      refine bodyPost_ret (v := .tuple #[.agg #[.int .i64 0, .string ⟨#[]⟩], .int .i64 1]) (by simp [results, Try.results71, go_sem, m0, m1]) rfl ⟨rfl, hB1⟩
  · have hh : ¬ (i < 0 ∨ 32 ≤ i) := by simpa [atn] using h
    rw [ato, atb, ate, if_neg h, if_neg h, if_neg h]
    have H1 := rpart_any (0 + 2 * i) 2 n
    rw [Int.zero_add] at H1 ⊢
    have H := Lib.hid H1
    clear h H1
    generalize putoff (2 * i) 2 n = po at *
    generalize putb (2 * i) 2 n = pb at *
    generalize pute (2 * i) 2 n = pe at *
    unfold patch at *
    generalize S pb = ps at *
    go_enter Try.func71, Try.ntmps71
    go_wp2_with fail
    have hM := heap_alloc_new w (.cells #[.int .i64 0, .string ⟨#[]⟩] 39)
    have hB := below_alloc (Below.refl w.heap.size w) (.cells #[.int .i64 0, .string ⟨#[]⟩] 39)
    generalize World.alloc w _ = w0 at *
    refine (H.out _).mono ?_
    rintro e w1 ⟨rfl, hb⟩
    have hM1 := (hb.block _ (blk_lt hM)).trans hM
    have hB1 := below_step hb hB.size hB
    clear hb hM hB
    have m0 := blk_cell hM1 0
    have m1 := blk_cell hM1 1
    have f0 := blk_free hM1 0
    have f1 := blk_free hM1 1
    obtain ⟨X0, X1⟩ := stored2 hM1 (.int .i64 po) (.string ps)
    go_wp2_with fail
    refine bodyPost_ret (v := .tuple #[.agg #[.int .i64 po, .string ps], .int .i64 pe]) (by simp [results, Try.results71, go_sem, X0, X1]) rfl ⟨rfl, below_setCell (below_setCell hB1 (by omega) _ _) (by omega) _ _⟩
end Cw
