/- WireApart, WireBack answer true. -/
import Derived.Test.YtgigbkgdbhikmaaWireW3
namespace Cw
open Go Go.RowKit Go.IntWalk
open Go.Proofs

theorem ms_ext {a b : Ms} (h1 : a.k = b.k) (h2 : a.f = b.f) (h3 : a.t = b.t) (h4 : a.r = b.r) (h5 : a.s = b.s) (h6 : a.e = b.e) : a = b := by
  obtain ⟨k, f, t, r, s, e⟩ := a
  obtain ⟨k', f', t', r', s', e'⟩ := b
  simp only at h1 h2 h3 h4 h5 h6
  subst h1 h2 h3 h4 h5 h6
  rfl
theorem wex : S (menc ⟨1, 0, 1, 5, 0, 0⟩) = ⟨#[1, 0, 5, 0, 0, 0, 0, 0, 0, 0, 0, 0, 6]⟩ ∧ mcheck ⟨1, 0, 1, 5, 0, 0⟩ = 0 := by decide +kernel

set_option maxRecDepth 100000 in
set_option maxHeartbeats 400000 in
theorem wworks_any (w : World) : Calls Try.prog 27 #[] w fun e w' => e = .returned (.bool true) ∧ Below w.heap.size w w' := by
  have h : ∀ w, Calls Try.prog 23 #[.agg #[.int .i64 1, .int .i64 0, .int .i64 1, .int .i64 5, .int .i64 0, .int .i64 0]] w fun e w' => e = .returned (.tuple #[.string ⟨#[1, 0, 5, 0, 0, 0, 0, 0, 0, 0, 0, 0, 6]⟩, .int .i64 0]) ∧ Below w.heap.size w w' := fun w => by
    have := wenc_any ⟨1, 0, 1, 5, 0, 0⟩ w
    rw [wex.1, wex.2] at this
    exact this
  have H := Lib.hid h
  clear h
  go_enter Try.func27, Try.ntmps27
  go_wp2_with (go_at_call 23; refine (H.out _).mono ?_; rintro e w1 ⟨rfl, hb⟩)
  go_ret
  exact ⟨rfl, hb⟩

theorem wapart (a b : Ms) (ha : mok a = true) (hb : mok b = true) : (a = b ∧ S (mbytes a) = S (mbytes b)) ∨ (a ≠ b ∧ S (mbytes a) ≠ S (mbytes b)) := by
  by_cases h : a = b
  · exact .inl ⟨h, by rw [h]⟩
  · refine .inr ⟨h, fun e => h ((mbytes_inj a b ha hb).1 ?_)⟩
    simpa only [S_data] using congrArg (fun x : ByteArray => x.data.toList) e

theorem two_six (w : World) (m n : Ms) (T : TypeId) : let w0 := (w.alloc (.cells (mcells m) T)).alloc (.cells (mcells n) T)
    w0.heap[w.heap.size]? = some (.cells (mcells m) T (0, 0)) ∧ w0.heap[w.heap.size + 1]? = some (.cells (mcells n) T (0, 0)) ∧ Below w.heap.size w w0 := by
  refine ⟨(Below.heap_alloc _ _ _ (by simp)).trans (heap_alloc_new w _), ?_, below_alloc (below_alloc (Below.refl _ _) _) _⟩
  have := heap_alloc_new (w.alloc (.cells (mcells m) T)) (.cells (mcells n) T)
  rwa [World.size_alloc] at this

set_option maxRecDepth 100000 in
set_option maxHeartbeats 2000000 in
theorem wireApart_true (a b : Ms) (w : World) : Calls Try.prog 4 #[mval a, mval b] w fun e w' => e = .returned (.bool true) ∧ Below w.heap.size w w' := by
  obtain ⟨hA, hC, hB⟩ := two_six w a b 23
  have EA := wenc_any a
  have EC := wenc_any b
  go_enter Try.func4, Try.ntmps4
  go_wp2_with fail
  generalize World.alloc (World.alloc w _) _ = w0 at *
  refine (wworks_any _).mono ?_
  rintro e w1 ⟨rfl, hb⟩
  have hA1 := (hb.block _ (blk_lt hA)).trans hA
  have hC1 := (hb.block _ (blk_lt hC)).trans hC
  have hB1 := below_step hb hB.size hB
  clear hb hA hC hB
  obtain ⟨a0, a1, a2, a3, a4, a5⟩ := six (fun o => blk_cell hA1 o)
  go_wp2_with fail
  refine (EA _).mono ?_
  rintro e w2 ⟨rfl, hb⟩
  have hA := (hb.block _ (blk_lt hA1)).trans hA1
  have hC := (hb.block _ (blk_lt hC1)).trans hC1
  have hB := below_step hb hB1.size hB1
  clear hb hA1 hC1 hB1 a0 a1 a2 a3 a4 a5
  obtain ⟨c0, c1, c2, c3, c4, c5⟩ := six (fun o => blk_cell hC o)
  go_wp2_with fail
  refine (EC _).mono ?_
  rintro e w3 ⟨rfl, hb⟩
  have hA1 := (hb.block _ (blk_lt hA)).trans hA
  have hC1 := (hb.block _ (blk_lt hC)).trans hC
  have hB1 := below_step hb hB.size hB
  clear hb hA hC hB c0 c1 c2 c3 c4 c5
  obtain ⟨a0, a1, a2, a3, a4, a5⟩ := six (fun o => blk_cell hA1 o)
  obtain ⟨c0, c1, c2, c3, c4, c5⟩ := six (fun o => blk_cell hC1 o)
  clear EA EC
  by_cases ma : mok a = true
  · rw [show mcheck a = 0 by rw [mcheck, if_pos ma], show menc a = mbytes a by rw [menc, if_pos ma]]
    by_cases mb : mok b = true
    · rw [show mcheck b = 0 by rw [mcheck, if_pos mb], show menc b = mbytes b by rw [menc, if_pos mb]]
      rcases wapart a b ma mb with ⟨rfl, _⟩ | ⟨h1, h2⟩
      · go_wp2_with fail
        go_ret
        exact ⟨rfl, hB1⟩
      · have h3 := str_ne h2
        go_wp2_with fail
        all_goals first | (go_ret; exact ⟨rfl, hB1⟩) | exact absurd (ms_ext (by assumption) (by assumption) (by assumption) (by assumption) (by assumption) (by assumption)) h1
    · rw [show mcheck b = 210 by rw [mcheck, if_neg mb]]
      go_wp2_with fail
      go_ret
      exact ⟨rfl, hB1⟩
  · rw [show mcheck a = 210 by rw [mcheck, if_neg ma]]
    go_wp2_with fail
    go_ret
    exact ⟨rfl, hB1⟩

theorem wback (s : ByteArray) : (mdece s.data.toList = 0 ∧ S (menc (mdec s.data.toList)) = s ∧ mcheck (mdec s.data.toList) = 0) ∨ (mdece s.data.toList = 210 ∧ mdec s.data.toList = mzero) := by
  by_cases h : dok s.data.toList = true
  · have h1 := h
    simp only [dok, decide_eq_true_eq] at h1
    left
    rw [mdece, mdec, if_pos h, if_pos h, menc, mcheck, if_pos h1.2.1, if_pos h1.2.1, h1.2.2]
    exact ⟨rfl, strOf s, rfl⟩
  · right
    rw [mdece, mdec, if_neg h, if_neg h]
    exact ⟨rfl, rfl⟩

set_option maxRecDepth 100000 in
set_option maxHeartbeats 2000000 in
theorem wireBack_true (m : Ms) (s : ByteArray) (hs : s.size ≤ 9223372036854775807) (w : World) : Calls Try.prog 10 #[mval m, .string s] w fun e w' => e = .returned (.bool true) ∧ Below w.heap.size w w' := by
  have EM := wenc_any m
  have D2 := Lib.hid (wdec_any s hs)
  have ED := Lib.hid (wenc_any (mdec s.data.toList))
  have HC := Lib.hid (wback s)
  generalize S (menc (mdec s.data.toList)) = en at *
  generalize mcheck (mdec s.data.toList) = ck at *
  generalize mdec s.data.toList = d at *
  generalize mdece s.data.toList = r at *
  obtain ⟨hB, hc, hz⟩ := start_facts w (mcells m) 23
  have hA : (w.alloc (.cells (mcells m) 23)).heap[w.heap.size]? = some (.cells (mcells m) 23 (0, 0)) := heap_alloc_new w _
  clear hc
  by_cases hm : mok m = true
  · have D1 := wdec_any (S (mbytes m)) (by rw [S_size, mbytes_length]; omega)
    have hd := dok_mbytes m hm
    rw [S_data, mdec, mdece, if_pos hd, if_pos hd, dm_mbytes m hm] at D1
    rw [show mcheck m = 0 by rw [mcheck, if_pos hm], show menc m = mbytes m by rw [menc, if_pos hm]] at EM
    have hl : (((S (mbytes m)).size : Int) != 13) = false := by rw [S_size, mbytes_length]; rfl
    have D1' := Lib.hid D1
    have EM' := Lib.hid EM
    clear D1 EM hd hm
    generalize S (mbytes m) = bs at *
    go_enter Try.func10, Try.ntmps10
    go_wp2_with fail
    generalize World.alloc w _ = w0 at *
    refine (wworks_any _).mono ?_
    rintro e' w1 ⟨rfl, hb⟩
    have hA1 := (hb.block _ (blk_lt hA)).trans hA
    have hB1 := below_step hb hB.size hB
    clear hb hA hB hz
    obtain ⟨a0, a1, a2, a3, a4, a5⟩ := six (fun o => blk_cell hA1 o)
    go_wp2_with fail
    refine (EM'.out _).mono ?_
    rintro e' w2 ⟨rfl, hb⟩
    have hA := (hb.block _ (blk_lt hA1)).trans hA1
    have hB := below_step hb hB1.size hB1
    clear hb hA1 hB1 a0 a1 a2 a3 a4 a5
    go_wp2_with fail
    refine (D1'.out _).mono ?_
    rintro e' w3 ⟨rfl, hb⟩
    have hA1 := (Below.heap_alloc w3 (.cells (mcells m) 23) _ (Nat.lt_of_lt_of_le (blk_lt hA) hb.size)).trans ((hb.block _ (blk_lt hA)).trans hA)
    have hB1 := below_alloc (below_step hb hB.size hB) (.cells (mcells m) 23)
    obtain ⟨n0, n1, n2, n3, n4, n5⟩ := six (fun o => blk_cell (heap_alloc_new w3 (.cells (mcells m) 23)) o)
    obtain ⟨a0, a1, a2, a3, a4, a5⟩ := six (fun o => blk_cell hA1 o)
    clear hb hA hB
    go_wp2_with fail
    have hB := hB1
    clear hB1 hA1 n0 n1 n2 n3 n4 n5 a0 a1 a2 a3 a4 a5
    refine (D2.out _).mono ?_
    rintro e' w7 ⟨rfl, hb⟩
    have hB7 := below_step hb hB.size hB
    clear hb hB
    rcases HC.out with ⟨rfl, rfl, rfl⟩ | ⟨rfl, rfl⟩
    · have hN := six (fun o => blk_cell (heap_alloc_new w7 (.cells (mcells d) 23)) o)
      obtain ⟨n0, n1, n2, n3, n4, n5⟩ := hN
      have hB8 := below_alloc hB7 (.cells (mcells d) 23)
      go_wp2_with fail
      refine (ED.out _).mono ?_
      rintro e' w8 ⟨rfl, hb⟩
      have hB9 := below_step hb hB8.size hB8
      clear hb n0 n1 n2 n3 n4 n5
      go_wp2_with fail
      go_ret
      exact ⟨rfl, hB9⟩
    · have hB8 := below_alloc hB7 (.cells (mcells mzero) 23)
      go_wp2_with fail
      go_ret
      exact ⟨rfl, hB8⟩
  · rw [show mcheck m = 210 by rw [mcheck, if_neg hm]] at EM
    have EM' := Lib.hid EM
    clear EM hm
    generalize S (menc m) = bs at *
    go_enter Try.func10, Try.ntmps10
    go_wp2_with fail
    generalize World.alloc w _ = w0 at *
    refine (wworks_any _).mono ?_
    rintro e' w1 ⟨rfl, hb⟩
    have hA1 := (hb.block _ (blk_lt hA)).trans hA
    have hB1 := below_step hb hB.size hB
    clear hb hA hB hz
    obtain ⟨a0, a1, a2, a3, a4, a5⟩ := six (fun o => blk_cell hA1 o)
    go_wp2_with fail
    refine (EM'.out _).mono ?_
    rintro e' w2 ⟨rfl, hb⟩
    have hB := below_step hb hB1.size hB1
    clear hb hA1 hB1 a0 a1 a2 a3 a4 a5
    go_wp2_with fail
    refine (D2.out _).mono ?_
    rintro e' w7 ⟨rfl, hb⟩
    have hB7 := below_step hb hB.size hB
    clear hb hB
    rcases HC.out with ⟨rfl, rfl, rfl⟩ | ⟨rfl, rfl⟩
    · have hN := six (fun o => blk_cell (heap_alloc_new w7 (.cells (mcells d) 23)) o)
      obtain ⟨n0, n1, n2, n3, n4, n5⟩ := hN
      have hB8 := below_alloc hB7 (.cells (mcells d) 23)
      go_wp2_with fail
      refine (ED.out _).mono ?_
      rintro e' w8 ⟨rfl, hb⟩
      have hB9 := below_step hb hB8.size hB8
      clear hb n0 n1 n2 n3 n4 n5
      go_wp2_with fail
      go_ret
      exact ⟨rfl, hB9⟩
    · have hB8 := below_alloc hB7 (.cells (mcells mzero) 23)
      go_wp2_with fail
      go_ret
      exact ⟨rfl, hB8⟩
end Cw
