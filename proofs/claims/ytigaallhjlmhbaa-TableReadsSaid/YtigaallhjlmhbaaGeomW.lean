/- The walks of the program's package geom: what each function computes. -/
import Derived.Test.YtigaallhjlmhbaaProg
import Derived.Test.YtigaallhjlmhbaaBase
import Derived.Test.YtigaallhjlmhbaaGeoSpec
namespace Cw
open Go Go.RowKit
open Go.Proofs
abbrev geo (a b c : Int) : Value := .agg #[.int .i64 a, .int .i64 b, .int .i64 c]

set_option maxRecDepth 100000 in
set_option maxHeartbeats 400000 in
theorem check_any (a b c : Int) (w : World) :
    Calls Try.prog 64 #[geo a b c] w fun e w' => e = .returned (.int .i64 (gcheck a b c)) ∧ Below w.heap.size w w' := by
  go_enter Try.func64, Try.ntmps64
  go_wp2
  all_goals (go_ret; refine ⟨ret_int ?_, by go_grown⟩; first | rw [gcheck, if_pos (by unfold Gok; omega)] | rw [gcheck, if_neg (by unfold Gok; omega)])

set_option maxRecDepth 100000 in
set_option maxHeartbeats 400000 in
theorem may_any (a b c : Int) (w : World) :
    Calls Try.prog 71 #[geo a b c] w fun e w' => e = .returned (.bool (gmay a b c)) ∧ Below w.heap.size w w' := by
  go_enter Try.func71, Try.ntmps71
  go_wp2_with fail
  all_goals obtain ⟨hB, hc, hz⟩ := start_facts w #[.int .i64 a, .int .i64 b, .int .i64 c] 34
  all_goals generalize World.alloc w (.cells #[.int .i64 a, .int .i64 b, .int .i64 c] 34) = w0 at *
  go_wp2_with (go_at_call 64; refine (check_any _ _ _ _).mono ?_; rintro e w1 ⟨rfl, hb⟩; have X := adv hB hb hc hz; clear hB hb hc hz; obtain ⟨hB, hc, hz⟩ := X)
  go_ret
  refine ⟨ret_bool ?_, hB⟩
  simp only [gmay, gcheck]
  split <;> simp_all

set_option maxRecDepth 100000 in
set_option maxHeartbeats 400000 in
theorem long_any (a b c : Int) (w : World) (h : Gok a b c) :
    Calls Try.prog 91 #[geo a b c] w fun e w' => e = .returned (.int .i64 (2 + b + c)) ∧ Below w.heap.size w w' := by
  obtain ⟨h1, h2, h3, h4, h5, h6⟩ := h
  go_enter Try.func91, Try.ntmps91
  go_wp2
  go_ret
  exact ⟨rfl, by go_grown⟩

set_option maxRecDepth 100000 in
set_option maxHeartbeats 400000 in
theorem inodes_any (a b c : Int) (w : World) :
    Calls Try.prog 65 #[geo a b c] w fun e w' => e = .returned (.int .i64 (ginodes a b c)) ∧ Below w.heap.size w w' := by
  by_cases h : Gok a b c
  · have H := Lib.hid h
    have p := ab_bd h
    obtain ⟨h1, h2, h3, h4, h5, h6⟩ := h
    have hm : gmay a b c = true := by simp [gmay, H.out]
    go_enter Try.func65, Try.ntmps65
    go_wp2_with fail
    all_goals obtain ⟨hB, hc, hz⟩ := start_facts w #[.int .i64 a, .int .i64 b, .int .i64 c] 34
    all_goals generalize World.alloc w (.cells #[.int .i64 a, .int .i64 b, .int .i64 c] 34) = w0 at *
    go_wp2_with (go_at_call 71; refine (may_any _ _ _ _).mono ?_; rintro e w1 ⟨rfl, hb⟩; have X := adv hB hb hc hz; clear hB hb hc hz; obtain ⟨hB, hc, hz⟩ := X)
    go_ret
    exact ⟨ret_int (by rw [ginodes, if_pos H.out]), hB⟩
  · have H := Lib.hid h
    have hm : gmay a b c = false := by simp [gmay, h]
    clear h
    go_enter Try.func65, Try.ntmps65
    go_wp2_with fail
    all_goals obtain ⟨hB, hc, hz⟩ := start_facts w #[.int .i64 a, .int .i64 b, .int .i64 c] 34
    all_goals generalize World.alloc w (.cells #[.int .i64 a, .int .i64 b, .int .i64 c] 34) = w0 at *
    go_wp2_with (go_at_call 71; refine (may_any _ _ _ _).mono ?_; rintro e w1 ⟨rfl, hb⟩; have X := adv hB hb hc hz; clear hB hb hc hz; obtain ⟨hB, hc, hz⟩ := X)
    go_ret
    exact ⟨ret_int (by rw [ginodes, if_neg H.out]), hB⟩

set_option maxRecDepth 100000 in
set_option maxHeartbeats 400000 in
theorem regions_any (a b c : Int) (w : World) :
    Calls Try.prog 38 #[geo a b c] w fun e w' => e = .returned (.int .i64 (gregions a b c)) ∧ Below w.heap.size w w' := by
  by_cases h : Gok a b c
  · have H := Lib.hid h
    have p := ab_bd h
    have hi : ginodes a b c = a * b := by rw [ginodes, if_pos h]
    obtain ⟨h1, h2, h3, h4, h5, h6⟩ := h
    have hm : gmay a b c = true := by simp [gmay, H.out]
    go_enter Try.func38, Try.ntmps38
    go_wp2_with fail
    all_goals obtain ⟨hB, hc, hz⟩ := start_facts w #[.int .i64 a, .int .i64 b, .int .i64 c] 34
    all_goals generalize World.alloc w (.cells #[.int .i64 a, .int .i64 b, .int .i64 c] 34) = w0 at *
    go_wp2_with (first | (go_at_call 71; refine (may_any _ _ _ _).mono ?_; rintro e w1 ⟨rfl, hb⟩; have X := adv hB hb hc hz; clear hB hb hc hz; obtain ⟨hB, hc, hz⟩ := X) | (refine region_held (by kernel_rfl) (by kernel_rfl) (fun τ hN F hF hG => ?_); have hcc := fun n => carry (hF n) hz hc; (repeat (go_big_quiet_step ((go_at_call 65; refine (inodes_any _ _ _ _).mono ?_; rintro e w' ⟨rfl, hb⟩; exact ⟨rfl, hG _ ((hF _).trans (hb.mono (hF _).size))⟩)))); refine wpQuiet_nil ?_; intro n; have X := adv hB (hF n) hc hz; generalize F n = w1 at *; clear hF hG hcc hB hc hz; obtain ⟨hB, hc, hz⟩ := X))
    go_ret
    exact ⟨ret_int (by rw [gregions, if_pos H.out]), hB⟩
  · have H := Lib.hid h
    have hm : gmay a b c = false := by simp [gmay, h]
    clear h
    go_enter Try.func38, Try.ntmps38
    go_wp2_with fail
    all_goals obtain ⟨hB, hc, hz⟩ := start_facts w #[.int .i64 a, .int .i64 b, .int .i64 c] 34
    all_goals generalize World.alloc w (.cells #[.int .i64 a, .int .i64 b, .int .i64 c] 34) = w0 at *
    go_wp2_with (go_at_call 71; refine (may_any _ _ _ _).mono ?_; rintro e w1 ⟨rfl, hb⟩; have X := adv hB hb hc hz; clear hB hb hc hz; obtain ⟨hB, hc, hz⟩ := X)
    go_ret
    exact ⟨ret_int (by rw [gregions, if_neg H.out]), hB⟩

set_option maxRecDepth 100000 in
set_option maxHeartbeats 400000 in
theorem first_any (a b c k : Int) (h : Gok a b c) (h0 : 0 ≤ k) (hk : k ≤ 4) (w : World) :
    Calls Try.prog 90 #[geo a b c, .int .i64 k] w fun e w' => e = .returned (.int .i64 (gfirst a b c k)) ∧ Below w.heap.size w w' := by
  have H := Lib.hid h
  have p := ab_bd h
  have q := kl_bd h h0 hk
  have hr : gregions a b c = a + a * b := by rw [gregions, if_pos h]
  obtain ⟨h1, h2, h3, h4, h5, h6⟩ := h
  go_enter Try.func90, Try.ntmps90
  go_wp2_with fail
  all_goals obtain ⟨hB, hc, hz⟩ := start_facts w #[.int .i64 a, .int .i64 b, .int .i64 c] 34
  all_goals generalize World.alloc w (.cells #[.int .i64 a, .int .i64 b, .int .i64 c] 34) = w0 at *
  go_wp2_with (refine region_held (by kernel_rfl) (by kernel_rfl) (fun τ hN F hF hG => ?_); have hcc := fun n => carry (hF n) hz hc; (repeat (go_big_quiet_step ((first | (go_at_call 38; refine (regions_any _ _ _ _).mono ?_; rintro e w' ⟨rfl, hb⟩; exact ⟨rfl, hG _ ((hF _).trans (hb.mono (hF _).size))⟩) | (go_at_call 91; refine (long_any _ _ _ _ H.out).mono ?_; rintro e w' ⟨rfl, hb⟩; exact ⟨rfl, hG _ ((hF _).trans (hb.mono (hF _).size))⟩))))); refine wpQuiet_nil ?_; intro n; have X := adv hB (hF n) hc hz; generalize F n = w1 at *; clear hF hG hcc hB hc hz; obtain ⟨hB, hc, hz⟩ := X)
  go_ret
  refine ⟨ret_int ?_, hB⟩
  unfold gfirst
  omega

set_option maxRecDepth 100000 in
set_option maxHeartbeats 400000 in
theorem size_any (a b c : Int) (w : World) :
    Calls Try.prog 89 #[geo a b c] w fun e w' => e = .returned (.int .i64 (gsize a b c)) ∧ Below w.heap.size w w' := by
  by_cases h : Gok a b c
  · have H := Lib.hid h
    obtain ⟨h1, h2, h3, h4, h5, h6⟩ := h
    have hm : gmay a b c = true := by simp [gmay, H.out]
    go_enter Try.func89, Try.ntmps89
    go_wp2_with fail
    all_goals obtain ⟨hB, hc, hz⟩ := start_facts w #[.int .i64 a, .int .i64 b, .int .i64 c] 34
    all_goals generalize World.alloc w (.cells #[.int .i64 a, .int .i64 b, .int .i64 c] 34) = w0 at *
    go_wp2_with (first | (go_at_call 71; refine (may_any _ _ _ _).mono ?_; rintro e w1 ⟨rfl, hb⟩; have X := adv hB hb hc hz; clear hB hb hc hz; obtain ⟨hB, hc, hz⟩ := X) | (go_at_call 90; refine (first_any _ _ _ _ H.out (by omega) (by omega) _).mono ?_; rintro e w1 ⟨rfl, hb⟩; have X := adv hB hb hc hz; clear hB hb hc hz; obtain ⟨hB, hc, hz⟩ := X))
    go_ret
    exact ⟨ret_int (by rw [gsize, if_pos H.out]), hB⟩
  · have H := Lib.hid h
    have hm : gmay a b c = false := by simp [gmay, h]
    clear h
    go_enter Try.func89, Try.ntmps89
    go_wp2_with fail
    all_goals obtain ⟨hB, hc, hz⟩ := start_facts w #[.int .i64 a, .int .i64 b, .int .i64 c] 34
    all_goals generalize World.alloc w (.cells #[.int .i64 a, .int .i64 b, .int .i64 c] 34) = w0 at *
    go_wp2_with (go_at_call 71; refine (may_any _ _ _ _).mono ?_; rintro e w1 ⟨rfl, hb⟩; have X := adv hB hb hc hz; clear hB hb hc hz; obtain ⟨hB, hc, hz⟩ := X)
    go_ret
    exact ⟨ret_int (by rw [gsize, if_neg H.out]), hB⟩

set_option maxRecDepth 100000 in
set_option maxHeartbeats 400000 in
theorem within_any (a b c n m : Int) (w : World) :
    Calls Try.prog 80 #[geo a b c, .int .i64 n, .int .i64 m] w fun e w' => e = .returned (.int .i64 (gwithin a b c n m)) ∧ Below w.heap.size w w' := by
  by_cases h : Gok a b c
  · have H := Lib.hid h
    have hm : gmay a b c = true := by simp [gmay, H.out]
    clear h
    go_enter Try.func80, Try.ntmps80
    go_wp2_with fail
    all_goals obtain ⟨hB, hc, hz⟩ := start_facts w #[.int .i64 a, .int .i64 b, .int .i64 c] 34
    all_goals generalize World.alloc w (.cells #[.int .i64 a, .int .i64 b, .int .i64 c] 34) = w0 at *
    go_wp2_with (go_at_call 71; refine (may_any _ _ _ _).mono ?_; rintro e w1 ⟨rfl, hb⟩; have X := adv hB hb hc hz; clear hB hb hc hz; obtain ⟨hB, hc, hz⟩ := X)
    all_goals (go_ret; refine ⟨ret_int ?_, hB⟩; unfold gwithin; rw [if_neg (not_not_intro H.out)]; first | rw [if_pos (by omega)] | rw [if_neg (by omega)])
  · have H := Lib.hid h
    have hm : gmay a b c = false := by simp [gmay, h]
    clear h
    go_enter Try.func80, Try.ntmps80
    go_wp2_with fail
    all_goals obtain ⟨hB, hc, hz⟩ := start_facts w #[.int .i64 a, .int .i64 b, .int .i64 c] 34
    all_goals generalize World.alloc w (.cells #[.int .i64 a, .int .i64 b, .int .i64 c] 34) = w0 at *
    go_wp2_with (go_at_call 71; refine (may_any _ _ _ _).mono ?_; rintro e w1 ⟨rfl, hb⟩; have X := adv hB hb hc hz; clear hB hb hc hz; obtain ⟨hB, hc, hz⟩ := X)
    go_ret
    exact ⟨ret_int (by rw [gwithin, if_pos H.out]), hB⟩

set_option maxRecDepth 100000 in
set_option maxHeartbeats 1000000 in
theorem what_any (a b c s : Int) (w : World) :
    Calls Try.prog 81 #[geo a b c, .int .i64 s] w fun e w' => e = .returned (.tuple #[.int .i64 (wk a b c s), .int .i64 (wn a b c s), .int .i64 (we a b c s)]) ∧ Below w.heap.size w w' := by
  by_cases he : we a b c s = 0
  · have hE := Lib.hid he
    obtain ⟨hg, s0, s1⟩ := within_ok he
    have hw : (gwithin a b c s (gsize a b c) != 0) = false := by simpa [we] using he
    clear he
    have H := Lib.hid hg
    have hsz := size_bd a b c
    have hf := first_bd hg (k := 0) (by omega) (by omega)
    by_cases hlow : s < gfirst a b c 0
    · clear hg
      have hlow' : 0 ≤ s ∧ s < gfirst a b c 0 := ⟨s0, hlow⟩
      have hL := Lib.hid hlow
      rcases (show s = 0 ∨ s = 1 ∨ 2 ≤ s by omega) with rfl | rfl | h2
      all_goals
        go_enter Try.func81, Try.ntmps81
        go_wp2_with fail
        all_goals obtain ⟨hB, hc, hz⟩ := start_facts w #[.int .i64 a, .int .i64 b, .int .i64 c] 34
        all_goals generalize World.alloc w (.cells #[.int .i64 a, .int .i64 b, .int .i64 c] 34) = w0 at *
        go_wp2_with (first | (go_at_call 90; refine (first_any _ _ _ _ H.out (by omega) (by omega) _).mono ?_; rintro e w1 ⟨rfl, hb⟩; have X := adv hB hb hc hz; clear hB hb hc hz; obtain ⟨hB, hc, hz⟩ := X) | (refine region_held (by kernel_rfl) (by kernel_rfl) (fun τ hN F hF hG => ?_); have hcc := fun n => carry (hF n) hz hc; (repeat (go_big_quiet_step ((first | (go_at_call 89; refine (size_any _ _ _ _).mono ?_; rintro e w' ⟨rfl, hb⟩; exact ⟨rfl, hG _ ((hF _).trans (hb.mono (hF _).size))⟩) | (go_at_call 80; refine (within_any _ _ _ _ _ _).mono ?_; rintro e w' ⟨rfl, hb⟩; exact ⟨rfl, hG _ ((hF _).trans (hb.mono (hF _).size))⟩))))); refine wpQuiet_nil ?_; intro n; have X := adv hB (hF n) hc hz; generalize F n = w1 at *; clear hF hG hcc hB hc hz; obtain ⟨hB, hc, hz⟩ := X))
        go_ret3
        refine ⟨?_, hB⟩
        rw [(w_low hE.out hL.out).1, (w_low hE.out hL.out).2, hE.out]
        first
          | (rw [if_pos (by omega), if_pos (by omega)]; all_goals rfl)
          | (rw [if_neg (by omega), if_neg (by omega)]; all_goals rfl)
    · obtain ⟨k0, k1, r0, r1⟩ := high_bd hg (by omega) s1
      have p1 := prod_bd k0 k1 hg.2.1 (b := c) (by have := hg.2.2.2.2.1; omega) hg.2.2.2.2.2 (by omega) (by omega)
      have p2 := prod_bd k0 k1 hg.2.1 (b := b) (by have := hg.2.2.1; omega) hg.2.2.2.1 (by omega) (by omega)
      obtain ⟨h1, h2, h3, h4, h5, h6⟩ := hg
      have hlo : gfirst a b c 0 ≤ s := by omega
      clear hlow
      go_enter Try.func81, Try.ntmps81
      go_wp2_with fail
      all_goals obtain ⟨hB, hc, hz⟩ := start_facts w #[.int .i64 a, .int .i64 b, .int .i64 c] 34
      all_goals generalize World.alloc w (.cells #[.int .i64 a, .int .i64 b, .int .i64 c] 34) = w0 at *
      go_wp2_with (first | (go_at_call 90; refine (first_any _ _ _ _ H.out (by omega) (by omega) _).mono ?_; rintro e w1 ⟨rfl, hb⟩; have X := adv hB hb hc hz; clear hB hb hc hz; obtain ⟨hB, hc, hz⟩ := X) | (refine region_held (by kernel_rfl) (by kernel_rfl) (fun τ hN F hF hG => ?_); have hcc := fun n => carry (hF n) hz hc; (repeat (go_big_quiet_step ((first | (go_at_call 89; refine (size_any _ _ _ _).mono ?_; rintro e w' ⟨rfl, hb⟩; exact ⟨rfl, hG _ ((hF _).trans (hb.mono (hF _).size))⟩) | (go_at_call 80; refine (within_any _ _ _ _ _ _).mono ?_; rintro e w' ⟨rfl, hb⟩; exact ⟨rfl, hG _ ((hF _).trans (hb.mono (hF _).size))⟩) | (go_at_call 91; refine (long_any _ _ _ _ H.out).mono ?_; rintro e w' ⟨rfl, hb⟩; exact ⟨rfl, hG _ ((hF _).trans (hb.mono (hF _).size))⟩))))); refine wpQuiet_nil ?_; intro n; have X := adv hB (hF n) hc hz; generalize F n = w1 at *; clear hF hG hcc hB hc hz; obtain ⟨hB, hc, hz⟩ := X))
      all_goals
        go_ret3
        refine ⟨?_, hB⟩
        first
          | (rw [(w_block hE.out hlo (by omega)).1, (w_block hE.out hlo (by omega)).2, hE.out]; all_goals rfl)
          | (rw [(w_inode hE.out hlo (by omega) (by omega)).1, (w_inode hE.out hlo (by omega) (by omega)).2, hE.out]; all_goals rfl)
          | (rw [(w_map (by omega) hE.out hlo (by omega)).1, (w_map (by omega) hE.out hlo (by omega)).2, hE.out]; all_goals rfl)
  · have hE := Lib.hid he
    have hw : (gwithin a b c s (gsize a b c) != 0) = true := by simpa [we] using he
    clear he
    go_enter Try.func81, Try.ntmps81
    go_wp2_with fail
    all_goals obtain ⟨hB, hc, hz⟩ := start_facts w #[.int .i64 a, .int .i64 b, .int .i64 c] 34
    all_goals generalize World.alloc w (.cells #[.int .i64 a, .int .i64 b, .int .i64 c] 34) = w0 at *
    go_wp2_with (refine region_held (by kernel_rfl) (by kernel_rfl) (fun τ hN F hF hG => ?_); have hcc := fun n => carry (hF n) hz hc; (repeat (go_big_quiet_step ((first | (go_at_call 89; refine (size_any _ _ _ _).mono ?_; rintro e w' ⟨rfl, hb⟩; exact ⟨rfl, hG _ ((hF _).trans (hb.mono (hF _).size))⟩) | (go_at_call 80; refine (within_any _ _ _ _ _ _).mono ?_; rintro e w' ⟨rfl, hb⟩; exact ⟨rfl, hG _ ((hF _).trans (hb.mono (hF _).size))⟩))))); refine wpQuiet_nil ?_; intro n; have X := adv hB (hF n) hc hz; generalize F n = w1 at *; clear hF hG hcc hB hc hz; obtain ⟨hB, hc, hz⟩ := X)
    go_ret3
    refine ⟨?_, hB⟩
    rw [(w_none hE.out).1, (w_none hE.out).2]
    rfl
end Cw
