/- The walks of the program's package geom: what each function computes. -/
import Derived.Test.YtclcibpghonidaaGreatDoorProg
import Derived.Test.YtclcibpghonidaaGreatDoorBase
import Derived.Test.YtclcibpghonidaaGreatDoorGeoSpec
namespace Cw
open Go Go.RowKit
open Go.Proofs
abbrev geo (a b c : Int) : Value := .agg #[.int .i64 a, .int .i64 b, .int .i64 c]

set_option maxRecDepth 100000 in
set_option maxHeartbeats 400000 in
theorem check_any (a b c : Int) (w : World) :
    Calls Tryz.prog 93 #[geo a b c] w fun e w' => e = .returned (.int .i64 (gcheck a b c)) ∧ Below w.heap.size w w' := by
  go_enter Tryz.func93, Tryz.ntmps93
  go_wp2
  all_goals (go_ret; refine ⟨ret_int ?_, by go_grown⟩; first | rw [gcheck, if_pos (by unfold Gok; omega)] | rw [gcheck, if_neg (by unfold Gok; omega)])

set_option maxRecDepth 100000 in
set_option maxHeartbeats 400000 in
theorem may_any (a b c : Int) (w : World) :
    Calls Tryz.prog 79 #[geo a b c] w fun e w' => e = .returned (.bool (gmay a b c)) ∧ Below w.heap.size w w' := by
  go_enter Tryz.func79, Tryz.ntmps79
  go_wp2_with fail
  all_goals obtain ⟨hB, hc, hz⟩ := start_facts w #[.int .i64 a, .int .i64 b, .int .i64 c] 41
  all_goals generalize World.alloc w (.cells #[.int .i64 a, .int .i64 b, .int .i64 c] 41) = w0 at *
  go_wp2_with (go_at_call 93; refine (check_any _ _ _ _).mono ?_; rintro e w1 ⟨rfl, hb⟩; have X := adv hB hb hc hz; clear hB hb hc hz; obtain ⟨hB, hc, hz⟩ := X)
  go_ret
  refine ⟨ret_bool ?_, hB⟩
  simp only [gmay, gcheck]
  split <;> simp_all

set_option maxRecDepth 100000 in
set_option maxHeartbeats 400000 in
theorem long_any (a b c : Int) (w : World) (h : Gok a b c) :
    Calls Tryz.prog 89 #[geo a b c] w fun e w' => e = .returned (.int .i64 (2 + b + c)) ∧ Below w.heap.size w w' := by
  obtain ⟨h1, h2, h3, h4, h5, h6⟩ := h
  go_enter Tryz.func89, Tryz.ntmps89
  go_wp2
  go_ret
  exact ⟨rfl, by go_grown⟩

set_option maxRecDepth 100000 in
set_option maxHeartbeats 400000 in
theorem inodes_any (a b c : Int) (w : World) :
    Calls Tryz.prog 88 #[geo a b c] w fun e w' => e = .returned (.int .i64 (ginodes a b c)) ∧ Below w.heap.size w w' := by
  by_cases h : Gok a b c
  · have H := Lib.hid h
    have p := ab_bd h
    obtain ⟨h1, h2, h3, h4, h5, h6⟩ := h
    have hm : gmay a b c = true := by simp [gmay, H.out]
    go_enter Tryz.func88, Tryz.ntmps88
    go_wp2_with fail
    all_goals obtain ⟨hB, hc, hz⟩ := start_facts w #[.int .i64 a, .int .i64 b, .int .i64 c] 41
    all_goals generalize World.alloc w (.cells #[.int .i64 a, .int .i64 b, .int .i64 c] 41) = w0 at *
    go_wp2_with (go_at_call 79; refine (may_any _ _ _ _).mono ?_; rintro e w1 ⟨rfl, hb⟩; have X := adv hB hb hc hz; clear hB hb hc hz; obtain ⟨hB, hc, hz⟩ := X)
    go_ret
    exact ⟨ret_int (by rw [ginodes, if_pos H.out]), hB⟩
  · have H := Lib.hid h
    have hm : gmay a b c = false := by simp [gmay, h]
    clear h
    go_enter Tryz.func88, Tryz.ntmps88
    go_wp2_with fail
    all_goals obtain ⟨hB, hc, hz⟩ := start_facts w #[.int .i64 a, .int .i64 b, .int .i64 c] 41
    all_goals generalize World.alloc w (.cells #[.int .i64 a, .int .i64 b, .int .i64 c] 41) = w0 at *
    go_wp2_with (go_at_call 79; refine (may_any _ _ _ _).mono ?_; rintro e w1 ⟨rfl, hb⟩; have X := adv hB hb hc hz; clear hB hb hc hz; obtain ⟨hB, hc, hz⟩ := X)
    go_ret
    exact ⟨ret_int (by rw [ginodes, if_neg H.out]), hB⟩

set_option maxRecDepth 100000 in
set_option maxHeartbeats 400000 in
theorem regions_any (a b c : Int) (w : World) :
    Calls Tryz.prog 52 #[geo a b c] w fun e w' => e = .returned (.int .i64 (gregions a b c)) ∧ Below w.heap.size w w' := by
  by_cases h : Gok a b c
  · have H := Lib.hid h
    have p := ab_bd h
    have hi : ginodes a b c = a * b := by rw [ginodes, if_pos h]
    obtain ⟨h1, h2, h3, h4, h5, h6⟩ := h
    have hm : gmay a b c = true := by simp [gmay, H.out]
    go_enter Tryz.func52, Tryz.ntmps52
    go_wp2_with fail
    all_goals obtain ⟨hB, hc, hz⟩ := start_facts w #[.int .i64 a, .int .i64 b, .int .i64 c] 41
    all_goals generalize World.alloc w (.cells #[.int .i64 a, .int .i64 b, .int .i64 c] 41) = w0 at *
    go_wp2_with (first | (go_at_call 79; refine (may_any _ _ _ _).mono ?_; rintro e w1 ⟨rfl, hb⟩; have X := adv hB hb hc hz; clear hB hb hc hz; obtain ⟨hB, hc, hz⟩ := X) | (refine region_held (by kernel_rfl) (by kernel_rfl) (fun τ hN F hF hG => ?_); have hcc := fun n => carry (hF n) hz hc; (repeat (go_big_quiet_step ((go_at_call 88; refine (inodes_any _ _ _ _).mono ?_; rintro e w' ⟨rfl, hb⟩; exact ⟨rfl, hG _ ((hF _).trans (hb.mono (hF _).size))⟩)))); refine wpQuiet_nil ?_; intro n; have X := adv hB (hF n) hc hz; generalize F n = w1 at *; clear hF hG hcc hB hc hz; obtain ⟨hB, hc, hz⟩ := X))
    go_ret
    exact ⟨ret_int (by rw [gregions, if_pos H.out]), hB⟩
  · have H := Lib.hid h
    have hm : gmay a b c = false := by simp [gmay, h]
    clear h
    go_enter Tryz.func52, Tryz.ntmps52
    go_wp2_with fail
    all_goals obtain ⟨hB, hc, hz⟩ := start_facts w #[.int .i64 a, .int .i64 b, .int .i64 c] 41
    all_goals generalize World.alloc w (.cells #[.int .i64 a, .int .i64 b, .int .i64 c] 41) = w0 at *
    go_wp2_with (go_at_call 79; refine (may_any _ _ _ _).mono ?_; rintro e w1 ⟨rfl, hb⟩; have X := adv hB hb hc hz; clear hB hb hc hz; obtain ⟨hB, hc, hz⟩ := X)
    go_ret
    exact ⟨ret_int (by rw [gregions, if_neg H.out]), hB⟩

set_option maxRecDepth 100000 in
set_option maxHeartbeats 400000 in
theorem first_any (a b c k : Int) (h : Gok a b c) (h0 : 0 ≤ k) (hk : k ≤ 4) (w : World) :
    Calls Tryz.prog 58 #[geo a b c, .int .i64 k] w fun e w' => e = .returned (.int .i64 (gfirst a b c k)) ∧ Below w.heap.size w w' := by
  have H := Lib.hid h
  have p := ab_bd h
  have q := kl_bd h h0 hk
  have hr : gregions a b c = a + a * b := by rw [gregions, if_pos h]
  obtain ⟨h1, h2, h3, h4, h5, h6⟩ := h
  go_enter Tryz.func58, Tryz.ntmps58
  go_wp2_with fail
  all_goals obtain ⟨hB, hc, hz⟩ := start_facts w #[.int .i64 a, .int .i64 b, .int .i64 c] 41
  all_goals generalize World.alloc w (.cells #[.int .i64 a, .int .i64 b, .int .i64 c] 41) = w0 at *
  go_wp2_with (refine region_held (by kernel_rfl) (by kernel_rfl) (fun τ hN F hF hG => ?_); have hcc := fun n => carry (hF n) hz hc; (repeat (go_big_quiet_step ((first | (go_at_call 52; refine (regions_any _ _ _ _).mono ?_; rintro e w' ⟨rfl, hb⟩; exact ⟨rfl, hG _ ((hF _).trans (hb.mono (hF _).size))⟩) | (go_at_call 89; refine (long_any _ _ _ _ H.out).mono ?_; rintro e w' ⟨rfl, hb⟩; exact ⟨rfl, hG _ ((hF _).trans (hb.mono (hF _).size))⟩))))); refine wpQuiet_nil ?_; intro n; have X := adv hB (hF n) hc hz; generalize F n = w1 at *; clear hF hG hcc hB hc hz; obtain ⟨hB, hc, hz⟩ := X)
  go_ret
  refine ⟨ret_int ?_, hB⟩
  unfold gfirst
  omega

set_option maxRecDepth 100000 in
set_option maxHeartbeats 400000 in
theorem size_any (a b c : Int) (w : World) :
    Calls Tryz.prog 42 #[geo a b c] w fun e w' => e = .returned (.int .i64 (gsize a b c)) ∧ Below w.heap.size w w' := by
  by_cases h : Gok a b c
  · have H := Lib.hid h
    obtain ⟨h1, h2, h3, h4, h5, h6⟩ := h
    have hm : gmay a b c = true := by simp [gmay, H.out]
    go_enter Tryz.func42, Tryz.ntmps42
    go_wp2_with fail
    all_goals obtain ⟨hB, hc, hz⟩ := start_facts w #[.int .i64 a, .int .i64 b, .int .i64 c] 41
    all_goals generalize World.alloc w (.cells #[.int .i64 a, .int .i64 b, .int .i64 c] 41) = w0 at *
    go_wp2_with (first | (go_at_call 79; refine (may_any _ _ _ _).mono ?_; rintro e w1 ⟨rfl, hb⟩; have X := adv hB hb hc hz; clear hB hb hc hz; obtain ⟨hB, hc, hz⟩ := X) | (go_at_call 58; refine (first_any _ _ _ _ H.out (by omega) (by omega) _).mono ?_; rintro e w1 ⟨rfl, hb⟩; have X := adv hB hb hc hz; clear hB hb hc hz; obtain ⟨hB, hc, hz⟩ := X))
    go_ret
    exact ⟨ret_int (by rw [gsize, if_pos H.out]), hB⟩
  · have H := Lib.hid h
    have hm : gmay a b c = false := by simp [gmay, h]
    clear h
    go_enter Tryz.func42, Tryz.ntmps42
    go_wp2_with fail
    all_goals obtain ⟨hB, hc, hz⟩ := start_facts w #[.int .i64 a, .int .i64 b, .int .i64 c] 41
    all_goals generalize World.alloc w (.cells #[.int .i64 a, .int .i64 b, .int .i64 c] 41) = w0 at *
    go_wp2_with (go_at_call 79; refine (may_any _ _ _ _).mono ?_; rintro e w1 ⟨rfl, hb⟩; have X := adv hB hb hc hz; clear hB hb hc hz; obtain ⟨hB, hc, hz⟩ := X)
    go_ret
    exact ⟨ret_int (by rw [gsize, if_neg H.out]), hB⟩

set_option maxRecDepth 100000 in
set_option maxHeartbeats 400000 in
theorem within_any (a b c n m : Int) (w : World) :
    Calls Tryz.prog 57 #[geo a b c, .int .i64 n, .int .i64 m] w fun e w' => e = .returned (.int .i64 (gwithin a b c n m)) ∧ Below w.heap.size w w' := by
  by_cases h : Gok a b c
  · have H := Lib.hid h
    have hm : gmay a b c = true := by simp [gmay, H.out]
    clear h
    go_enter Tryz.func57, Tryz.ntmps57
    go_wp2_with fail
    all_goals obtain ⟨hB, hc, hz⟩ := start_facts w #[.int .i64 a, .int .i64 b, .int .i64 c] 41
    all_goals generalize World.alloc w (.cells #[.int .i64 a, .int .i64 b, .int .i64 c] 41) = w0 at *
    go_wp2_with (go_at_call 79; refine (may_any _ _ _ _).mono ?_; rintro e w1 ⟨rfl, hb⟩; have X := adv hB hb hc hz; clear hB hb hc hz; obtain ⟨hB, hc, hz⟩ := X)
    all_goals (go_ret; refine ⟨ret_int ?_, hB⟩; unfold gwithin; rw [if_neg (not_not_intro H.out)]; first | rw [if_pos (by omega)] | rw [if_neg (by omega)])
  · have H := Lib.hid h
    have hm : gmay a b c = false := by simp [gmay, h]
    clear h
    go_enter Tryz.func57, Tryz.ntmps57
    go_wp2_with fail
    all_goals obtain ⟨hB, hc, hz⟩ := start_facts w #[.int .i64 a, .int .i64 b, .int .i64 c] 41
    all_goals generalize World.alloc w (.cells #[.int .i64 a, .int .i64 b, .int .i64 c] 41) = w0 at *
    go_wp2_with (go_at_call 79; refine (may_any _ _ _ _).mono ?_; rintro e w1 ⟨rfl, hb⟩; have X := adv hB hb hc hz; clear hB hb hc hz; obtain ⟨hB, hc, hz⟩ := X)
    go_ret
    exact ⟨ret_int (by rw [gwithin, if_pos H.out]), hB⟩

set_option maxRecDepth 100000 in
set_option maxHeartbeats 1000000 in
theorem what_any (a b c s : Int) (w : World) :
    Calls Tryz.prog 60 #[geo a b c, .int .i64 s] w fun e w' => e = .returned (.tuple #[.int .i64 (wk a b c s), .int .i64 (wn a b c s), .int .i64 (we a b c s)]) ∧ Below w.heap.size w w' := by
  by_cases he : we a b c s = 0
  · have hE := Lib.hid he
    obtain ⟨hg, s0, s1⟩ := within_ok he
    have hw : (gwithin a b c s (gsize a b c) != 0) = false := by simpa [we] using he
    clear he
    have H := Lib.hid hg
    have hsz := size_bd a b c
    have hf := first_bd hg (k := 0) (by omega) (by omega)
    by_cases hlow : s < gfirst a b c 0
    · clear hg
      have hlow' : 0 ≤ s ∧ s < gfirst a b c 0 := ⟨s0, hlow⟩
      have hL := Lib.hid hlow
      rcases (show s = 0 ∨ s = 1 ∨ 2 ≤ s by omega) with rfl | rfl | h2
      all_goals
        go_enter Tryz.func60, Tryz.ntmps60
        go_wp2_with fail
        all_goals obtain ⟨hB, hc, hz⟩ := start_facts w #[.int .i64 a, .int .i64 b, .int .i64 c] 41
        all_goals generalize World.alloc w (.cells #[.int .i64 a, .int .i64 b, .int .i64 c] 41) = w0 at *
        go_wp2_with (first | (go_at_call 58; refine (first_any _ _ _ _ H.out (by omega) (by omega) _).mono ?_; rintro e w1 ⟨rfl, hb⟩; have X := adv hB hb hc hz; clear hB hb hc hz; obtain ⟨hB, hc, hz⟩ := X) | (refine region_held (by kernel_rfl) (by kernel_rfl) (fun τ hN F hF hG => ?_); have hcc := fun n => carry (hF n) hz hc; (repeat (go_big_quiet_step ((first | (go_at_call 42; refine (size_any _ _ _ _).mono ?_; rintro e w' ⟨rfl, hb⟩; exact ⟨rfl, hG _ ((hF _).trans (hb.mono (hF _).size))⟩) | (go_at_call 57; refine (within_any _ _ _ _ _ _).mono ?_; rintro e w' ⟨rfl, hb⟩; exact ⟨rfl, hG _ ((hF _).trans (hb.mono (hF _).size))⟩))))); refine wpQuiet_nil ?_; intro n; have X := adv hB (hF n) hc hz; generalize F n = w1 at *; clear hF hG hcc hB hc hz; obtain ⟨hB, hc, hz⟩ := X))
        go_ret3
        refine ⟨?_, hB⟩
        rw [(w_low hE.out hL.out).1, (w_low hE.out hL.out).2, hE.out]
        first
          | (rw [if_pos (by omega), if_pos (by omega)]; all_goals rfl)
          | (rw [if_neg (by omega), if_neg (by omega)]; all_goals rfl)
    · obtain ⟨k0, k1, r0, r1⟩ := high_bd hg (by omega) s1
      have p1 := prod_bd k0 k1 hg.2.1 (b := c) (by have := hg.2.2.2.2.1; omega) hg.2.2.2.2.2 (by omega) (by omega)
      have p2 := prod_bd k0 k1 hg.2.1 (b := b) (by have := hg.2.2.1; omega) hg.2.2.2.1 (by omega) (by omega)
      obtain ⟨h1, h2, h3, h4, h5, h6⟩ := hg
      have hlo : gfirst a b c 0 ≤ s := by omega
      clear hlow
      go_enter Tryz.func60, Tryz.ntmps60
      go_wp2_with fail
      all_goals obtain ⟨hB, hc, hz⟩ := start_facts w #[.int .i64 a, .int .i64 b, .int .i64 c] 41
      all_goals generalize World.alloc w (.cells #[.int .i64 a, .int .i64 b, .int .i64 c] 41) = w0 at *
      go_wp2_with (first | (go_at_call 58; refine (first_any _ _ _ _ H.out (by omega) (by omega) _).mono ?_; rintro e w1 ⟨rfl, hb⟩; have X := adv hB hb hc hz; clear hB hb hc hz; obtain ⟨hB, hc, hz⟩ := X) | (refine region_held (by kernel_rfl) (by kernel_rfl) (fun τ hN F hF hG => ?_); have hcc := fun n => carry (hF n) hz hc; (repeat (go_big_quiet_step ((first | (go_at_call 42; refine (size_any _ _ _ _).mono ?_; rintro e w' ⟨rfl, hb⟩; exact ⟨rfl, hG _ ((hF _).trans (hb.mono (hF _).size))⟩) | (go_at_call 57; refine (within_any _ _ _ _ _ _).mono ?_; rintro e w' ⟨rfl, hb⟩; exact ⟨rfl, hG _ ((hF _).trans (hb.mono (hF _).size))⟩) | (go_at_call 89; refine (long_any _ _ _ _ H.out).mono ?_; rintro e w' ⟨rfl, hb⟩; exact ⟨rfl, hG _ ((hF _).trans (hb.mono (hF _).size))⟩))))); refine wpQuiet_nil ?_; intro n; have X := adv hB (hF n) hc hz; generalize F n = w1 at *; clear hF hG hcc hB hc hz; obtain ⟨hB, hc, hz⟩ := X))
      all_goals
        go_ret3
        refine ⟨?_, hB⟩
        first
          | (rw [(w_block hE.out hlo (by omega)).1, (w_block hE.out hlo (by omega)).2, hE.out]; all_goals rfl)
          | (rw [(w_inode hE.out hlo (by omega) (by omega)).1, (w_inode hE.out hlo (by omega) (by omega)).2, hE.out]; all_goals rfl)
          | (rw [(w_map (by omega) hE.out hlo (by omega)).1, (w_map (by omega) hE.out hlo (by omega)).2, hE.out]; all_goals rfl)
  · have hE := Lib.hid he
    have hw : (gwithin a b c s (gsize a b c) != 0) = true := by simpa [we] using he
    clear he
    go_enter Tryz.func60, Tryz.ntmps60
    go_wp2_with fail
    all_goals obtain ⟨hB, hc, hz⟩ := start_facts w #[.int .i64 a, .int .i64 b, .int .i64 c] 41
    all_goals generalize World.alloc w (.cells #[.int .i64 a, .int .i64 b, .int .i64 c] 41) = w0 at *
    go_wp2_with (refine region_held (by kernel_rfl) (by kernel_rfl) (fun τ hN F hF hG => ?_); have hcc := fun n => carry (hF n) hz hc; (repeat (go_big_quiet_step ((first | (go_at_call 42; refine (size_any _ _ _ _).mono ?_; rintro e w' ⟨rfl, hb⟩; exact ⟨rfl, hG _ ((hF _).trans (hb.mono (hF _).size))⟩) | (go_at_call 57; refine (within_any _ _ _ _ _ _).mono ?_; rintro e w' ⟨rfl, hb⟩; exact ⟨rfl, hG _ ((hF _).trans (hb.mono (hF _).size))⟩))))); refine wpQuiet_nil ?_; intro n; have X := adv hB (hF n) hc hz; generalize F n = w1 at *; clear hF hG hcc hB hc hz; obtain ⟨hB, hc, hz⟩ := X)
    go_ret3
    refine ⟨?_, hB⟩
    rw [(w_none hE.out).1, (w_none hE.out).2]
    rfl
end Cw
namespace Cw
open Go Go.RowKit
open Go.Proofs

set_option maxRecDepth 100000 in
set_option maxHeartbeats 400000 in
theorem map_any (a b c k : Int) (blocks : Bool) (w : World) :
    Calls Tryz.prog 27 #[geo a b c, .int .i64 k, .bool blocks] w fun e w' => e = .returned (.tuple #[.int .i64 (mapAt a b c k blocks), .int .i64 (me a b c k)]) ∧ Below w.heap.size w w' := by
  by_cases he : me a b c k = 0
  · have hE := Lib.hid he
    obtain ⟨hg, s0, s1⟩ := within_ok he
    have hw : (gwithin a b c k a != 0) = false := by simpa [me] using he
    have e0 : mapAt a b c k blocks = if blocks then gfirst a b c k + 1 else gfirst a b c k := by unfold mapAt; rw [he]; rfl
    have hE0 := Lib.hid e0
    clear he e0
    have H := Lib.hid hg
    obtain ⟨h1, h2, h3, h4, h5, h6⟩ := hg
    have hf := first_bd H.out s0 (by omega)
    cases blocks
    all_goals
      go_enter Tryz.func27, Tryz.ntmps27
      go_wp2_with fail
      all_goals obtain ⟨hB, hc, hz⟩ := start_facts w #[.int .i64 a, .int .i64 b, .int .i64 c] 41
      all_goals generalize World.alloc w (.cells #[.int .i64 a, .int .i64 b, .int .i64 c] 41) = w0 at *
      go_wp2_with (first | (go_at_call 57; refine (within_any _ _ _ _ _ _).mono ?_; rintro e w1 ⟨rfl, hb⟩; have X := adv hB hb hc hz; clear hB hb hc hz; obtain ⟨hB, hc, hz⟩ := X) | (go_at_call 58; refine (first_any _ _ _ _ H.out (by omega) (by omega) _).mono ?_; rintro e w1 ⟨rfl, hb⟩; have X := adv hB hb hc hz; clear hB hb hc hz; obtain ⟨hB, hc, hz⟩ := X))
      go_ret2
      refine ⟨?_, hB⟩
      rw [hE.out, hE0.out]
      rfl
  · have hE := Lib.hid he
    have hw : (gwithin a b c k a != 0) = true := by simpa [me] using he
    have e0 : mapAt a b c k blocks = 0 := by unfold mapAt; rw [if_pos he]
    have hE0 := Lib.hid e0
    clear he e0
    go_enter Tryz.func27, Tryz.ntmps27
    go_wp2_with fail
    all_goals obtain ⟨hB, hc, hz⟩ := start_facts w #[.int .i64 a, .int .i64 b, .int .i64 c] 41
    all_goals generalize World.alloc w (.cells #[.int .i64 a, .int .i64 b, .int .i64 c] 41) = w0 at *
    go_wp2_with (go_at_call 57; refine (within_any _ _ _ _ _ _).mono ?_; rintro e w1 ⟨rfl, hb⟩; have X := adv hB hb hc hz; clear hB hb hc hz; obtain ⟨hB, hc, hz⟩ := X)
    go_ret2
    refine ⟨?_, hB⟩
    rw [hE0.out]
    rfl

set_option maxRecDepth 100000 in
set_option maxHeartbeats 400000 in
theorem inode_any (a b c n : Int) (w : World) :
    Calls Tryz.prog 117 #[geo a b c, .int .i64 n] w fun e w' => e = .returned (.tuple #[.int .i64 (is a b c n), .int .i64 (ig a b c n), .int .i64 (ip a b c n), .int .i64 (ie a b c n)]) ∧ Below w.heap.size w w' := by
  have hib := inodes_bd a b c
  by_cases he : gwithin a b c n (ginodes a b c + 1) = 0
  · obtain ⟨hg, s0, s1⟩ := within_ok he
    have hw : (gwithin a b c n (ginodes a b c + 1) != 0) = false := by simpa using he
    have H := Lib.hid hg
    obtain ⟨h1, h2, h3, h4, h5, h6⟩ := hg
    by_cases hn : n = 0
    · subst hn
      have e1 : ie a b c 0 = 1 := by unfold ie; rw [he]; rfl
      have e2 : ig a b c 0 = 0 := by unfold ig; rw [e1]; rfl
      have e3 : ip a b c 0 = 0 := by unfold ip; rw [e1]; rfl
      have e4 : is a b c 0 = 0 := by unfold is; rw [e1]; rfl
      have hE := Lib.hid (And.intro e1 (And.intro e2 (And.intro e3 e4)))
      clear he e1 e2 e3 e4
      go_enter Tryz.func117, Tryz.ntmps117
      go_wp2_with fail
      all_goals obtain ⟨hB, hc, hz⟩ := start_facts w #[.int .i64 a, .int .i64 b, .int .i64 c] 41
      all_goals generalize World.alloc w (.cells #[.int .i64 a, .int .i64 b, .int .i64 c] 41) = w0 at *
      go_wp2_with (refine region_held (by kernel_rfl) (by kernel_rfl) (fun τ hN F hF hG => ?_); have hcc := fun n => carry (hF n) hz hc; (repeat (go_big_quiet_step ((first | (go_at_call 88; refine (inodes_any _ _ _ _).mono ?_; rintro e w' ⟨rfl, hb⟩; exact ⟨rfl, hG _ ((hF _).trans (hb.mono (hF _).size))⟩) | (go_at_call 57; refine (within_any _ _ _ _ _ _).mono ?_; rintro e w' ⟨rfl, hb⟩; exact ⟨rfl, hG _ ((hF _).trans (hb.mono (hF _).size))⟩))))); refine wpQuiet_nil ?_; intro n; have X := adv hB (hF n) hc hz; generalize F n = w1 at *; clear hF hG hcc hB hc hz; obtain ⟨hB, hc, hz⟩ := X)
      refine bodyPost_ret (results_tmp4 rfl _ _ _) rfl ⟨?_, hB⟩
      rw [hE.out.1, hE.out.2.1, hE.out.2.2.1, hE.out.2.2.2]
      rfl
    · have hn2 : 1 ≤ n := by omega
      have e1 : ie a b c n = 0 := by unfold ie; rw [he]; simp [hn]
      have e2 : ig a b c n = (n - 1) / b := by unfold ig; rw [e1]; rfl
      have e3 : ip a b c n = (n - 1) % b := by unfold ip; rw [e1]; rfl
      have e4 : is a b c n = gfirst a b c ((n - 1) / b) + 2 + (n - 1) % b := by unfold is; rw [e1]; rfl
      have hE := Lib.hid (And.intro e1 (And.intro e2 (And.intro e3 e4)))
      have k0 : 0 ≤ (n - 1) / b := Int.ediv_nonneg (by omega) (by omega)
      have k1 : (n - 1) / b < a := by
        rw [Int.ediv_lt_iff_lt_mul (by omega)]
        unfold ginodes at s1
        rw [if_pos H.out] at s1
        omega
      have r0 : 0 ≤ (n - 1) % b := Int.emod_nonneg _ (by omega)
      have r1 : (n - 1) % b < b := Int.emod_lt_of_pos _ (by omega)
      have hf := first_bd H.out k0 (by omega)
      have hn0 : (n == 0) = false := by simpa using hn
      clear he hn e1 e2 e3 e4
      go_enter Tryz.func117, Tryz.ntmps117
      go_wp2_with fail
      all_goals obtain ⟨hB, hc, hz⟩ := start_facts w #[.int .i64 a, .int .i64 b, .int .i64 c] 41
      all_goals generalize World.alloc w (.cells #[.int .i64 a, .int .i64 b, .int .i64 c] 41) = w0 at *
      go_wp2_with (first | (go_at_call 58; refine (first_any _ _ _ _ H.out (by omega) (by omega) _).mono ?_; rintro e w1 ⟨rfl, hb⟩; have X := adv hB hb hc hz; clear hB hb hc hz; obtain ⟨hB, hc, hz⟩ := X) | (refine region_held (by kernel_rfl) (by kernel_rfl) (fun τ hN F hF hG => ?_); have hcc := fun n => carry (hF n) hz hc; (repeat (go_big_quiet_step ((first | (go_at_call 88; refine (inodes_any _ _ _ _).mono ?_; rintro e w' ⟨rfl, hb⟩; exact ⟨rfl, hG _ ((hF _).trans (hb.mono (hF _).size))⟩) | (go_at_call 57; refine (within_any _ _ _ _ _ _).mono ?_; rintro e w' ⟨rfl, hb⟩; exact ⟨rfl, hG _ ((hF _).trans (hb.mono (hF _).size))⟩))))); refine wpQuiet_nil ?_; intro n; have X := adv hB (hF n) hc hz; generalize F n = w1 at *; clear hF hG hcc hB hc hz; obtain ⟨hB, hc, hz⟩ := X))
      refine bodyPost_ret (results_tmp4 rfl _ _ _) rfl ⟨?_, hB⟩
      rw [hE.out.1, hE.out.2.1, hE.out.2.2.1, hE.out.2.2.2]
      rfl
  · have hw : (gwithin a b c n (ginodes a b c + 1) != 0) = true := by simpa using he
    have e1 : ie a b c n = gwithin a b c n (ginodes a b c + 1) := by unfold ie; rw [if_pos he]
    have e2 : ig a b c n = 0 := by unfold ig; rw [e1, if_pos he]
    have e3 : ip a b c n = 0 := by unfold ip; rw [e1, if_pos he]
    have e4 : is a b c n = 0 := by unfold is; rw [e1, if_pos he]
    have hE := Lib.hid (And.intro e1 (And.intro e2 (And.intro e3 e4)))
    clear he e1 e2 e3 e4
    go_enter Tryz.func117, Tryz.ntmps117
    go_wp2_with fail
    all_goals obtain ⟨hB, hc, hz⟩ := start_facts w #[.int .i64 a, .int .i64 b, .int .i64 c] 41
    all_goals generalize World.alloc w (.cells #[.int .i64 a, .int .i64 b, .int .i64 c] 41) = w0 at *
    go_wp2_with (refine region_held (by kernel_rfl) (by kernel_rfl) (fun τ hN F hF hG => ?_); have hcc := fun n => carry (hF n) hz hc; (repeat (go_big_quiet_step ((first | (go_at_call 88; refine (inodes_any _ _ _ _).mono ?_; rintro e w' ⟨rfl, hb⟩; exact ⟨rfl, hG _ ((hF _).trans (hb.mono (hF _).size))⟩) | (go_at_call 57; refine (within_any _ _ _ _ _ _).mono ?_; rintro e w' ⟨rfl, hb⟩; exact ⟨rfl, hG _ ((hF _).trans (hb.mono (hF _).size))⟩))))); refine wpQuiet_nil ?_; intro n; have X := adv hB (hF n) hc hz; generalize F n = w1 at *; clear hF hG hcc hB hc hz; obtain ⟨hB, hc, hz⟩ := X)
    refine bodyPost_ret (results_tmp4 rfl _ _ _) rfl ⟨?_, hB⟩
    rw [hE.out.1, hE.out.2.1, hE.out.2.2.1, hE.out.2.2.2]
    rfl

set_option maxRecDepth 100000 in
set_option maxHeartbeats 400000 in
theorem block_any (a b c k p : Int) (w : World) :
    Calls Tryz.prog 19 #[geo a b c, .int .i64 k, .int .i64 p] w fun e w' => e = .returned (.tuple #[.int .i64 (bs a b c k p), .int .i64 (be a b c k p)]) ∧ Below w.heap.size w w' := by
  by_cases he : gwithin a b c k a = 0
  · have hw : (gwithin a b c k a != 0) = false := by simpa using he
    have e1 : be a b c k p = gwithin a b c p c := by unfold be; rw [he]; rfl
    by_cases hf : gwithin a b c p c = 0
    · have hw2 : (gwithin a b c p c != 0) = false := by simpa using hf
      obtain ⟨hg, s0, s1⟩ := within_ok he
      obtain ⟨_, t0, t1⟩ := within_ok hf
      have e2 : bs a b c k p = gfirst a b c k + 2 + b + p := by unfold bs; rw [e1, hf]; rfl
      have hE := Lib.hid (And.intro (e1.trans hf) e2)
      have H := Lib.hid hg
      obtain ⟨h1, h2, h3, h4, h5, h6⟩ := hg
      have hfb := first_bd H.out s0 (by omega)
      clear he hf e1 e2
      go_enter Tryz.func19, Tryz.ntmps19
      go_wp2_with fail
      all_goals obtain ⟨hB, hc, hz⟩ := start_facts w #[.int .i64 a, .int .i64 b, .int .i64 c] 41
      all_goals generalize World.alloc w (.cells #[.int .i64 a, .int .i64 b, .int .i64 c] 41) = w0 at *
      go_wp2_with (first | (go_at_call 57; refine (within_any _ _ _ _ _ _).mono ?_; rintro e w1 ⟨rfl, hb⟩; have X := adv hB hb hc hz; clear hB hb hc hz; obtain ⟨hB, hc, hz⟩ := X) | (refine region_held (by kernel_rfl) (by kernel_rfl) (fun τ hN F hF hG => ?_); have hcc := fun n => carry (hF n) hz hc; (repeat (go_big_quiet_step ((go_at_call 58; refine (first_any _ _ _ _ H.out (by omega) (by omega) _).mono ?_; rintro e w' ⟨rfl, hb⟩; exact ⟨rfl, hG _ ((hF _).trans (hb.mono (hF _).size))⟩)))); refine wpQuiet_nil ?_; intro n; have X := adv hB (hF n) hc hz; generalize F n = w1 at *; clear hF hG hcc hB hc hz; obtain ⟨hB, hc, hz⟩ := X))
      go_ret2
      refine ⟨?_, hB⟩
      rw [hE.out.1, hE.out.2]
      rfl
    · have hw2 : (gwithin a b c p c != 0) = true := by simpa using hf
      have e2 : bs a b c k p = 0 := by unfold bs; rw [e1, if_pos hf]
      have hE := Lib.hid (And.intro e1 e2)
      clear he hf e1 e2
      go_enter Tryz.func19, Tryz.ntmps19
      go_wp2_with fail
      all_goals obtain ⟨hB, hc, hz⟩ := start_facts w #[.int .i64 a, .int .i64 b, .int .i64 c] 41
      all_goals generalize World.alloc w (.cells #[.int .i64 a, .int .i64 b, .int .i64 c] 41) = w0 at *
      go_wp2_with (go_at_call 57; refine (within_any _ _ _ _ _ _).mono ?_; rintro e w1 ⟨rfl, hb⟩; have X := adv hB hb hc hz; clear hB hb hc hz; obtain ⟨hB, hc, hz⟩ := X)
      go_ret2
      refine ⟨?_, hB⟩
      rw [hE.out.1, hE.out.2]
      rfl
  · have hw : (gwithin a b c k a != 0) = true := by simpa using he
    have e1 : be a b c k p = gwithin a b c k a := by unfold be; rw [if_pos he]
    have e2 : bs a b c k p = 0 := by unfold bs; rw [e1, if_pos he]
    have hE := Lib.hid (And.intro e1 e2)
    clear he e1 e2
    go_enter Tryz.func19, Tryz.ntmps19
    go_wp2_with fail
    all_goals obtain ⟨hB, hc, hz⟩ := start_facts w #[.int .i64 a, .int .i64 b, .int .i64 c] 41
    all_goals generalize World.alloc w (.cells #[.int .i64 a, .int .i64 b, .int .i64 c] 41) = w0 at *
    go_wp2_with (go_at_call 57; refine (within_any _ _ _ _ _ _).mono ?_; rintro e w1 ⟨rfl, hb⟩; have X := adv hB hb hc hz; clear hB hb hc hz; obtain ⟨hB, hc, hz⟩ := X)
    go_ret2
    refine ⟨?_, hB⟩
    rw [hE.out.1, hE.out.2]
    rfl

set_option maxRecDepth 100000 in
set_option maxHeartbeats 400000 in
theorem place_any (a b c s : Int) (w : World) :
    Calls Tryz.prog 21 #[geo a b c, .int .i64 s] w fun e w' => e = .returned (.tuple #[.int .i64 (pg a b c s), .int .i64 (pp a b c s), .int .i64 (pe a b c s)]) ∧ Below w.heap.size w w' := by
  have hn := wn_bd a b c s
  by_cases he : we a b c s = 0
  · have hw : (we a b c s != 0) = false := by simpa using he
    obtain ⟨hg, s0, s1⟩ := within_ok he
    obtain ⟨h1, h2, h3, h4, h5, h6⟩ := hg
    by_cases hk : wk a b c s = 6
    · have hw2 : (wk a b c s != 6) = false := by simpa using hk
      have e1 : pe a b c s = 0 := by unfold pe; rw [he, hk]; rfl
      have e2 : pg a b c s = wn a b c s / c := by unfold pg; rw [e1]; rfl
      have e3 : pp a b c s = wn a b c s % c := by unfold pp; rw [e1]; rfl
      have hE := Lib.hid (And.intro e1 (And.intro e2 e3))
      clear he hk e1 e2 e3
      go_enter Tryz.func21, Tryz.ntmps21
      go_wp2_with fail
      all_goals obtain ⟨hB, hc, hz⟩ := start_facts w #[.int .i64 a, .int .i64 b, .int .i64 c] 41
      all_goals generalize World.alloc w (.cells #[.int .i64 a, .int .i64 b, .int .i64 c] 41) = w0 at *
      go_wp2_with (first | (go_at_call 60; refine (what_any _ _ _ _ _).mono ?_; rintro e w1 ⟨rfl, hb⟩; have X := adv hB hb hc hz; clear hB hb hc hz; obtain ⟨hB, hc, hz⟩ := X) | (refine region_held (by kernel_rfl) (by kernel_rfl) (fun τ hN F hF hG => ?_); have hcc := fun n => carry (hF n) hz hc; (repeat (go_big_quiet_step (fail))); refine wpQuiet_nil ?_; intro n; have X := adv hB (hF n) hc hz; generalize F n = w1 at *; clear hF hG hcc hB hc hz; obtain ⟨hB, hc, hz⟩ := X))
      go_ret3
      refine ⟨?_, hB⟩
      rw [hE.out.1, hE.out.2.1, hE.out.2.2]
      rfl
    · have hw2 : (wk a b c s != 6) = true := by simpa using hk
      have e1 : pe a b c s = 1 := by unfold pe; rw [he]; simp [hk]
      have e2 : pg a b c s = 0 := by unfold pg; rw [e1]; rfl
      have e3 : pp a b c s = 0 := by unfold pp; rw [e1]; rfl
      have hE := Lib.hid (And.intro e1 (And.intro e2 e3))
      clear he hk e1 e2 e3
      go_enter Tryz.func21, Tryz.ntmps21
      go_wp2_with fail
      all_goals obtain ⟨hB, hc, hz⟩ := start_facts w #[.int .i64 a, .int .i64 b, .int .i64 c] 41
      all_goals generalize World.alloc w (.cells #[.int .i64 a, .int .i64 b, .int .i64 c] 41) = w0 at *
      go_wp2_with (go_at_call 60; refine (what_any _ _ _ _ _).mono ?_; rintro e w1 ⟨rfl, hb⟩; have X := adv hB hb hc hz; clear hB hb hc hz; obtain ⟨hB, hc, hz⟩ := X)
      go_ret3
      refine ⟨?_, hB⟩
      rw [hE.out.1, hE.out.2.1, hE.out.2.2]
      rfl
  · have hw : (we a b c s != 0) = true := by simpa using he
    have e1 : pe a b c s = we a b c s := by unfold pe; rw [if_pos he]
    have e2 : pg a b c s = 0 := by unfold pg; rw [e1, if_pos he]
    have e3 : pp a b c s = 0 := by unfold pp; rw [e1, if_pos he]
    have hE := Lib.hid (And.intro e1 (And.intro e2 e3))
    clear he e1 e2 e3
    go_enter Tryz.func21, Tryz.ntmps21
    go_wp2_with fail
    all_goals obtain ⟨hB, hc, hz⟩ := start_facts w #[.int .i64 a, .int .i64 b, .int .i64 c] 41
    all_goals generalize World.alloc w (.cells #[.int .i64 a, .int .i64 b, .int .i64 c] 41) = w0 at *
    go_wp2_with (go_at_call 60; refine (what_any _ _ _ _ _).mono ?_; rintro e w1 ⟨rfl, hb⟩; have X := adv hB hb hc hz; clear hB hb hc hz; obtain ⟨hB, hc, hz⟩ := X)
    go_ret3
    refine ⟨?_, hB⟩
    rw [hE.out.1, hE.out.2.1, hE.out.2.2]
    rfl

set_option maxRecDepth 100000 in
set_option maxHeartbeats 400000 in
theorem table_any (a b c r : Int) (w : World) :
    Calls Tryz.prog 53 #[geo a b c, .int .i64 r] w fun e w' => e = .returned (.tuple #[.int .i64 (ts a b c r), .int .i64 (toff a b c r), .int .i64 (te a b c r)]) ∧ Below w.heap.size w w' := by
  have hrb := regions_bd a b c
  by_cases he : te a b c r = 0
  · have hw : (gwithin a b c r (gregions a b c) != 0) = false := by simpa [te] using he
    obtain ⟨hg, s0, s1⟩ := within_ok he
    have e2 : ts a b c r = 2 + r / 16 := by unfold ts; rw [he]; rfl
    have e3 : toff a b c r = r % 16 * 4 := by unfold toff; rw [he]; rfl
    have hE := Lib.hid (And.intro he (And.intro e2 e3))
    clear he e2 e3 hg
    go_enter Tryz.func53, Tryz.ntmps53
    go_wp2_with fail
    all_goals obtain ⟨hB, hc, hz⟩ := start_facts w #[.int .i64 a, .int .i64 b, .int .i64 c] 41
    all_goals generalize World.alloc w (.cells #[.int .i64 a, .int .i64 b, .int .i64 c] 41) = w0 at *
    go_wp2_with (refine region_held (by kernel_rfl) (by kernel_rfl) (fun τ hN F hF hG => ?_); have hcc := fun n => carry (hF n) hz hc; (repeat (go_big_quiet_step ((first | (go_at_call 52; refine (regions_any _ _ _ _).mono ?_; rintro e w' ⟨rfl, hb⟩; exact ⟨rfl, hG _ ((hF _).trans (hb.mono (hF _).size))⟩) | (go_at_call 57; refine (within_any _ _ _ _ _ _).mono ?_; rintro e w' ⟨rfl, hb⟩; exact ⟨rfl, hG _ ((hF _).trans (hb.mono (hF _).size))⟩))))); refine wpQuiet_nil ?_; intro n; have X := adv hB (hF n) hc hz; generalize F n = w1 at *; clear hF hG hcc hB hc hz; obtain ⟨hB, hc, hz⟩ := X)
    go_ret3
    refine ⟨?_, hB⟩
    rw [hE.out.1, hE.out.2.1, hE.out.2.2]
    rfl
  · have hw : (gwithin a b c r (gregions a b c) != 0) = true := by simpa [te] using he
    have e2 : ts a b c r = 0 := by unfold ts; rw [if_pos he]
    have e3 : toff a b c r = 0 := by unfold toff; rw [if_pos he]
    have hE := Lib.hid (And.intro e2 e3)
    clear he e2 e3
    go_enter Tryz.func53, Tryz.ntmps53
    go_wp2_with fail
    all_goals obtain ⟨hB, hc, hz⟩ := start_facts w #[.int .i64 a, .int .i64 b, .int .i64 c] 41
    all_goals generalize World.alloc w (.cells #[.int .i64 a, .int .i64 b, .int .i64 c] 41) = w0 at *
    go_wp2_with (refine region_held (by kernel_rfl) (by kernel_rfl) (fun τ hN F hF hG => ?_); have hcc := fun n => carry (hF n) hz hc; (repeat (go_big_quiet_step ((first | (go_at_call 52; refine (regions_any _ _ _ _).mono ?_; rintro e w' ⟨rfl, hb⟩; exact ⟨rfl, hG _ ((hF _).trans (hb.mono (hF _).size))⟩) | (go_at_call 57; refine (within_any _ _ _ _ _ _).mono ?_; rintro e w' ⟨rfl, hb⟩; exact ⟨rfl, hG _ ((hF _).trans (hb.mono (hF _).size))⟩))))); refine wpQuiet_nil ?_; intro n; have X := adv hB (hF n) hc hz; generalize F n = w1 at *; clear hF hG hcc hB hc hz; obtain ⟨hB, hc, hz⟩ := X)
    go_ret3
    refine ⟨?_, hB⟩
    rw [hE.out.1, hE.out.2]
    rfl

end Cw
namespace Cw
open Go Go.RowKit
open Go.Proofs

end Cw
