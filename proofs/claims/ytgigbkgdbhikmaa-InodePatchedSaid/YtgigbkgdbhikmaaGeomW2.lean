/- The walks of the program's package geom, behind What: Map, Inode, Block, Place, Table, Region. -/
import Derived.Test.YtgigbkgdbhikmaaGeomW
namespace Cw
open Go Go.RowKit
open Go.Proofs

set_option maxRecDepth 100000 in
set_option maxHeartbeats 400000 in
theorem map_any (a b c k : Int) (blocks : Bool) (w : World) :
    Calls Try.prog 37 #[geo a b c, .int .i64 k, .bool blocks] w fun e w' => e = .returned (.tuple #[.int .i64 (mapAt a b c k blocks), .int .i64 (me a b c k)]) ∧ Below w.heap.size w w' := by
  by_cases he : me a b c k = 0
  · have hE := Lib.hid he
    obtain ⟨hg, s0, s1⟩ := within_ok he
    have hw : (gwithin a b c k a != 0) = false := by simpa [me] using he
    have e0 : mapAt a b c k blocks = if blocks then gfirst a b c k + 1 else gfirst a b c k := by unfold mapAt; rw [he]; rfl
    have hE0 := Lib.hid e0
    clear he e0
    have H := Lib.hid hg
    obtain ⟨h1, h2, h3, h4, h5, h6⟩ := hg
    have hf := first_bd H.out s0 (by omega)
    cases blocks
    all_goals
      go_enter Try.func37, Try.ntmps37
      go_wp2_with fail
      all_goals obtain ⟨hB, hc, hz⟩ := start_facts w #[.int .i64 a, .int .i64 b, .int .i64 c] 32
      all_goals generalize World.alloc w (.cells #[.int .i64 a, .int .i64 b, .int .i64 c] 32) = w0 at *
      go_wp2_with (first | (go_at_call 87; refine (within_any _ _ _ _ _ _).mono ?_; rintro e w1 ⟨rfl, hb⟩; have X := adv hB hb hc hz; clear hB hb hc hz; obtain ⟨hB, hc, hz⟩ := X) | (go_at_call 86; refine (first_any _ _ _ _ H.out (by omega) (by omega) _).mono ?_; rintro e w1 ⟨rfl, hb⟩; have X := adv hB hb hc hz; clear hB hb hc hz; obtain ⟨hB, hc, hz⟩ := X))
      go_ret2
      refine ⟨?_, hB⟩
      rw [hE.out, hE0.out]
      rfl
  · have hE := Lib.hid he
    have hw : (gwithin a b c k a != 0) = true := by simpa [me] using he
    have e0 : mapAt a b c k blocks = 0 := by unfold mapAt; rw [if_pos he]
    have hE0 := Lib.hid e0
    clear he e0
    go_enter Try.func37, Try.ntmps37
    go_wp2_with fail
    all_goals obtain ⟨hB, hc, hz⟩ := start_facts w #[.int .i64 a, .int .i64 b, .int .i64 c] 32
    all_goals generalize World.alloc w (.cells #[.int .i64 a, .int .i64 b, .int .i64 c] 32) = w0 at *
    go_wp2_with (go_at_call 87; refine (within_any _ _ _ _ _ _).mono ?_; rintro e w1 ⟨rfl, hb⟩; have X := adv hB hb hc hz; clear hB hb hc hz; obtain ⟨hB, hc, hz⟩ := X)
    go_ret2
    refine ⟨?_, hB⟩
    rw [hE0.out]
    rfl

set_option maxRecDepth 100000 in
set_option maxHeartbeats 400000 in
theorem inode_any (a b c n : Int) (w : World) :
    Calls Try.prog 38 #[geo a b c, .int .i64 n] w fun e w' => e = .returned (.tuple #[.int .i64 (is a b c n), .int .i64 (ig a b c n), .int .i64 (ip a b c n), .int .i64 (ie a b c n)]) ∧ Below w.heap.size w w' := by
  have hib := inodes_bd a b c
  by_cases he : gwithin a b c n (ginodes a b c + 1) = 0
  · obtain ⟨hg, s0, s1⟩ := within_ok he
    have hw : (gwithin a b c n (ginodes a b c + 1) != 0) = false := by simpa using he
    have H := Lib.hid hg
    obtain ⟨h1, h2, h3, h4, h5, h6⟩ := hg
    by_cases hn : n = 0
    · subst hn
      have e1 : ie a b c 0 = 1 := by unfold ie; rw [he]; rfl
      have e2 : ig a b c 0 = 0 := by unfold ig; rw [e1]; rfl
      have e3 : ip a b c 0 = 0 := by unfold ip; rw [e1]; rfl
      have e4 : is a b c 0 = 0 := by unfold is; rw [e1]; rfl
      have hE := Lib.hid (And.intro e1 (And.intro e2 (And.intro e3 e4)))
      clear he e1 e2 e3 e4
      go_enter Try.func38, Try.ntmps38
      go_wp2_with fail
      all_goals obtain ⟨hB, hc, hz⟩ := start_facts w #[.int .i64 a, .int .i64 b, .int .i64 c] 32
      all_goals generalize World.alloc w (.cells #[.int .i64 a, .int .i64 b, .int .i64 c] 32) = w0 at *
      go_wp2_with (refine region_held (by kernel_rfl) (by kernel_rfl) (fun τ hN F hF hG => ?_); have hcc := fun n => carry (hF n) hz hc; (repeat (go_big_quiet_step ((first | (go_at_call 41; refine (inodes_any _ _ _ _).mono ?_; rintro e w' ⟨rfl, hb⟩; exact ⟨rfl, hG _ ((hF _).trans (hb.mono (hF _).size))⟩) | (go_at_call 87; refine (within_any _ _ _ _ _ _).mono ?_; rintro e w' ⟨rfl, hb⟩; exact ⟨rfl, hG _ ((hF _).trans (hb.mono (hF _).size))⟩))))); refine wpQuiet_nil ?_; intro n; have X := adv hB (hF n) hc hz; generalize F n = w1 at *; clear hF hG hcc hB hc hz; obtain ⟨hB, hc, hz⟩ := X)
      refine bodyPost_ret (results_tmp4 rfl _ _ _) rfl ⟨?_, hB⟩
      rw [hE.out.1, hE.out.2.1, hE.out.2.2.1, hE.out.2.2.2]
      rfl
    · have hn2 : 1 ≤ n := by omega
      have e1 : ie a b c n = 0 := by unfold ie; rw [he]; simp [hn]
      have e2 : ig a b c n = (n - 1) / b := by unfold ig; rw [e1]; rfl
      have e3 : ip a b c n = (n - 1) % b := by unfold ip; rw [e1]; rfl
      have e4 : is a b c n = gfirst a b c ((n - 1) / b) + 2 + (n - 1) % b := by unfold is; rw [e1]; rfl
      have hE := Lib.hid (And.intro e1 (And.intro e2 (And.intro e3 e4)))
      have k0 : 0 ≤ (n - 1) / b := Int.ediv_nonneg (by omega) (by omega)
      have k1 : (n - 1) / b < a := by
        rw [Int.ediv_lt_iff_lt_mul (by omega)]
        unfold ginodes at s1
        rw [if_pos H.out] at s1
        omega
      have r0 : 0 ≤ (n - 1) % b := Int.emod_nonneg _ (by omega)
      have r1 : (n - 1) % b < b := Int.emod_lt_of_pos _ (by omega)
      have hf := first_bd H.out k0 (by omega)
      have hn0 : (n == 0) = false := by simpa using hn
      clear he hn e1 e2 e3 e4
      go_enter Try.func38, Try.ntmps38
      go_wp2_with fail
      all_goals obtain ⟨hB, hc, hz⟩ := start_facts w #[.int .i64 a, .int .i64 b, .int .i64 c] 32
      all_goals generalize World.alloc w (.cells #[.int .i64 a, .int .i64 b, .int .i64 c] 32) = w0 at *
      go_wp2_with (first | (go_at_call 86; refine (first_any _ _ _ _ H.out (by omega) (by omega) _).mono ?_; rintro e w1 ⟨rfl, hb⟩; have X := adv hB hb hc hz; clear hB hb hc hz; obtain ⟨hB, hc, hz⟩ := X) | (refine region_held (by kernel_rfl) (by kernel_rfl) (fun τ hN F hF hG => ?_); have hcc := fun n => carry (hF n) hz hc; (repeat (go_big_quiet_step ((first | (go_at_call 41; refine (inodes_any _ _ _ _).mono ?_; rintro e w' ⟨rfl, hb⟩; exact ⟨rfl, hG _ ((hF _).trans (hb.mono (hF _).size))⟩) | (go_at_call 87; refine (within_any _ _ _ _ _ _).mono ?_; rintro e w' ⟨rfl, hb⟩; exact ⟨rfl, hG _ ((hF _).trans (hb.mono (hF _).size))⟩))))); refine wpQuiet_nil ?_; intro n; have X := adv hB (hF n) hc hz; generalize F n = w1 at *; clear hF hG hcc hB hc hz; obtain ⟨hB, hc, hz⟩ := X))
      refine bodyPost_ret (results_tmp4 rfl _ _ _) rfl ⟨?_, hB⟩
      rw [hE.out.1, hE.out.2.1, hE.out.2.2.1, hE.out.2.2.2]
      rfl
  · have hw : (gwithin a b c n (ginodes a b c + 1) != 0) = true := by simpa using he
    have e1 : ie a b c n = gwithin a b c n (ginodes a b c + 1) := by unfold ie; rw [if_pos he]
    have e2 : ig a b c n = 0 := by unfold ig; rw [e1, if_pos he]
    have e3 : ip a b c n = 0 := by unfold ip; rw [e1, if_pos he]
    have e4 : is a b c n = 0 := by unfold is; rw [e1, if_pos he]
    have hE := Lib.hid (And.intro e1 (And.intro e2 (And.intro e3 e4)))
    clear he e1 e2 e3 e4
    go_enter Try.func38, Try.ntmps38
    go_wp2_with fail
    all_goals obtain ⟨hB, hc, hz⟩ := start_facts w #[.int .i64 a, .int .i64 b, .int .i64 c] 32
    all_goals generalize World.alloc w (.cells #[.int .i64 a, .int .i64 b, .int .i64 c] 32) = w0 at *
    go_wp2_with (refine region_held (by kernel_rfl) (by kernel_rfl) (fun τ hN F hF hG => ?_); have hcc := fun n => carry (hF n) hz hc; (repeat (go_big_quiet_step ((first | (go_at_call 41; refine (inodes_any _ _ _ _).mono ?_; rintro e w' ⟨rfl, hb⟩; exact ⟨rfl, hG _ ((hF _).trans (hb.mono (hF _).size))⟩) | (go_at_call 87; refine (within_any _ _ _ _ _ _).mono ?_; rintro e w' ⟨rfl, hb⟩; exact ⟨rfl, hG _ ((hF _).trans (hb.mono (hF _).size))⟩))))); refine wpQuiet_nil ?_; intro n; have X := adv hB (hF n) hc hz; generalize F n = w1 at *; clear hF hG hcc hB hc hz; obtain ⟨hB, hc, hz⟩ := X)
    refine bodyPost_ret (results_tmp4 rfl _ _ _) rfl ⟨?_, hB⟩
    rw [hE.out.1, hE.out.2.1, hE.out.2.2.1, hE.out.2.2.2]
    rfl

set_option maxRecDepth 100000 in
set_option maxHeartbeats 400000 in
theorem block_any (a b c k p : Int) (w : World) :
    Calls Try.prog 36 #[geo a b c, .int .i64 k, .int .i64 p] w fun e w' => e = .returned (.tuple #[.int .i64 (bs a b c k p), .int .i64 (be a b c k p)]) ∧ Below w.heap.size w w' := by
  by_cases he : gwithin a b c k a = 0
  · have hw : (gwithin a b c k a != 0) = false := by simpa using he
    have e1 : be a b c k p = gwithin a b c p c := by unfold be; rw [he]; rfl
    by_cases hf : gwithin a b c p c = 0
    · have hw2 : (gwithin a b c p c != 0) = false := by simpa using hf
      obtain ⟨hg, s0, s1⟩ := within_ok he
      obtain ⟨_, t0, t1⟩ := within_ok hf
      have e2 : bs a b c k p = gfirst a b c k + 2 + b + p := by unfold bs; rw [e1, hf]; rfl
      have hE := Lib.hid (And.intro (e1.trans hf) e2)
      have H := Lib.hid hg
      obtain ⟨h1, h2, h3, h4, h5, h6⟩ := hg
      have hfb := first_bd H.out s0 (by omega)
      clear he hf e1 e2
      go_enter Try.func36, Try.ntmps36
      go_wp2_with fail
      all_goals obtain ⟨hB, hc, hz⟩ := start_facts w #[.int .i64 a, .int .i64 b, .int .i64 c] 32
      all_goals generalize World.alloc w (.cells #[.int .i64 a, .int .i64 b, .int .i64 c] 32) = w0 at *
      go_wp2_with (first | (go_at_call 87; refine (within_any _ _ _ _ _ _).mono ?_; rintro e w1 ⟨rfl, hb⟩; have X := adv hB hb hc hz; clear hB hb hc hz; obtain ⟨hB, hc, hz⟩ := X) | (refine region_held (by kernel_rfl) (by kernel_rfl) (fun τ hN F hF hG => ?_); have hcc := fun n => carry (hF n) hz hc; (repeat (go_big_quiet_step ((go_at_call 86; refine (first_any _ _ _ _ H.out (by omega) (by omega) _).mono ?_; rintro e w' ⟨rfl, hb⟩; exact ⟨rfl, hG _ ((hF _).trans (hb.mono (hF _).size))⟩)))); refine wpQuiet_nil ?_; intro n; have X := adv hB (hF n) hc hz; generalize F n = w1 at *; clear hF hG hcc hB hc hz; obtain ⟨hB, hc, hz⟩ := X))
      go_ret2
      refine ⟨?_, hB⟩
      rw [hE.out.1, hE.out.2]
      rfl
    · have hw2 : (gwithin a b c p c != 0) = true := by simpa using hf
      have e2 : bs a b c k p = 0 := by unfold bs; rw [e1, if_pos hf]
      have hE := Lib.hid (And.intro e1 e2)
      clear he hf e1 e2
      go_enter Try.func36, Try.ntmps36
      go_wp2_with fail
      all_goals obtain ⟨hB, hc, hz⟩ := start_facts w #[.int .i64 a, .int .i64 b, .int .i64 c] 32
      all_goals generalize World.alloc w (.cells #[.int .i64 a, .int .i64 b, .int .i64 c] 32) = w0 at *
      go_wp2_with (go_at_call 87; refine (within_any _ _ _ _ _ _).mono ?_; rintro e w1 ⟨rfl, hb⟩; have X := adv hB hb hc hz; clear hB hb hc hz; obtain ⟨hB, hc, hz⟩ := X)
      go_ret2
      refine ⟨?_, hB⟩
      rw [hE.out.1, hE.out.2]
      rfl
  · have hw : (gwithin a b c k a != 0) = true := by simpa using he
    have e1 : be a b c k p = gwithin a b c k a := by unfold be; rw [if_pos he]
    have e2 : bs a b c k p = 0 := by unfold bs; rw [e1, if_pos he]
    have hE := Lib.hid (And.intro e1 e2)
    clear he e1 e2
    go_enter Try.func36, Try.ntmps36
    go_wp2_with fail
    all_goals obtain ⟨hB, hc, hz⟩ := start_facts w #[.int .i64 a, .int .i64 b, .int .i64 c] 32
    all_goals generalize World.alloc w (.cells #[.int .i64 a, .int .i64 b, .int .i64 c] 32) = w0 at *
    go_wp2_with (go_at_call 87; refine (within_any _ _ _ _ _ _).mono ?_; rintro e w1 ⟨rfl, hb⟩; have X := adv hB hb hc hz; clear hB hb hc hz; obtain ⟨hB, hc, hz⟩ := X)
    go_ret2
    refine ⟨?_, hB⟩
    rw [hE.out.1, hE.out.2]
    rfl

set_option maxRecDepth 100000 in
set_option maxHeartbeats 400000 in
theorem place_any (a b c s : Int) (w : World) :
    Calls Try.prog 39 #[geo a b c, .int .i64 s] w fun e w' => e = .returned (.tuple #[.int .i64 (pg a b c s), .int .i64 (pp a b c s), .int .i64 (pe a b c s)]) ∧ Below w.heap.size w w' := by
  have hn := wn_bd a b c s
  by_cases he : we a b c s = 0
  · have hw : (we a b c s != 0) = false := by simpa using he
    obtain ⟨hg, s0, s1⟩ := within_ok he
    obtain ⟨h1, h2, h3, h4, h5, h6⟩ := hg
    by_cases hk : wk a b c s = 6
    · have hw2 : (wk a b c s != 6) = false := by simpa using hk
      have e1 : pe a b c s = 0 := by unfold pe; rw [he, hk]; rfl
      have e2 : pg a b c s = wn a b c s / c := by unfold pg; rw [e1]; rfl
      have e3 : pp a b c s = wn a b c s % c := by unfold pp; rw [e1]; rfl
      have hE := Lib.hid (And.intro e1 (And.intro e2 e3))
      clear he hk e1 e2 e3
      go_enter Try.func39, Try.ntmps39
      go_wp2_with fail
      all_goals obtain ⟨hB, hc, hz⟩ := start_facts w #[.int .i64 a, .int .i64 b, .int .i64 c] 32
      all_goals generalize World.alloc w (.cells #[.int .i64 a, .int .i64 b, .int .i64 c] 32) = w0 at *
      go_wp2_with (first | (go_at_call 35; refine (what_any _ _ _ _ _).mono ?_; rintro e w1 ⟨rfl, hb⟩; have X := adv hB hb hc hz; clear hB hb hc hz; obtain ⟨hB, hc, hz⟩ := X) | (refine region_held (by kernel_rfl) (by kernel_rfl) (fun τ hN F hF hG => ?_); have hcc := fun n => carry (hF n) hz hc; (repeat (go_big_quiet_step (fail))); refine wpQuiet_nil ?_; intro n; have X := adv hB (hF n) hc hz; generalize F n = w1 at *; clear hF hG hcc hB hc hz; obtain ⟨hB, hc, hz⟩ := X))
      go_ret3
      refine ⟨?_, hB⟩
      rw [hE.out.1, hE.out.2.1, hE.out.2.2]
      rfl
    · have hw2 : (wk a b c s != 6) = true := by simpa using hk
      have e1 : pe a b c s = 1 := by unfold pe; rw [he]; simp [hk]
      have e2 : pg a b c s = 0 := by unfold pg; rw [e1]; rfl
      have e3 : pp a b c s = 0 := by unfold pp; rw [e1]; rfl
      have hE := Lib.hid (And.intro e1 (And.intro e2 e3))
      clear he hk e1 e2 e3
      go_enter Try.func39, Try.ntmps39
      go_wp2_with fail
      all_goals obtain ⟨hB, hc, hz⟩ := start_facts w #[.int .i64 a, .int .i64 b, .int .i64 c] 32
      all_goals generalize World.alloc w (.cells #[.int .i64 a, .int .i64 b, .int .i64 c] 32) = w0 at *
      go_wp2_with (go_at_call 35; refine (what_any _ _ _ _ _).mono ?_; rintro e w1 ⟨rfl, hb⟩; have X := adv hB hb hc hz; clear hB hb hc hz; obtain ⟨hB, hc, hz⟩ := X)
      go_ret3
      refine ⟨?_, hB⟩
      rw [hE.out.1, hE.out.2.1, hE.out.2.2]
      rfl
  · have hw : (we a b c s != 0) = true := by simpa using he
    have e1 : pe a b c s = we a b c s := by unfold pe; rw [if_pos he]
    have e2 : pg a b c s = 0 := by unfold pg; rw [e1, if_pos he]
    have e3 : pp a b c s = 0 := by unfold pp; rw [e1, if_pos he]
    have hE := Lib.hid (And.intro e1 (And.intro e2 e3))
    clear he e1 e2 e3
    go_enter Try.func39, Try.ntmps39
    go_wp2_with fail
    all_goals obtain ⟨hB, hc, hz⟩ := start_facts w #[.int .i64 a, .int .i64 b, .int .i64 c] 32
    all_goals generalize World.alloc w (.cells #[.int .i64 a, .int .i64 b, .int .i64 c] 32) = w0 at *
    go_wp2_with (go_at_call 35; refine (what_any _ _ _ _ _).mono ?_; rintro e w1 ⟨rfl, hb⟩; have X := adv hB hb hc hz; clear hB hb hc hz; obtain ⟨hB, hc, hz⟩ := X)
    go_ret3
    refine ⟨?_, hB⟩
    rw [hE.out.1, hE.out.2.1, hE.out.2.2]
    rfl

set_option maxRecDepth 100000 in
set_option maxHeartbeats 400000 in
theorem table_any (a b c r : Int) (w : World) :
    Calls Try.prog 43 #[geo a b c, .int .i64 r] w fun e w' => e = .returned (.tuple #[.int .i64 (ts a b c r), .int .i64 (toff a b c r), .int .i64 (te a b c r)]) ∧ Below w.heap.size w w' := by
  have hrb := regions_bd a b c
  by_cases he : te a b c r = 0
  · have hw : (gwithin a b c r (gregions a b c) != 0) = false := by simpa [te] using he
    obtain ⟨hg, s0, s1⟩ := within_ok he
    have e2 : ts a b c r = 2 + r / 16 := by unfold ts; rw [he]; rfl
    have e3 : toff a b c r = r % 16 * 4 := by unfold toff; rw [he]; rfl
    have hE := Lib.hid (And.intro he (And.intro e2 e3))
    clear he e2 e3 hg
    go_enter Try.func43, Try.ntmps43
    go_wp2_with fail
    all_goals obtain ⟨hB, hc, hz⟩ := start_facts w #[.int .i64 a, .int .i64 b, .int .i64 c] 32
    all_goals generalize World.alloc w (.cells #[.int .i64 a, .int .i64 b, .int .i64 c] 32) = w0 at *
    go_wp2_with (refine region_held (by kernel_rfl) (by kernel_rfl) (fun τ hN F hF hG => ?_); have hcc := fun n => carry (hF n) hz hc; (repeat (go_big_quiet_step ((first | (go_at_call 40; refine (regions_any _ _ _ _).mono ?_; rintro e w' ⟨rfl, hb⟩; exact ⟨rfl, hG _ ((hF _).trans (hb.mono (hF _).size))⟩) | (go_at_call 87; refine (within_any _ _ _ _ _ _).mono ?_; rintro e w' ⟨rfl, hb⟩; exact ⟨rfl, hG _ ((hF _).trans (hb.mono (hF _).size))⟩))))); refine wpQuiet_nil ?_; intro n; have X := adv hB (hF n) hc hz; generalize F n = w1 at *; clear hF hG hcc hB hc hz; obtain ⟨hB, hc, hz⟩ := X)
    go_ret3
    refine ⟨?_, hB⟩
    rw [hE.out.1, hE.out.2.1, hE.out.2.2]
    rfl
  · have hw : (gwithin a b c r (gregions a b c) != 0) = true := by simpa [te] using he
    have e2 : ts a b c r = 0 := by unfold ts; rw [if_pos he]
    have e3 : toff a b c r = 0 := by unfold toff; rw [if_pos he]
    have hE := Lib.hid (And.intro e2 e3)
    clear he e2 e3
    go_enter Try.func43, Try.ntmps43
    go_wp2_with fail
    all_goals obtain ⟨hB, hc, hz⟩ := start_facts w #[.int .i64 a, .int .i64 b, .int .i64 c] 32
    all_goals generalize World.alloc w (.cells #[.int .i64 a, .int .i64 b, .int .i64 c] 32) = w0 at *
    go_wp2_with (refine region_held (by kernel_rfl) (by kernel_rfl) (fun τ hN F hF hG => ?_); have hcc := fun n => carry (hF n) hz hc; (repeat (go_big_quiet_step ((first | (go_at_call 40; refine (regions_any _ _ _ _).mono ?_; rintro e w' ⟨rfl, hb⟩; exact ⟨rfl, hG _ ((hF _).trans (hb.mono (hF _).size))⟩) | (go_at_call 87; refine (within_any _ _ _ _ _ _).mono ?_; rintro e w' ⟨rfl, hb⟩; exact ⟨rfl, hG _ ((hF _).trans (hb.mono (hF _).size))⟩))))); refine wpQuiet_nil ?_; intro n; have X := adv hB (hF n) hc hz; generalize F n = w1 at *; clear hF hG hcc hB hc hz; obtain ⟨hB, hc, hz⟩ := X)
    go_ret3
    refine ⟨?_, hB⟩
    rw [hE.out.1, hE.out.2]
    rfl

set_option maxRecDepth 100000 in
set_option maxHeartbeats 400000 in
theorem region_any (a b c s : Int) (w : World) :
    Calls Try.prog 42 #[geo a b c, .int .i64 s] w fun e w' => e = .returned (.tuple #[.int .i64 (rr a b c s), .int .i64 (re a b c s)]) ∧ Below w.heap.size w w' := by
  have hn := wn_bd a b c s
  by_cases he : we a b c s = 0
  · have hw : (we a b c s != 0) = false := by simpa using he
    obtain ⟨hg, s0, s1⟩ := within_ok he
    obtain ⟨h1, h2, h3, h4, h5, h6⟩ := hg
    by_cases hk5 : wk a b c s = 5
    · have w5 : (wk a b c s == 5) = true := by simpa using hk5
      have e1 : re a b c s = 0 := by unfold re; rw [he, hk5]; rfl
      have e2 : rr a b c s = wn a b c s + (a - 1) := by unfold rr; rw [he, hk5]; rfl
      have hE := Lib.hid (And.intro e1 e2)
      clear he hk5 e1 e2
      go_enter Try.func42, Try.ntmps42
      go_wp2_with fail
      all_goals obtain ⟨hB, hc, hz⟩ := start_facts w #[.int .i64 a, .int .i64 b, .int .i64 c] 32
      all_goals generalize World.alloc w (.cells #[.int .i64 a, .int .i64 b, .int .i64 c] 32) = w0 at *
      go_wp2_with (go_at_call 35; refine (what_any _ _ _ _ _).mono ?_; rintro e w1 ⟨rfl, hb⟩; have X := adv hB hb hc hz; clear hB hb hc hz; obtain ⟨hB, hc, hz⟩ := X)
      go_ret2
      refine ⟨?_, hB⟩
      rw [hE.out.1, hE.out.2]
      rfl
    · have w5 : (wk a b c s == 5) = false := by simpa using hk5
      by_cases hk3 : wk a b c s = 3
      · have w3 : (wk a b c s == 3) = true := by simpa using hk3
        have e1 : re a b c s = 0 := by unfold re; rw [he, hk3]; rfl
        have e2 : rr a b c s = wn a b c s := by unfold rr; rw [he, hk3]; rfl
        have hE := Lib.hid (And.intro e1 e2)
        clear he hk5 hk3 e1 e2
        go_enter Try.func42, Try.ntmps42
        go_wp2_with fail
        all_goals obtain ⟨hB, hc, hz⟩ := start_facts w #[.int .i64 a, .int .i64 b, .int .i64 c] 32
        all_goals generalize World.alloc w (.cells #[.int .i64 a, .int .i64 b, .int .i64 c] 32) = w0 at *
        go_wp2_with (go_at_call 35; refine (what_any _ _ _ _ _).mono ?_; rintro e w1 ⟨rfl, hb⟩; have X := adv hB hb hc hz; clear hB hb hc hz; obtain ⟨hB, hc, hz⟩ := X)
        go_ret2
        refine ⟨?_, hB⟩
        rw [hE.out.1, hE.out.2]
        rfl
      · have w3 : (wk a b c s == 3) = false := by simpa using hk3
        by_cases hk4 : wk a b c s = 4
        · have w4 : (wk a b c s == 4) = true := by simpa using hk4
          have e1 : re a b c s = 0 := by unfold re; rw [he, hk4]; rfl
          have e2 : rr a b c s = wn a b c s := by unfold rr; rw [he, hk4]; rfl
          have hE := Lib.hid (And.intro e1 e2)
          clear he hk5 hk3 hk4 e1 e2
          go_enter Try.func42, Try.ntmps42
          go_wp2_with fail
          all_goals obtain ⟨hB, hc, hz⟩ := start_facts w #[.int .i64 a, .int .i64 b, .int .i64 c] 32
          all_goals generalize World.alloc w (.cells #[.int .i64 a, .int .i64 b, .int .i64 c] 32) = w0 at *
          go_wp2_with (go_at_call 35; refine (what_any _ _ _ _ _).mono ?_; rintro e w1 ⟨rfl, hb⟩; have X := adv hB hb hc hz; clear hB hb hc hz; obtain ⟨hB, hc, hz⟩ := X)
          go_ret2
          refine ⟨?_, hB⟩
          rw [hE.out.1, hE.out.2]
          rfl
        · have w4 : (wk a b c s == 4) = false := by simpa using hk4
          have e1 : re a b c s = 1 := by unfold re; rw [he]; simp [hk3, hk4, hk5]
          have e2 : rr a b c s = 0 := by unfold rr; rw [he]; simp [hk3, hk4, hk5]
          have hE := Lib.hid (And.intro e1 e2)
          clear he hk5 hk3 hk4 e1 e2
          go_enter Try.func42, Try.ntmps42
          go_wp2_with fail
          all_goals obtain ⟨hB, hc, hz⟩ := start_facts w #[.int .i64 a, .int .i64 b, .int .i64 c] 32
          all_goals generalize World.alloc w (.cells #[.int .i64 a, .int .i64 b, .int .i64 c] 32) = w0 at *
          go_wp2_with (go_at_call 35; refine (what_any _ _ _ _ _).mono ?_; rintro e w1 ⟨rfl, hb⟩; have X := adv hB hb hc hz; clear hB hb hc hz; obtain ⟨hB, hc, hz⟩ := X)
          go_ret2
          refine ⟨?_, hB⟩
          rw [hE.out.1, hE.out.2]
          rfl
  · have hw : (we a b c s != 0) = true := by simpa using he
    have e1 : re a b c s = we a b c s := by unfold re; rw [if_pos he]
    have e2 : rr a b c s = 0 := by unfold rr; rw [if_pos he]
    have hE := Lib.hid (And.intro e1 e2)
    clear he e1 e2
    go_enter Try.func42, Try.ntmps42
    go_wp2_with fail
    all_goals obtain ⟨hB, hc, hz⟩ := start_facts w #[.int .i64 a, .int .i64 b, .int .i64 c] 32
    all_goals generalize World.alloc w (.cells #[.int .i64 a, .int .i64 b, .int .i64 c] 32) = w0 at *
    go_wp2_with (go_at_call 35; refine (what_any _ _ _ _ _).mono ?_; rintro e w1 ⟨rfl, hb⟩; have X := adv hB hb hc hz; clear hB hb hc hz; obtain ⟨hB, hc, hz⟩ := X)
    go_ret2
    refine ⟨?_, hB⟩
    rw [hE.out.1, hE.out.2]
    rfl
end Cw
