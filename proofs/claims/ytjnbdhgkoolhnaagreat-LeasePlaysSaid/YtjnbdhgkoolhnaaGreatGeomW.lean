/- The walks of the program's package geom: what each function computes. -/
import Derived.Test.YtjnbdhgkoolhnaaGreatProg
import Derived.Test.YtjnbdhgkoolhnaaGreatBase
import Derived.Test.YtjnbdhgkoolhnaaGreatGeoSpec
namespace Cw
open Go Go.RowKit
open Go.Proofs
abbrev geo (a b c : Int) : Value := .agg #[.int .i64 a, .int .i64 b, .int .i64 c]

set_option maxRecDepth 100000 in
set_option maxHeartbeats 400000 in
theorem check_any (a b c : Int) (w : World) :
    Calls Tryz.prog 53 #[geo a b c] w fun e w' => e = .returned (.int .i64 (gcheck a b c)) ∧ Below w.heap.size w w' := by
  go_enter Tryz.func53, Tryz.ntmps53
  go_wp2
  all_goals (go_ret; refine ⟨ret_int ?_, by go_grown⟩; first | rw [gcheck, if_pos (by unfold Gok; omega)] | rw [gcheck, if_neg (by unfold Gok; omega)])

set_option maxRecDepth 100000 in
set_option maxHeartbeats 400000 in
theorem may_any (a b c : Int) (w : World) :
    Calls Tryz.prog 66 #[geo a b c] w fun e w' => e = .returned (.bool (gmay a b c)) ∧ Below w.heap.size w w' := by
  go_enter Tryz.func66, Tryz.ntmps66
  go_wp2_with fail
  all_goals obtain ⟨hB, hc, hz⟩ := start_facts w #[.int .i64 a, .int .i64 b, .int .i64 c] 23
  all_goals generalize World.alloc w (.cells #[.int .i64 a, .int .i64 b, .int .i64 c] 23) = w0 at *
  go_wp2_with (go_at_call 53; refine (check_any _ _ _ _).mono ?_; rintro e w1 ⟨rfl, hb⟩; have X := adv hB hb hc hz; clear hB hb hc hz; obtain ⟨hB, hc, hz⟩ := X)
  go_ret
  refine ⟨ret_bool ?_, hB⟩
  simp only [gmay, gcheck]
  split <;> simp_all

set_option maxRecDepth 100000 in
set_option maxHeartbeats 400000 in
theorem inodes_any (a b c : Int) (w : World) :
    Calls Tryz.prog 98 #[geo a b c] w fun e w' => e = .returned (.int .i64 (ginodes a b c)) ∧ Below w.heap.size w w' := by
  by_cases h : Gok a b c
  · have H := Lib.hid h
    have p := ab_bd h
    obtain ⟨h1, h2, h3, h4, h5, h6⟩ := h
    have hm : gmay a b c = true := by simp [gmay, H.out]
    go_enter Tryz.func98, Tryz.ntmps98
    go_wp2_with fail
    all_goals obtain ⟨hB, hc, hz⟩ := start_facts w #[.int .i64 a, .int .i64 b, .int .i64 c] 23
    all_goals generalize World.alloc w (.cells #[.int .i64 a, .int .i64 b, .int .i64 c] 23) = w0 at *
    go_wp2_with (go_at_call 66; refine (may_any _ _ _ _).mono ?_; rintro e w1 ⟨rfl, hb⟩; have X := adv hB hb hc hz; clear hB hb hc hz; obtain ⟨hB, hc, hz⟩ := X)
    go_ret
    exact ⟨ret_int (by rw [ginodes, if_pos H.out]), hB⟩
  · have H := Lib.hid h
    have hm : gmay a b c = false := by simp [gmay, h]
    clear h
    go_enter Tryz.func98, Tryz.ntmps98
    go_wp2_with fail
    all_goals obtain ⟨hB, hc, hz⟩ := start_facts w #[.int .i64 a, .int .i64 b, .int .i64 c] 23
    all_goals generalize World.alloc w (.cells #[.int .i64 a, .int .i64 b, .int .i64 c] 23) = w0 at *
    go_wp2_with (go_at_call 66; refine (may_any _ _ _ _).mono ?_; rintro e w1 ⟨rfl, hb⟩; have X := adv hB hb hc hz; clear hB hb hc hz; obtain ⟨hB, hc, hz⟩ := X)
    go_ret
    exact ⟨ret_int (by rw [ginodes, if_neg H.out]), hB⟩

set_option maxRecDepth 100000 in
set_option maxHeartbeats 400000 in
theorem regions_any (a b c : Int) (w : World) :
    Calls Tryz.prog 55 #[geo a b c] w fun e w' => e = .returned (.int .i64 (gregions a b c)) ∧ Below w.heap.size w w' := by
  by_cases h : Gok a b c
  · have H := Lib.hid h
    have p := ab_bd h
    have hi : ginodes a b c = a * b := by rw [ginodes, if_pos h]
    obtain ⟨h1, h2, h3, h4, h5, h6⟩ := h
    have hm : gmay a b c = true := by simp [gmay, H.out]
    go_enter Tryz.func55, Tryz.ntmps55
    go_wp2_with fail
    all_goals obtain ⟨hB, hc, hz⟩ := start_facts w #[.int .i64 a, .int .i64 b, .int .i64 c] 23
    all_goals generalize World.alloc w (.cells #[.int .i64 a, .int .i64 b, .int .i64 c] 23) = w0 at *
    go_wp2_with (first | (go_at_call 66; refine (may_any _ _ _ _).mono ?_; rintro e w1 ⟨rfl, hb⟩; have X := adv hB hb hc hz; clear hB hb hc hz; obtain ⟨hB, hc, hz⟩ := X) | (refine region_held (by kernel_rfl) (by kernel_rfl) (fun τ hN F hF hG => ?_); have hcc := fun n => carry (hF n) hz hc; (repeat (go_big_quiet_step ((go_at_call 98; refine (inodes_any _ _ _ _).mono ?_; rintro e w' ⟨rfl, hb⟩; exact ⟨rfl, hG _ ((hF _).trans (hb.mono (hF _).size))⟩)))); refine wpQuiet_nil ?_; intro n; have X := adv hB (hF n) hc hz; generalize F n = w1 at *; clear hF hG hcc hB hc hz; obtain ⟨hB, hc, hz⟩ := X))
    go_ret
    exact ⟨ret_int (by rw [gregions, if_pos H.out]), hB⟩
  · have H := Lib.hid h
    have hm : gmay a b c = false := by simp [gmay, h]
    clear h
    go_enter Tryz.func55, Tryz.ntmps55
    go_wp2_with fail
    all_goals obtain ⟨hB, hc, hz⟩ := start_facts w #[.int .i64 a, .int .i64 b, .int .i64 c] 23
    all_goals generalize World.alloc w (.cells #[.int .i64 a, .int .i64 b, .int .i64 c] 23) = w0 at *
    go_wp2_with (go_at_call 66; refine (may_any _ _ _ _).mono ?_; rintro e w1 ⟨rfl, hb⟩; have X := adv hB hb hc hz; clear hB hb hc hz; obtain ⟨hB, hc, hz⟩ := X)
    go_ret
    exact ⟨ret_int (by rw [gregions, if_neg H.out]), hB⟩

set_option maxRecDepth 100000 in
set_option maxHeartbeats 400000 in
theorem within_any (a b c n m : Int) (w : World) :
    Calls Tryz.prog 97 #[geo a b c, .int .i64 n, .int .i64 m] w fun e w' => e = .returned (.int .i64 (gwithin a b c n m)) ∧ Below w.heap.size w w' := by
  by_cases h : Gok a b c
  · have H := Lib.hid h
    have hm : gmay a b c = true := by simp [gmay, H.out]
    clear h
    go_enter Tryz.func97, Tryz.ntmps97
    go_wp2_with fail
    all_goals obtain ⟨hB, hc, hz⟩ := start_facts w #[.int .i64 a, .int .i64 b, .int .i64 c] 23
    all_goals generalize World.alloc w (.cells #[.int .i64 a, .int .i64 b, .int .i64 c] 23) = w0 at *
    go_wp2_with (go_at_call 66; refine (may_any _ _ _ _).mono ?_; rintro e w1 ⟨rfl, hb⟩; have X := adv hB hb hc hz; clear hB hb hc hz; obtain ⟨hB, hc, hz⟩ := X)
    all_goals (go_ret; refine ⟨ret_int ?_, hB⟩; unfold gwithin; rw [if_neg (not_not_intro H.out)]; first | rw [if_pos (by omega)] | rw [if_neg (by omega)])
  · have H := Lib.hid h
    have hm : gmay a b c = false := by simp [gmay, h]
    clear h
    go_enter Tryz.func97, Tryz.ntmps97
    go_wp2_with fail
    all_goals obtain ⟨hB, hc, hz⟩ := start_facts w #[.int .i64 a, .int .i64 b, .int .i64 c] 23
    all_goals generalize World.alloc w (.cells #[.int .i64 a, .int .i64 b, .int .i64 c] 23) = w0 at *
    go_wp2_with (go_at_call 66; refine (may_any _ _ _ _).mono ?_; rintro e w1 ⟨rfl, hb⟩; have X := adv hB hb hc hz; clear hB hb hc hz; obtain ⟨hB, hc, hz⟩ := X)
    go_ret
    exact ⟨ret_int (by rw [gwithin, if_pos H.out]), hB⟩

end Cw
namespace Cw
open Go Go.RowKit
open Go.Proofs

set_option maxRecDepth 100000 in
set_option maxHeartbeats 400000 in
theorem table_any (a b c r : Int) (w : World) :
    Calls Tryz.prog 54 #[geo a b c, .int .i64 r] w fun e w' => e = .returned (.tuple #[.int .i64 (ts a b c r), .int .i64 (toff a b c r), .int .i64 (te a b c r)]) ∧ Below w.heap.size w w' := by
  have hrb := regions_bd a b c
  by_cases he : te a b c r = 0
  · have hw : (gwithin a b c r (gregions a b c) != 0) = false := by simpa [te] using he
    obtain ⟨hg, s0, s1⟩ := within_ok he
    have e2 : ts a b c r = 2 + r / 16 := by unfold ts; rw [he]; rfl
    have e3 : toff a b c r = r % 16 * 4 := by unfold toff; rw [he]; rfl
    have hE := Lib.hid (And.intro he (And.intro e2 e3))
    clear he e2 e3 hg
    go_enter Tryz.func54, Tryz.ntmps54
    go_wp2_with fail
    all_goals obtain ⟨hB, hc, hz⟩ := start_facts w #[.int .i64 a, .int .i64 b, .int .i64 c] 23
    all_goals generalize World.alloc w (.cells #[.int .i64 a, .int .i64 b, .int .i64 c] 23) = w0 at *
    go_wp2_with (refine region_held (by kernel_rfl) (by kernel_rfl) (fun τ hN F hF hG => ?_); have hcc := fun n => carry (hF n) hz hc; (repeat (go_big_quiet_step ((first | (go_at_call 55; refine (regions_any _ _ _ _).mono ?_; rintro e w' ⟨rfl, hb⟩; exact ⟨rfl, hG _ ((hF _).trans (hb.mono (hF _).size))⟩) | (go_at_call 97; refine (within_any _ _ _ _ _ _).mono ?_; rintro e w' ⟨rfl, hb⟩; exact ⟨rfl, hG _ ((hF _).trans (hb.mono (hF _).size))⟩))))); refine wpQuiet_nil ?_; intro n; have X := adv hB (hF n) hc hz; generalize F n = w1 at *; clear hF hG hcc hB hc hz; obtain ⟨hB, hc, hz⟩ := X)
    go_ret3
    refine ⟨?_, hB⟩
    rw [hE.out.1, hE.out.2.1, hE.out.2.2]
    rfl
  · have hw : (gwithin a b c r (gregions a b c) != 0) = true := by simpa [te] using he
    have e2 : ts a b c r = 0 := by unfold ts; rw [if_pos he]
    have e3 : toff a b c r = 0 := by unfold toff; rw [if_pos he]
    have hE := Lib.hid (And.intro e2 e3)
    clear he e2 e3
    go_enter Tryz.func54, Tryz.ntmps54
    go_wp2_with fail
    all_goals obtain ⟨hB, hc, hz⟩ := start_facts w #[.int .i64 a, .int .i64 b, .int .i64 c] 23
    all_goals generalize World.alloc w (.cells #[.int .i64 a, .int .i64 b, .int .i64 c] 23) = w0 at *
    go_wp2_with (refine region_held (by kernel_rfl) (by kernel_rfl) (fun τ hN F hF hG => ?_); have hcc := fun n => carry (hF n) hz hc; (repeat (go_big_quiet_step ((first | (go_at_call 55; refine (regions_any _ _ _ _).mono ?_; rintro e w' ⟨rfl, hb⟩; exact ⟨rfl, hG _ ((hF _).trans (hb.mono (hF _).size))⟩) | (go_at_call 97; refine (within_any _ _ _ _ _ _).mono ?_; rintro e w' ⟨rfl, hb⟩; exact ⟨rfl, hG _ ((hF _).trans (hb.mono (hF _).size))⟩))))); refine wpQuiet_nil ?_; intro n; have X := adv hB (hF n) hc hz; generalize F n = w1 at *; clear hF hG hcc hB hc hz; obtain ⟨hB, hc, hz⟩ := X)
    go_ret3
    refine ⟨?_, hB⟩
    rw [hE.out.1, hE.out.2]
    rfl

end Cw
namespace Cw
open Go Go.RowKit
open Go.Proofs

end Cw
