/- The walks of the program's package geom, behind What: Map, Inode, Block, Place, Table, Region. -/
import Derived.Test.YtigaallhjlmhbaaGeomW
namespace Cw
open Go Go.RowKit
open Go.Proofs

set_option maxRecDepth 100000 in
set_option maxHeartbeats 400000 in
theorem table_any (a b c r : Int) (w : World) :
    Calls Try.prog 58 #[geo a b c, .int .i64 r] w fun e w' => e = .returned (.tuple #[.int .i64 (ts a b c r), .int .i64 (toff a b c r), .int .i64 (te a b c r)]) ∧ Below w.heap.size w w' := by
  have hrb := regions_bd a b c
  by_cases he : te a b c r = 0
  · have hw : (gwithin a b c r (gregions a b c) != 0) = false := by simpa [te] using he
    obtain ⟨hg, s0, s1⟩ := within_ok he
    have e2 : ts a b c r = 2 + r / 16 := by unfold ts; rw [he]; rfl
    have e3 : toff a b c r = r % 16 * 4 := by unfold toff; rw [he]; rfl
    have hE := Lib.hid (And.intro he (And.intro e2 e3))
    clear he e2 e3 hg
    go_enter Try.func58, Try.ntmps58
    go_wp2_with fail
    all_goals obtain ⟨hB, hc, hz⟩ := start_facts w #[.int .i64 a, .int .i64 b, .int .i64 c] 34
    all_goals generalize World.alloc w (.cells #[.int .i64 a, .int .i64 b, .int .i64 c] 34) = w0 at *
    go_wp2_with (refine region_held (by kernel_rfl) (by kernel_rfl) (fun τ hN F hF hG => ?_); have hcc := fun n => carry (hF n) hz hc; (repeat (go_big_quiet_step ((first | (go_at_call 38; refine (regions_any _ _ _ _).mono ?_; rintro e w' ⟨rfl, hb⟩; exact ⟨rfl, hG _ ((hF _).trans (hb.mono (hF _).size))⟩) | (go_at_call 80; refine (within_any _ _ _ _ _ _).mono ?_; rintro e w' ⟨rfl, hb⟩; exact ⟨rfl, hG _ ((hF _).trans (hb.mono (hF _).size))⟩))))); refine wpQuiet_nil ?_; intro n; have X := adv hB (hF n) hc hz; generalize F n = w1 at *; clear hF hG hcc hB hc hz; obtain ⟨hB, hc, hz⟩ := X)
    go_ret3
    refine ⟨?_, hB⟩
    rw [hE.out.1, hE.out.2.1, hE.out.2.2]
    rfl
  · have hw : (gwithin a b c r (gregions a b c) != 0) = true := by simpa [te] using he
    have e2 : ts a b c r = 0 := by unfold ts; rw [if_pos he]
    have e3 : toff a b c r = 0 := by unfold toff; rw [if_pos he]
    have hE := Lib.hid (And.intro e2 e3)
    clear he e2 e3
    go_enter Try.func58, Try.ntmps58
    go_wp2_with fail
    all_goals obtain ⟨hB, hc, hz⟩ := start_facts w #[.int .i64 a, .int .i64 b, .int .i64 c] 34
    all_goals generalize World.alloc w (.cells #[.int .i64 a, .int .i64 b, .int .i64 c] 34) = w0 at *
    go_wp2_with (refine region_held (by kernel_rfl) (by kernel_rfl) (fun τ hN F hF hG => ?_); have hcc := fun n => carry (hF n) hz hc; (repeat (go_big_quiet_step ((first | (go_at_call 38; refine (regions_any _ _ _ _).mono ?_; rintro e w' ⟨rfl, hb⟩; exact ⟨rfl, hG _ ((hF _).trans (hb.mono (hF _).size))⟩) | (go_at_call 80; refine (within_any _ _ _ _ _ _).mono ?_; rintro e w' ⟨rfl, hb⟩; exact ⟨rfl, hG _ ((hF _).trans (hb.mono (hF _).size))⟩))))); refine wpQuiet_nil ?_; intro n; have X := adv hB (hF n) hc hz; generalize F n = w1 at *; clear hF hG hcc hB hc hz; obtain ⟨hB, hc, hz⟩ := X)
    go_ret3
    refine ⟨?_, hB⟩
    rw [hE.out.1, hE.out.2]
    rfl

end Cw
