/- The example of the chapter on geometry, walked. -/
import Derived.Test.YtgigbkgdbhikmaaGeomW2
namespace Cw
open Go Go.RowKit
open Go.Proofs

set_option maxRecDepth 100000 in
set_option maxHeartbeats 400000 in
theorem works03 (w : World) : Calls Try.prog 32 #[] w fun e w' => e = .returned (.bool true) ∧ Below w.heap.size w w' := by
  have e1 : is 1 2 3 2 = 6 := by decide
  have e2 : ie 1 2 3 2 = 0 := by decide
  have e3 : bs 1 2 3 0 2 = 9 := by decide
  have e4 : be 1 2 3 0 2 = 0 := by decide
  have e5 : gsize 1 2 3 = 10 := by decide
  go_enter Try.func32, Try.ntmps32
  go_wp2_with fail
  all_goals obtain ⟨hB, hc, hz⟩ := start_facts w #[.int .i64 1, .int .i64 2, .int .i64 3] 32
  all_goals generalize World.alloc w (.cells #[.int .i64 1, .int .i64 2, .int .i64 3] 32) = w0 at *
  go_wp2_with (first | (go_at_call 38; refine (inode_any _ _ _ _ _).mono ?_; rintro e w1 ⟨rfl, hb⟩; have X := adv hB hb hc hz; clear hB hb hc hz; obtain ⟨hB, hc, hz⟩ := X) | (go_at_call 36; refine (block_any _ _ _ _ _ _).mono ?_; rintro e w1 ⟨rfl, hb⟩; have X := adv hB hb hc hz; clear hB hb hc hz; obtain ⟨hB, hc, hz⟩ := X) | (go_at_call 34; refine (size_any _ _ _ _).mono ?_; rintro e w1 ⟨rfl, hb⟩; have X := adv hB hb hc hz; clear hB hb hc hz; obtain ⟨hB, hc, hz⟩ := X))
  go_ret
  exact ⟨rfl, hB⟩

end Cw
