/- The laws of the chapter on fields, walked: FieldPuts, FieldNumbers answer true. -/
import Derived.Test.YtcfdgmkckibieaaFieldW4
import Derived.Test.YtcfdgmkckibieaaTwo
namespace Cw
open Go Go.RowKit Go.IntWalk
open Go.Proofs

set_option maxHeartbeats 1000000 in
theorem fieldNumbers_true (s : ByteArray) (off n : Int) (hs : s.size ≤ 9223372036854775807) (w : World) : Calls Try.prog 5 #[.string s, .int .i64 off, .int .i64 n] w fun e w' => e = .returned (.bool true) ∧ Below w.heap.size w w' := by
  have hB := Below.refl w.heap.size w
  go_enter Try.func5, Try.ntmps5
  go_wp2_with (first | (go_at_call 20; refine (get_any s off n hs _).mono ?_; rintro e w1 ⟨rfl, hb⟩; have X := adv0 hB hb; clear hB hb; have hB := X; clear X) | (go_at_call 21; refine (rget_any s off n hs _).mono ?_; rintro e w1 ⟨rfl, hb⟩; have X := adv0 hB hb; clear hB hb; have hB := X; clear X) | (go_at_call 22; refine (blank_any _).mono ?_; rintro e w1 ⟨rfl, hb⟩; have X := adv0 hB hb; clear hB hb; have hB := X; clear X) | (go_at_call 23; refine (rblank_any _).mono ?_; rintro e w1 ⟨rfl, hb⟩; have X := adv0 hB hb; clear hB hb; have hB := X; clear X) | (go_at_call 24; refine (names_any _).mono ?_; rintro e w1 ⟨rfl, rfl⟩) | (go_at_call 16; refine (works_any _).mono ?_; rintro e w1 ⟨rfl, hb⟩; have X := adv0 hB hb; clear hB hb; have hB := X; clear X))
  go_ret
  exact ⟨rfl, hB⟩

set_option maxHeartbeats 1000000 in
theorem fieldPuts_true (a b n off : Int) (s : ByteArray) (hs : s.size ≤ 9223372036854775807) (w : World) : Calls Try.prog 3 #[.agg #[.int .i64 a, .int .i64 b], .int .i64 n, .agg #[.int .i64 off, .string s]] w fun e w' => e = .returned (.bool true) ∧ Below w.heap.size w w' := by
  go_enter Try.func3, Try.ntmps3
  go_wp2_with (first
    | (go_at_call 12; refine (put_any a b n _).mono ?_; rintro e w1 ⟨rfl, hb⟩; have hx := two_step (two_alloc (two_new w _ _ _) _) hb; have hp := two_step (two_new (w.alloc _) _ _ _) hb; have hB := below_step hb (by simp; omega) (below_alloc (below_alloc (Below.refl _ _) _) _); clear hb; have x0 := fun o => (two_alloc hx o).1; have x1 := fun o => (two_alloc hx o).2.1)
    | (go_at_call 13; refine (rput_any a b n _).mono ?_; rintro e w2 ⟨rfl, hb⟩; have hp' := two_step (two_alloc hp _) hb; have ha := two_step (two_new w1 _ _ _) hb; have hB' := below_step hb (by have := hB.size; simp; omega) (below_alloc hB _); clear hb hx x0 x1 hp hB; have hp := hp'; have hB := hB'; clear hp' hB'))
  have hp' := fun o => two_alloc hp o
  simp only [World.size_alloc] at hp'
  have ha' := fun o => two_alloc ha o
  refine region_held (by kernel_rfl) (by kernel_rfl) (fun τ hN F hF hG => ?_)
  have p0 := fun n => (two_step (hp' _) (hF n)).1
  have p1 := fun n => (two_step (hp' _) (hF n)).2.1
  have a0 := fun n => (two_step (ha' _) (hF n)).1
  have a1 := fun n => (two_step (ha' _) (hF n)).2.1
  have b0 := fun n => (two_step (two_new w2 _ _ _) (hF n)).1
  have b1 := fun n => (two_step (two_new w2 _ _ _) (hF n)).2.1
  have hB' := fun n => below_step (hF n) (by have := hB.size; simp; omega) (below_alloc hB _)
  clear hp' ha' hp ha hB
  (repeat (go_big_quiet_step (first | (go_at_call 14; refine (fcheck_any off s hs _).mono ?_; rintro e w' ⟨rfl, hb⟩; exact ⟨rfl, hG _ ((hF _).trans (hb.mono (hF _).size))⟩) | (go_at_call 15; refine (rfcheck_any off s _).mono ?_; rintro e w' ⟨rfl, hb⟩; exact ⟨rfl, hG _ ((hF _).trans (hb.mono (hF _).size))⟩) | (go_at_call 16; refine (works_any _).mono ?_; rintro e w' ⟨rfl, hb⟩; exact ⟨rfl, hG _ ((hF _).trans (hb.mono (hF _).size))⟩))))
  refine wpQuiet_nil ?_
  intro n
  have hB := hB' n
  generalize F n = w3 at *
  clear hF hG hB' p0 p1 a0 a1 b0 b1
  go_wp2_with fail
  go_ret
  exact ⟨rfl, hB⟩
end Cw
