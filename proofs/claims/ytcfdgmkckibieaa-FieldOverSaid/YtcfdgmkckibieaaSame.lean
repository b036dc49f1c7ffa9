/- SamePatches of the same lists; FieldBetween answers true. -/
import Derived.Test.YtcfdgmkckibieaaBetween2
namespace Cw
open Go Go.RowKit Go.IntWalk
open Go.Proofs

set_option maxHeartbeats 1000000 in
theorem same_any (a b : Value) (l : List Pt) (hl : l.length ≤ 9223372036854775806) (w : World) (ha : Sl w a l) (hb : Sl w b l) : Calls Try.prog 19 #[a, b] w fun e w' => e = .returned (.bool true) ∧ Below w.heap.size w w' := by
  obtain ⟨p, c, rfl, hlc, hcm, hab, hcell⟩ := ha
  obtain ⟨q, d, rfl, hld, hdm, hqb, hdell⟩ := hb
  go_enter Try.func19, Try.ntmps19
  go_wp2_with fail
  go_loopw [5] (fun i wr => ∃ k : Nat, k ≤ l.length ∧ i = .int .i64 k ∧ Below w.heap.size w wr) (fun i _ => l.length - (intOf i).toNat)
  case atStart => exact ⟨0, by omega, rfl, Below.refl _ _⟩
  case round =>
    obtain ⟨k, hk, rfl, hB⟩ := hrel
    by_cases hlt : k < l.length
    · obtain ⟨g, rfl, d0, d1⟩ := hcell k hlt
      obtain ⟨h, rfl, f0, f1⟩ := hdell k hlt
      have hbk := hab g rfl (by omega)
      have hqk := hqb h rfl (by omega)
      have d0 := (hB.cell (p := g.add (k * 2)) (by rw [add_block]; exact hbk)).trans d0
      have d1 := (hB.cell (p := g.add (k * 2 + 1)) (by rw [add_block]; exact hbk)).trans d1
      have f0 := (hB.cell (p := h.add (k * 2)) (by rw [add_block]; exact hqk)).trans f0
      have f1 := (hB.cell (p := h.add (k * 2 + 1)) (by rw [add_block]; exact hqk)).trans f1
      rw [add_succ] at d1 f1
      generalize l[k] = r at *
      obtain ⟨o, t⟩ := r
      simp only at *
      have hk' : (k : Int) < l.length := by omega
      go_wp2_with fail
      go_quiet (fail)
      have hB1 := below_drewN hB nq
      generalize wr.drewN nq = w1 at *
      clear hB d0 d1 f0 f1
      go_wp2_with fail
      go_roundw
      case rel => exact ⟨k + 1, by omega, by go_num, hB1⟩
      case measure => simp [intOf]; omega
    · go_wp2_with fail
      go_ret
      exact ⟨rfl, hB⟩

set_option maxHeartbeats 1000000 in
theorem fieldBetween_true (x y : ByteArray) (hx : x.size ≤ 9223372036854775807) (hy : y.size ≤ 9223372036854775807) (w : World) : Calls Try.prog 4 #[.string x, .string y] w fun e w' => e = .returned (.bool true) ∧ Below w.heap.size w w' := by
  have hl : (btw x y).length ≤ 65 := by
    rw [btw]
    split
    · exact st_len x y 65
    · simp
  go_enter Try.func4, Try.ntmps4
  go_wp2_with (first | (go_at_call 17; refine (between_any x y hx hy _).mono ?_; rintro e w1 ⟨v1, rfl, hB, hS⟩) | (go_at_call 18; refine (rbetween_any x y hx hy _).mono ?_; rintro e w2 ⟨v2, rfl, hB2, hS2⟩; have hS1 := hS.step hB2; have hB1 := below_step hB2 hB.size hB; clear hS hB) | (go_at_call 19; refine (same_any _ _ _ (by omega) _ hS1 hS2).mono ?_; rintro e w3 ⟨rfl, hB3⟩; have hB4 := below_step hB3 hB1.size hB1) | (go_at_call 16; refine (works_any _).mono ?_; rintro e w5 ⟨rfl, hB5⟩; have hB6 := below_step hB5 hB4.size hB4))
  go_ret
  exact ⟨rfl, hB6⟩
end Cw
