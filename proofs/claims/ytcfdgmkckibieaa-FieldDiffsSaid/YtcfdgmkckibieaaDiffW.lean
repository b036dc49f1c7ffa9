/- FieldDiffs answers true. -/
import Derived.Test.YtcfdgmkckibieaaDiffLaw
namespace Cw
open Go Go.RowKit Go.IntWalk
open Go.Proofs

theorem chain_at (l : List Pt) : ∀ (e : Int), chain e l → ∀ k (h : k < l.length), lastEnd e (l.take k) < l[k].1 ∧ okp l[k] = true ∧ lastEnd e (l.take (k + 1)) = l[k].1 + l[k].2.size := by
  induction l with
  | nil => intro e _ k h; simp at h
  | cons q l ih =>
    intro e hc k h
    obtain ⟨c1, c2, c3⟩ := hc
    cases k with
    | zero => exact ⟨by simpa [lastEnd] using c1, c2, by simp [lastEnd]⟩
    | succ k =>
      have := ih _ c3 k (by simpa using h)
      simpa [lastEnd] using this

theorem btw_len (x y : ByteArray) : (btw x y).length ≤ 65 := by
  rw [btw]
  split
  · exact st_len x y 65
  · simp
theorem last_bound (l : List Pt) (hc : chain (-1) l) (k : Nat) (h : k ≤ l.length) : -1 ≤ lastEnd (-1) (l.take k) ∧ lastEnd (-1) (l.take k) ≤ 64 := by
  cases k with
  | zero => simp [lastEnd]
  | succ k =>
    have := chain_at l (-1) hc k (by omega)
    have h2 := okp_iff this.2.1
    omega

set_option maxHeartbeats 1000000 in
theorem fieldDiffs_true (x y : ByteArray) (hx : x.size ≤ 9223372036854775807) (hy : y.size ≤ 9223372036854775807) (w : World) : Calls Try.prog 10 #[.string x, .string y] w fun e w' => e = .returned (.bool true) ∧ Below w.heap.size w w' := by
  have hB := Below.refl w.heap.size w
  have zx := fit_size x
  have zy := fit_size y
  obtain ⟨d1, hc⟩ := btw_done (fit x) (fit y) zx zy
  have hn := btw_len (fit x) (fit y)
  have e1 := pt_ok (fit x) (btw (fit x) (fit y)) zx (by omega) (chain_all _ _ hc)
  rw [d1, S_self] at e1
  have hBt := between_any (fit x) (fit y) (by omega) (by omega)
  have hat := chain_at _ _ hc
  have hbd := last_bound _ hc
  rw [show btwe (fit x) (fit y) = 0 by rw [btwe, if_pos ⟨zx, zy⟩]] at hBt
  have hz : ∀ p ∈ btw (fit x) (fit y), p.2.size ≤ 9223372036854775807 := fun p hp => by
    have := okp_iff (List.all_eq_true.1 (chain_all _ _ hc) p hp)
    omega
  have F1 := Lib.hid (fit_any x hx)
  have F2 := Lib.hid (fit_any y hy)
  have hP := fun v w h => patched_any (fit x) v (btw (fit x) (fit y)) hz (by omega) w h
  rw [e1.1, e1.2] at hP
  have HP := Lib.hid hP
  have HB := Lib.hid hBt
  generalize btw (fit x) (fit y) = l at *
  generalize fit x = s at *
  generalize fit y = t at *
  have HA := Lib.hid (And.intro hat hbd)
  have HZ := Lib.hid hz
  clear e1 hBt d1 hat hbd hz hP hc zx zy
  go_enter Try.func10, Try.ntmps10
  go_wp2_with (go_at_call 16; refine (works_any _).mono ?_; rintro e w1 ⟨rfl, hb⟩; have X := adv0 hB hb; clear hB hb; have hB := X; clear X)
  refine (F1.out _).mono ?_
  rintro e w1 ⟨rfl, hb⟩
  have hB := adv0 hB hb
  clear hb
  go_wp2_with fail
  refine (F2.out _).mono ?_
  rintro e w2 ⟨rfl, hb⟩
  have hB := adv0 hB hb
  clear hb
  go_wp2_with fail
  refine (HB.out _).mono ?_
  rintro e w3 ⟨v, rfl, hb, hS⟩
  have hB := adv0 hB hb
  clear hb
  go_wp2_with fail
  refine (HP.out v _ hS).mono ?_
  rintro e w4 ⟨rfl, hb⟩
  have hB := adv0 hB hb
  have hS := hS.step hb
  clear hb
  obtain ⟨a, c, rfl, hlc, hcm, hab, hcell⟩ := hS
  have HC := Lib.hid (And.intro hab hcell)
  clear hab hcell
  go_wp2_with fail
  go_loopw [9, 43] (fun en i wr => ∃ k : Nat, k ≤ l.length ∧ i = .int .i64 k ∧ en = .int .i64 (lastEnd (-1) (l.take k)) ∧ Below w4.heap.size w4 wr) (fun _ i _ => l.length - (intOf i).toNat)
  case atStart => exact ⟨0, by omega, rfl, rfl, Below.refl _ _⟩
  case round =>
    obtain ⟨k, hk, rfl, rfl, hBr⟩ := hrel
    by_cases hlt : k < l.length
    · obtain ⟨b, rfl, d0, d1⟩ := HC.out.2 k hlt
      have hbk := HC.out.1 b rfl (by omega)
      have d0 := (hBr.cell (p := b.add (k * 2)) (by rw [add_block]; exact hbk)).trans d0
      have d1 := (hBr.cell (p := b.add (k * 2 + 1)) (by rw [add_block]; exact hbk)).trans d1
      rw [add_succ] at d1
      obtain ⟨g1, g2, g3⟩ := HA.out.1 k hlt
      obtain ⟨g4, g5⟩ := HA.out.2 k hk
      have hp1 := HZ.out l[k] (List.getElem_mem hlt)
      have hok := okp_iff g2
      have hx : fcheck l[k].1 l[k].2.size = 0 := by rw [fcheck]; exact if_pos g2
      have G3 := Lib.hid g3
      clear g3 g2
      generalize l[k] = q at *
      obtain ⟨o, u⟩ := q
      simp only at *
      generalize lastEnd (-1) (l.take k) = en at *
      have hle : decide (o ≤ en) = false := by simp; omega
      go_wp2_with (go_at_call 14; refine (fcheck_any _ _ hp1 _).mono ?_; rintro e w5 ⟨rfl, hb⟩; have hT := two_step (two_new wr _ _ _) hb; have t0 := hT.1; have t1 := hT.2.1; have hB1 := below_step hb (by have := hBr.size; simp; omega) (below_alloc hBr _))
      go_roundw
      case rel => exact ⟨k + 1, by omega, by go_num, by rw [G3.out], hB1⟩
      case measure => simp [intOf]; omega
    · have hk' : k = l.length := by omega
      go_wp2_with fail
      go_ret
      exact ⟨rfl, below_step hBr hB.size hB⟩
end Cw
