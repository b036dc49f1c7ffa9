/- The walks of the document's geometry (cutwaterref03): What, Region, Block, Inode, Place. -/
import Derived.Test.YtigaallhjlmhbaaRefGeomW2
namespace Cw
open Go Go.RowKit
open Go.Proofs

theorem things_open {w : World} {cs : Array Value} {E : TypeId} {a b c : Nat} {v : Value} {wr : World} (h : ThR w cs E (things a b c) v wr) :
    ∃ g cap, v = .slice (some ⟨g, 0, none⟩) (size a b c) cap ∧ w.heap.size < g ∧ g < wr.heap.size ∧ size a b c ≤ cap ∧
      ∀ i, i < size a b c → wr.cell? ⟨g, i * 4, none⟩ = some (.int .i64 (thing a b c i).1) ∧ wr.cell? ⟨g, i * 4 + 1, none⟩ = some (.int .i64 (thing a b c i).2.1) ∧
        wr.cell? ⟨g, i * 4 + 2, none⟩ = some (.int .i64 (thing a b c i).2.2.1) ∧ wr.cell? ⟨g, i * 4 + 3, none⟩ = some (.int .i64 (thing a b c i).2.2.2) := by
  obtain ⟨g, cap, e, h1, h2, h3, h4⟩ := h.get (things_pos a b c)
  rw [things_length] at e h3
  exact ⟨g, cap, e, h1, h2, h3, fun i hi => ⟨h4 i _ (things_get a b c i hi) 0 _ rfl, h4 i _ (things_get a b c i hi) 1 _ rfl, h4 i _ (things_get a b c i hi) 2 _ rfl, h4 i _ (things_get a b c i hi) 3 _ rfl⟩⟩

set_option maxRecDepth 100000 in
set_option maxHeartbeats 400000 in
theorem rwhat_any (a b c s : Int) (w : World) :
    Calls Try.prog 88 #[geo a b c, .int .i64 s] w fun e w' => e = .returned (.tuple #[.int .i64 (wk a b c s), .int .i64 (wn a b c s), .int .i64 (we a b c s)]) ∧ Below w.heap.size w w' := by
  by_cases h : Gok a b c
  · have H := Lib.hid h
    have hm := gcheck_yes h
    obtain ⟨h1, h2, h3, h4, h5, h6⟩ := h
    obtain ⟨a, rfl⟩ := Int.eq_ofNat_of_zero_le (show 0 ≤ a by omega)
    obtain ⟨b, rfl⟩ := Int.eq_ofNat_of_zero_le (show 0 ≤ b by omega)
    obtain ⟨c, rfl⟩ := Int.eq_ofNat_of_zero_le (show 0 ≤ c by omega)
    have hsz : size a b c ≤ 403 := by have := size_bd a b c; rw [size_cast H.out] at this; omega
    by_cases hs : 0 ≤ s ∧ s < size a b c
    · obtain ⟨s, rfl⟩ := Int.eq_ofNat_of_zero_le hs.1
      have hs' : s < size a b c := by omega
      obtain ⟨q1, q2, q3, _⟩ := wk_thing H.out hs'
      have hE := Lib.hid (And.intro q1 (And.intro q2 q3))
      clear q1 q2 q3 hs
      go_enter Try.func88, Try.ntmps88
      go_wp2_with fail
      all_goals obtain ⟨hB, hc, hz⟩ := start_facts w #[.int .i64 a, .int .i64 b, .int .i64 c] 34
      all_goals generalize World.alloc w (.cells #[.int .i64 a, .int .i64 b, .int .i64 c] 34) = w0 at *
      go_wp2_with (first | (go_at_call 54; refine (rcheck_any _ _ _ _).mono ?_; rintro e w1 ⟨rfl, hb⟩; have X := adv hB hb hc hz; clear hB hb hc hz; obtain ⟨hB, hc, hz⟩ := X) | (go_at_call 97; refine (all_any a b c H.out _).mono ?_; rintro e w2 ⟨v, rfl, hR⟩; obtain ⟨g, cap, rfl, g1, g2, g3, gc⟩ := things_open hR; have GC := Lib.hid gc; have X := adv hB hR.1 hc hz; clear hR hB hc hz gc; obtain ⟨hB, hc, hz⟩ := X))
      obtain ⟨c0, c1, _, _⟩ := GC.out s hs'
      go_quiet (fail)
      go_wp2
      go_ret3
      refine ⟨?_, below_drewN hB _⟩
      rw [hE.out.1, hE.out.2.1, hE.out.2.2]
      rfl
    · have he : we a b c s = 1 := by unfold we gwithin; rw [if_neg (not_not_intro H.out), size_cast H.out, if_pos (by omega)]
      have e2 := w_none (a := a) (b := b) (c := c) (s := s) (by rw [he]; omega)
      have hE := Lib.hid (And.intro he e2)
      clear he e2
      by_cases s0 : s < 0
      all_goals
        have s0' := s0
        go_enter Try.func88, Try.ntmps88
        go_wp2_with fail
        all_goals obtain ⟨hB, hc, hz⟩ := start_facts w #[.int .i64 a, .int .i64 b, .int .i64 c] 34
        all_goals generalize World.alloc w (.cells #[.int .i64 a, .int .i64 b, .int .i64 c] 34) = w0 at *
        go_wp2_with (first | (go_at_call 54; refine (rcheck_any _ _ _ _).mono ?_; rintro e w1 ⟨rfl, hb⟩; have X := adv hB hb hc hz; clear hB hb hc hz; obtain ⟨hB, hc, hz⟩ := X) | (go_at_call 97; refine (all_any a b c H.out _).mono ?_; rintro e w2 ⟨v, rfl, hR⟩; obtain ⟨g, cap, rfl, g1, g2, g3, gc⟩ := things_open hR; have GC := Lib.hid gc; have X := adv hB hR.1 hc hz; clear hR hB hc hz gc; obtain ⟨hB, hc, hz⟩ := X))
        go_ret3
        refine ⟨?_, hB⟩
        rw [hE.out.1, hE.out.2.1, hE.out.2.2]
        rfl
  · have hm := gcheck_no h
    have he : we a b c s = 4 := by unfold we gwithin; rw [if_pos h]
    have e2 := w_none (a := a) (b := b) (c := c) (s := s) (by rw [he]; omega)
    have hE := Lib.hid (And.intro he e2)
    clear he e2 h
    go_enter Try.func88, Try.ntmps88
    go_wp2_with fail
    all_goals obtain ⟨hB, hc, hz⟩ := start_facts w #[.int .i64 a, .int .i64 b, .int .i64 c] 34
    all_goals generalize World.alloc w (.cells #[.int .i64 a, .int .i64 b, .int .i64 c] 34) = w0 at *
    go_wp2_with (go_at_call 54; refine (rcheck_any _ _ _ _).mono ?_; rintro e w1 ⟨rfl, hb⟩; have X := adv hB hb hc hz; clear hB hb hc hz; obtain ⟨hB, hc, hz⟩ := X)
    go_ret3
    refine ⟨?_, hB⟩
    rw [hE.out.1, hE.out.2.1, hE.out.2.2]
    rfl

theorem be_ok {a b c : Int} (h : Gok a b c) (k p : Int) : (be a b c k p = 0 ∧ (0 ≤ k ∧ k < a) ∧ 0 ≤ p ∧ p < c ∧ bs a b c k p = gfirst a b c k + 2 + b + p) ∨ (be a b c k p = 1 ∧ ¬ ((0 ≤ k ∧ k < a) ∧ 0 ≤ p ∧ p < c) ∧ bs a b c k p = 0) := by
  unfold bs be gwithin
  simp only [if_neg (not_not_intro h)]
  by_cases h1 : k < 0 ∨ a ≤ k
  · rw [if_pos h1]
    exact .inr ⟨rfl, by omega, rfl⟩
  · rw [if_neg h1]
    by_cases h2 : p < 0 ∨ c ≤ p
    · rw [if_pos h2]
      exact .inr ⟨rfl, by omega, rfl⟩
    · rw [if_neg h2]
      exact .inl ⟨rfl, by omega, by omega, by omega, rfl⟩

theorem find_bs {a b c : Nat} (h : Gok a b c) (k p : Int) : findAt (isBlock k p) (things a b c) = if be a b c k p = 0 then bs a b c k p else -1 := by
  rw [find_block]
  rcases be_ok h k p with ⟨e, h1, h2, h3, e2⟩ | ⟨e, h1, e2⟩
  · rw [if_pos ⟨h1, h2, h3⟩, if_pos e, e2]
  · rw [if_neg h1, if_neg (by rw [e]; omega)]

end Cw
