/- The walks of the document's geometry (cutwaterref03): What, Region, Block, Inode, Place. -/
import Derived.Test.YtiehkegemoncmaaRefGeomW2
namespace Cw
open Go Go.RowKit
open Go.Proofs

theorem things_open {w : World} {cs : Array Value} {E : TypeId} {a b c : Nat} {v : Value} {wr : World} (h : ThR w cs E (things a b c) v wr) :
    ∃ g cap, v = .slice (some ⟨g, 0, none⟩) (size a b c) cap ∧ w.heap.size < g ∧ g < wr.heap.size ∧ size a b c ≤ cap ∧
      ∀ i, i < size a b c → wr.cell? ⟨g, i * 4, none⟩ = some (.int .i64 (thing a b c i).1) ∧ wr.cell? ⟨g, i * 4 + 1, none⟩ = some (.int .i64 (thing a b c i).2.1) ∧
        wr.cell? ⟨g, i * 4 + 2, none⟩ = some (.int .i64 (thing a b c i).2.2.1) ∧ wr.cell? ⟨g, i * 4 + 3, none⟩ = some (.int .i64 (thing a b c i).2.2.2) := by
  obtain ⟨g, cap, e, h1, h2, h3, h4⟩ := h.get (things_pos a b c)
  rw [things_length] at e h3
  exact ⟨g, cap, e, h1, h2, h3, fun i hi => ⟨h4 i _ (things_get a b c i hi) 0 _ rfl, h4 i _ (things_get a b c i hi) 1 _ rfl, h4 i _ (things_get a b c i hi) 2 _ rfl, h4 i _ (things_get a b c i hi) 3 _ rfl⟩⟩

set_option maxHeartbeats 400000 in
theorem rwhat_any (a b c s : Int) (w : World) :
    Calls Try.prog 44 #[geo a b c, .int .i64 s] w fun e w' => e = .returned (.tuple #[.int .i64 (wk a b c s), .int .i64 (wn a b c s), .int .i64 (we a b c s)]) ∧ Below w.heap.size w w' := by
  by_cases h : Gok a b c
  · have H := Lib.hid h
    have hm := gcheck_yes h
    obtain ⟨h1, h2, h3, h4, h5, h6⟩ := h
    obtain ⟨a, rfl⟩ := Int.eq_ofNat_of_zero_le (show 0 ≤ a by omega)
    obtain ⟨b, rfl⟩ := Int.eq_ofNat_of_zero_le (show 0 ≤ b by omega)
    obtain ⟨c, rfl⟩ := Int.eq_ofNat_of_zero_le (show 0 ≤ c by omega)
    have hsz : size a b c ≤ 403 := by have := size_bd a b c; rw [size_cast H.out] at this; omega
    by_cases hs : 0 ≤ s ∧ s < size a b c
    · obtain ⟨s, rfl⟩ := Int.eq_ofNat_of_zero_le hs.1
      have hs' : s < size a b c := by omega
      obtain ⟨q1, q2, q3, _⟩ := wk_thing H.out hs'
      have hE := Lib.hid (And.intro q1 (And.intro q2 q3))
      clear q1 q2 q3 hs
      go_enter Try.func44, Try.ntmps44
      go_wp2_with fail
      all_goals obtain ⟨hB, hc, hz⟩ := start_facts w #[.int .i64 a, .int .i64 b, .int .i64 c] 32
      all_goals generalize World.alloc w (.cells #[.int .i64 a, .int .i64 b, .int .i64 c] 32) = w0 at *
      go_wp2_with (first | (go_at_call 21; refine (rcheck_any _ _ _ _).mono ?_; rintro e w1 ⟨rfl, hb⟩; have X := adv hB hb hc hz; clear hB hb hc hz; obtain ⟨hB, hc, hz⟩ := X) | (go_at_call 55; refine (all_any a b c H.out _).mono ?_; rintro e w2 ⟨v, rfl, hR⟩; obtain ⟨g, cap, rfl, g1, g2, g3, gc⟩ := things_open hR; have GC := Lib.hid gc; have X := adv hB hR.1 hc hz; clear hR hB hc hz gc; obtain ⟨hB, hc, hz⟩ := X))
      obtain ⟨c0, c1, _, _⟩ := GC.out s hs'
      go_quiet (fail)
      go_wp2
      go_ret3
      refine ⟨?_, below_drewN hB _⟩
      rw [hE.out.1, hE.out.2.1, hE.out.2.2]
      rfl
    · have he : we a b c s = 1 := by unfold we gwithin; rw [if_neg (not_not_intro H.out), size_cast H.out, if_pos (by omega)]
      have e2 := w_none (a := a) (b := b) (c := c) (s := s) (by rw [he]; omega)
      have hE := Lib.hid (And.intro he e2)
      clear he e2
      by_cases s0 : s < 0
      all_goals
        have s0' := s0
        go_enter Try.func44, Try.ntmps44
        go_wp2_with fail
        all_goals obtain ⟨hB, hc, hz⟩ := start_facts w #[.int .i64 a, .int .i64 b, .int .i64 c] 32
        all_goals generalize World.alloc w (.cells #[.int .i64 a, .int .i64 b, .int .i64 c] 32) = w0 at *
        go_wp2_with (first | (go_at_call 21; refine (rcheck_any _ _ _ _).mono ?_; rintro e w1 ⟨rfl, hb⟩; have X := adv hB hb hc hz; clear hB hb hc hz; obtain ⟨hB, hc, hz⟩ := X) | (go_at_call 55; refine (all_any a b c H.out _).mono ?_; rintro e w2 ⟨v, rfl, hR⟩; obtain ⟨g, cap, rfl, g1, g2, g3, gc⟩ := things_open hR; have GC := Lib.hid gc; have X := adv hB hR.1 hc hz; clear hR hB hc hz gc; obtain ⟨hB, hc, hz⟩ := X))
        go_ret3
        refine ⟨?_, hB⟩
        rw [hE.out.1, hE.out.2.1, hE.out.2.2]
        rfl
  · have hm := gcheck_no h
    have he : we a b c s = 4 := by unfold we gwithin; rw [if_pos h]
    have e2 := w_none (a := a) (b := b) (c := c) (s := s) (by rw [he]; omega)
    have hE := Lib.hid (And.intro he e2)
    clear he e2 h
    go_enter Try.func44, Try.ntmps44
    go_wp2_with fail
    all_goals obtain ⟨hB, hc, hz⟩ := start_facts w #[.int .i64 a, .int .i64 b, .int .i64 c] 32
    all_goals generalize World.alloc w (.cells #[.int .i64 a, .int .i64 b, .int .i64 c] 32) = w0 at *
    go_wp2_with (go_at_call 21; refine (rcheck_any _ _ _ _).mono ?_; rintro e w1 ⟨rfl, hb⟩; have X := adv hB hb hc hz; clear hB hb hc hz; obtain ⟨hB, hc, hz⟩ := X)
    go_ret3
    refine ⟨?_, hB⟩
    rw [hE.out.1, hE.out.2.1, hE.out.2.2]
    rfl

set_option maxHeartbeats 400000 in
theorem rregion_any (a b c s : Int) (w : World) :
    Calls Try.prog 46 #[geo a b c, .int .i64 s] w fun e w' => e = .returned (.tuple #[.int .i64 (rr a b c s), .int .i64 (re a b c s)]) ∧ Below w.heap.size w w' := by
  have hn := wn_bd a b c s
  by_cases he : we a b c s = 0
  · have hw : (we a b c s != 0) = false := by simpa using he
    obtain ⟨hg, s0, s1⟩ := within_ok he
    obtain ⟨h1, h2, h3, h4, h5, h6⟩ := hg
    by_cases hk3 : wk a b c s = 3
    · have w3 : (wk a b c s == 3) = true := by simpa using hk3
      have e1 : re a b c s = 0 := by unfold re; rw [he, hk3]; rfl
      have e2 : rr a b c s = wn a b c s := by unfold rr; rw [he, hk3]; rfl
      have hE := Lib.hid (And.intro e1 e2)
      clear he hk3 e1 e2
      go_enter Try.func46, Try.ntmps46
      go_wp2_with fail
      all_goals obtain ⟨hB, hc, hz⟩ := start_facts w #[.int .i64 a, .int .i64 b, .int .i64 c] 32
      all_goals generalize World.alloc w (.cells #[.int .i64 a, .int .i64 b, .int .i64 c] 32) = w0 at *
      go_wp2_with (go_at_call 44; refine (rwhat_any _ _ _ _ _).mono ?_; rintro e w1 ⟨rfl, hb⟩; have X := adv hB hb hc hz; clear hB hb hc hz; obtain ⟨hB, hc, hz⟩ := X)
      go_ret2
      refine ⟨?_, hB⟩
      rw [hE.out.1, hE.out.2]
      rfl
    · have w3 : (wk a b c s == 3) = false := by simpa using hk3
      by_cases hk4 : wk a b c s = 4
      · have w4 : (wk a b c s == 4) = true := by simpa using hk4
        have e1 : re a b c s = 0 := by unfold re; rw [he, hk4]; rfl
        have e2 : rr a b c s = wn a b c s := by unfold rr; rw [he, hk4]; rfl
        have hE := Lib.hid (And.intro e1 e2)
        clear he hk3 hk4 e1 e2
        go_enter Try.func46, Try.ntmps46
        go_wp2_with fail
        all_goals obtain ⟨hB, hc, hz⟩ := start_facts w #[.int .i64 a, .int .i64 b, .int .i64 c] 32
        all_goals generalize World.alloc w (.cells #[.int .i64 a, .int .i64 b, .int .i64 c] 32) = w0 at *
        go_wp2_with (go_at_call 44; refine (rwhat_any _ _ _ _ _).mono ?_; rintro e w1 ⟨rfl, hb⟩; have X := adv hB hb hc hz; clear hB hb hc hz; obtain ⟨hB, hc, hz⟩ := X)
        go_ret2
        refine ⟨?_, hB⟩
        rw [hE.out.1, hE.out.2]
        rfl
      · have w4 : (wk a b c s == 4) = false := by simpa using hk4
        by_cases hk5 : wk a b c s = 5
        · have w5 : (wk a b c s == 5) = true := by simpa using hk5
          have e1 : re a b c s = 0 := by unfold re; rw [he, hk5]; rfl
          have e2 : rr a b c s = a + wn a b c s - 1 := by unfold rr; rw [he, hk5, if_neg (by omega), if_pos rfl]; omega
          have hE := Lib.hid (And.intro e1 e2)
          clear he hk5 hk3 hk4 e1 e2
          go_enter Try.func46, Try.ntmps46
          go_wp2_with fail
          all_goals obtain ⟨hB, hc, hz⟩ := start_facts w #[.int .i64 a, .int .i64 b, .int .i64 c] 32
          all_goals generalize World.alloc w (.cells #[.int .i64 a, .int .i64 b, .int .i64 c] 32) = w0 at *
          go_wp2_with (go_at_call 44; refine (rwhat_any _ _ _ _ _).mono ?_; rintro e w1 ⟨rfl, hb⟩; have X := adv hB hb hc hz; clear hB hb hc hz; obtain ⟨hB, hc, hz⟩ := X)
          go_ret2
          refine ⟨?_, hB⟩
          rw [hE.out.1, hE.out.2]
          rfl
        · have w5 : (wk a b c s == 5) = false := by simpa using hk5
          have e1 : re a b c s = 1 := by unfold re; rw [he]; simp [hk3, hk4, hk5]
          have e2 : rr a b c s = 0 := by unfold rr; rw [he]; simp [hk3, hk4, hk5]
          have hE := Lib.hid (And.intro e1 e2)
          clear he hk5 hk3 hk4 e1 e2
          go_enter Try.func46, Try.ntmps46
          go_wp2_with fail
          all_goals obtain ⟨hB, hc, hz⟩ := start_facts w #[.int .i64 a, .int .i64 b, .int .i64 c] 32
          all_goals generalize World.alloc w (.cells #[.int .i64 a, .int .i64 b, .int .i64 c] 32) = w0 at *
          go_wp2_with (go_at_call 44; refine (rwhat_any _ _ _ _ _).mono ?_; rintro e w1 ⟨rfl, hb⟩; have X := adv hB hb hc hz; clear hB hb hc hz; obtain ⟨hB, hc, hz⟩ := X)
          go_ret2
          refine ⟨?_, hB⟩
          rw [hE.out.1, hE.out.2]
          rfl
  · have hw : (we a b c s != 0) = true := by simpa using he
    have e1 : re a b c s = we a b c s := by unfold re; rw [if_pos he]
    have e2 : rr a b c s = 0 := by unfold rr; rw [if_pos he]
    have hE := Lib.hid (And.intro e1 e2)
    clear he e1 e2
    go_enter Try.func46, Try.ntmps46
    go_wp2_with fail
    all_goals obtain ⟨hB, hc, hz⟩ := start_facts w #[.int .i64 a, .int .i64 b, .int .i64 c] 32
    all_goals generalize World.alloc w (.cells #[.int .i64 a, .int .i64 b, .int .i64 c] 32) = w0 at *
    go_wp2_with (go_at_call 44; refine (rwhat_any _ _ _ _ _).mono ?_; rintro e w1 ⟨rfl, hb⟩; have X := adv hB hb hc hz; clear hB hb hc hz; obtain ⟨hB, hc, hz⟩ := X)
    go_ret2
    refine ⟨?_, hB⟩
    rw [hE.out.1, hE.out.2]
    rfl

theorem be_ok {a b c : Int} (h : Gok a b c) (k p : Int) : (be a b c k p = 0 ∧ (0 ≤ k ∧ k < a) ∧ 0 ≤ p ∧ p < c ∧ bs a b c k p = gfirst a b c k + 2 + b + p) ∨ (be a b c k p = 1 ∧ ¬ ((0 ≤ k ∧ k < a) ∧ 0 ≤ p ∧ p < c) ∧ bs a b c k p = 0) := by
  unfold bs be gwithin
  simp only [if_neg (not_not_intro h)]
  by_cases h1 : k < 0 ∨ a ≤ k
  · rw [if_pos h1]
    exact .inr ⟨rfl, by omega, rfl⟩
  · rw [if_neg h1]
    by_cases h2 : p < 0 ∨ c ≤ p
    · rw [if_pos h2]
      exact .inr ⟨rfl, by omega, rfl⟩
    · rw [if_neg h2]
      exact .inl ⟨rfl, by omega, by omega, by omega, rfl⟩

theorem find_bs {a b c : Nat} (h : Gok a b c) (k p : Int) : findAt (isBlock k p) (things a b c) = if be a b c k p = 0 then bs a b c k p else -1 := by
  rw [find_block]
  rcases be_ok h k p with ⟨e, h1, h2, h3, e2⟩ | ⟨e, h1, e2⟩
  · rw [if_pos ⟨h1, h2, h3⟩, if_pos e, e2]
  · rw [if_neg h1, if_neg (by rw [e]; omega)]

set_option maxHeartbeats 1000000 in
theorem rblock_any (a b c k p : Int) (w : World) :
    Calls Try.prog 34 #[geo a b c, .int .i64 k, .int .i64 p] w fun e w' => e = .returned (.tuple #[.int .i64 (bs a b c k p), .int .i64 (be a b c k p)]) ∧ Below w.heap.size w w' := by
  by_cases h : Gok a b c
  · have H := Lib.hid h
    have hm := gcheck_yes h
    obtain ⟨h1, h2, h3, h4, h5, h6⟩ := h
    obtain ⟨a, rfl⟩ := Int.eq_ofNat_of_zero_le (show 0 ≤ a by omega)
    obtain ⟨b, rfl⟩ := Int.eq_ofNat_of_zero_le (show 0 ≤ b by omega)
    obtain ⟨c, rfl⟩ := Int.eq_ofNat_of_zero_le (show 0 ≤ c by omega)
    have hsz : size a b c ≤ 403 := by have := size_bd a b c; rw [size_cast H.out] at this; omega
    go_enter Try.func34, Try.ntmps34
    go_wp2_with fail
    all_goals obtain ⟨hB, hc, hz⟩ := start_facts w #[.int .i64 a, .int .i64 b, .int .i64 c] 32
    all_goals generalize World.alloc w (.cells #[.int .i64 a, .int .i64 b, .int .i64 c] 32) = w0 at *
    go_wp2_with (first | (go_at_call 21; refine (rcheck_any _ _ _ _).mono ?_; rintro e w1 ⟨rfl, hb⟩; have X := adv hB hb hc hz; clear hB hb hc hz; obtain ⟨hB, hc, hz⟩ := X) | (go_at_call 55; refine (all_any a b c H.out _).mono ?_; rintro e w2 ⟨v, rfl, hR⟩; obtain ⟨g, cap, rfl, g1, g2, g3, gc⟩ := things_open hR; have GC := Lib.hid gc; have X := adv hB hR.1 hc hz; clear hR hB hc hz gc; obtain ⟨hB, hc, hz⟩ := X))
    go_loop [9] (fun i => ∃ m : Nat, m ≤ size a b c ∧ i = .int .i64 m ∧ ∀ j, j < m → isBlock k p (thing a b c j) = false) (fun i => size a b c - (intOf i).toNat)
    case atStart => exact ⟨0, by omega, rfl, fun j hj => by omega⟩
    case round =>
      obtain ⟨m, hm, rfl, hno⟩ := hrel
      have HN := Lib.hid hno
      clear hno
      by_cases hlt : m < size a b c
      · obtain ⟨c0, c1, c2, c3⟩ := GC.out m hlt
        by_cases hk : ((thing a b c m).1 : Int) = 6 ∧ ((thing a b c m).2.2.1 : Int) = k ∧ ((thing a b c m).2.2.2 : Int) = p
        · obtain ⟨k1, k2, k3⟩ := hk
          have e := find_here HN.out hlt (by simp [isBlock, k1, k2, k3])
          rw [find_bs H.out] at e
          have E := Lib.hid e
          have b0 : (((thing a b c m).1 : Int) == 6) = true := by simpa using k1
          have b1 : (((thing a b c m).2.2.1 : Int) == k) = true := by simpa using k2
          have b2 : (((thing a b c m).2.2.2 : Int) == p) = true := by simpa using k3
          clear k1 k2 k3 e
          go_wp2_with fail
          go_ret2
          refine ⟨?_, hB⟩
          rcases be_ok H.out k p with ⟨e1, _⟩ | ⟨e1, _⟩
          · rw [e1]
            have := E.out
            rw [if_pos e1] at this
            rw [← this]
            rfl
          · have := E.out
            rw [if_neg (by rw [e1]; omega)] at this
            omega
        · have e := Lib.hid (no_more HN.out (by
            cases hq : isBlock k p (thing a b c m) with
            | false => rfl
            | true => simp only [isBlock, Bool.and_eq_true, beq_iff_eq] at hq; exact absurd ⟨hq.1.1, hq.1.2, hq.2⟩ hk))
          by_cases k1 : ((thing a b c m).1 : Int) = 6
          · have b0 : (((thing a b c m).1 : Int) == 6) = true := by simpa using k1
            by_cases k2 : ((thing a b c m).2.2.1 : Int) = k
            · have b1 : (((thing a b c m).2.2.1 : Int) == k) = true := by simpa using k2
              have b2 : (((thing a b c m).2.2.2 : Int) == p) = false := by simpa using fun k3 => hk ⟨k1, k2, k3⟩
              clear hk k1 k2
              go_wp2_with fail
              go_round
              case rel => exact ⟨m + 1, by omega, by go_num, e.out⟩
              case measure => simp [intOf]; omega
            · have b1 : (((thing a b c m).2.2.1 : Int) == k) = false := by simpa using k2
              clear hk k1 k2
              go_wp2_with fail
              go_round
              case rel => exact ⟨m + 1, by omega, by go_num, e.out⟩
              case measure => simp [intOf]; omega
          · have b0 : (((thing a b c m).1 : Int) == 6) = false := by simpa using k1
            clear hk k1
            go_wp2_with fail
            go_round
            case rel => exact ⟨m + 1, by omega, by go_num, e.out⟩
            case measure => simp [intOf]; omega
      · obtain rfl : m = size a b c := by omega
        have e := find_gone HN.out
        rw [find_bs H.out] at e
        have E := Lib.hid e
        clear e
        go_wp2_with fail
        go_ret2
        refine ⟨?_, hB⟩
        rcases be_ok H.out k p with ⟨e1, q1, q2, q3, e2⟩ | ⟨e1, _, e2⟩
        · have := E.out
          rw [if_pos e1, e2] at this
          have := first_bd H.out q1.1 (by omega)
          omega
        · rw [e1, e2]
          rfl
  · have hm := gcheck_no h
    have e1 : be a b c k p = 4 := by unfold be gwithin; rw [if_pos h]; rfl
    have e2 : bs a b c k p = 0 := by unfold bs; rw [e1]; rfl
    have HE := Lib.hid (And.intro e1 e2)
    clear h e1 e2
    go_enter Try.func34, Try.ntmps34
    go_wp2_with fail
    all_goals obtain ⟨hB, hc, hz⟩ := start_facts w #[.int .i64 a, .int .i64 b, .int .i64 c] 32
    all_goals generalize World.alloc w (.cells #[.int .i64 a, .int .i64 b, .int .i64 c] 32) = w0 at *
    go_wp2_with (go_at_call 21; refine (rcheck_any _ _ _ _).mono ?_; rintro e w1 ⟨rfl, hb⟩; have X := adv hB hb hc hz; clear hB hb hc hz; obtain ⟨hB, hc, hz⟩ := X)
    go_ret2
    refine ⟨?_, hB⟩
    rw [HE.out.1, HE.out.2]
    rfl
end Cw
