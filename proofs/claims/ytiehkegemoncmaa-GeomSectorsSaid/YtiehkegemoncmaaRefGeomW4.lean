/- The walks of the document's geometry (cutwaterref03): Place, Inode: a statement that makes the list twice. -/
import Derived.Test.YtiehkegemoncmaaRefGeomW3
import Derived.Deep.RegionWith
namespace Cw
open Go Go.RowKit
open Go.Proofs

set_option maxHeartbeats 1000000 in
theorem rplace_any (a b c s : Int) (w : World) :
    Calls Try.prog 45 #[geo a b c, .int .i64 s] w fun e w' => e = .returned (.tuple #[.int .i64 (pg a b c s), .int .i64 (pp a b c s), .int .i64 (pe a b c s)]) ∧ Below w.heap.size w w' := by
  by_cases he : we a b c s = 0
  · have hw : (we a b c s != 0) = false := by simpa using he
    obtain ⟨hg, s0, s1⟩ := within_ok he
    have H := Lib.hid hg
    obtain ⟨h1, h2, h3, h4, h5, h6⟩ := hg
    obtain ⟨a, rfl⟩ := Int.eq_ofNat_of_zero_le (show 0 ≤ a by omega)
    obtain ⟨b, rfl⟩ := Int.eq_ofNat_of_zero_le (show 0 ≤ b by omega)
    obtain ⟨c, rfl⟩ := Int.eq_ofNat_of_zero_le (show 0 ≤ c by omega)
    obtain ⟨s, rfl⟩ := Int.eq_ofNat_of_zero_le s0
    have hsz : size a b c ≤ 403 := by have := size_bd a b c; rw [size_cast H.out] at this; omega
    have hs' : s < size a b c := by rw [size_cast H.out] at s1; omega
    by_cases hk : wk (a : Int) b c s = 6
    · have hw2 : (wk (a : Int) b c s != 6) = false := by simpa using hk
      obtain ⟨q1, q2, q3, q4⟩ := wk_thing H.out hs'
      obtain ⟨e2, e3⟩ := q4 (by omega)
      have e1 : pe (a : Int) b c s = 0 := by unfold pe; rw [he, hk]; rfl
      have hE := Lib.hid (And.intro e1 (And.intro e2 e3))
      clear he hk e1 e2 e3 q1 q2 q3 q4 s1
      go_enter Try.func45, Try.ntmps45
      go_wp2_with fail
      all_goals obtain ⟨hB, hc, hz⟩ := start_facts w #[.int .i64 a, .int .i64 b, .int .i64 c] 32
      all_goals generalize World.alloc w (.cells #[.int .i64 a, .int .i64 b, .int .i64 c] 32) = w0 at *
      go_wp2_with (go_at_call 44; refine (rwhat_any _ _ _ _ _).mono ?_; rintro e w1 ⟨rfl, hb⟩; have X := adv hB hb hc hz; clear hB hb hc hz; obtain ⟨hB, hc, hz⟩ := X)
      go_region_with (first | (go_at_call 55; refine (all_any a b c H.out _).mono ?_; rintro e w3 ⟨v, rfl, hR⟩; obtain ⟨g', cap', rfl, f1, f2, f3, gd⟩ := things_open hR; obtain ⟨_, _, d2, d3⟩ := gd s hs'; have k2 := (hR.1.cell (p := ⟨g, s * 4 + 2, none⟩) g2).trans c2; have k3 := (hR.1.cell (p := ⟨g, s * 4 + 3, none⟩) g2).trans c3; have X := adv hB hR.1 hc hz; clear hR hB hc hz gd c2 c3; obtain ⟨hB, hc, hz⟩ := X) | (go_at_call 55; refine (all_any a b c H.out _).mono ?_; rintro e w2 ⟨v, rfl, hR⟩; obtain ⟨g, cap, rfl, g1, g2, g3, gc⟩ := things_open hR; obtain ⟨_, _, c2, c3⟩ := gc s hs'; have X := adv (hB.drew) hR.1 hc hz; clear hR hB hc hz gc; obtain ⟨hB, hc, hz⟩ := X))
      all_goals
        go_wp2
        go_ret3
        refine ⟨?_, hB⟩
        rw [hE.out.1, hE.out.2.1, hE.out.2.2]
        rfl
    · have hw2 : (wk (a : Int) b c s != 6) = true := by simpa using hk
      have e1 : pe (a : Int) b c s = 1 := by unfold pe; rw [he]; simp [hk]
      have e2 : pg (a : Int) b c s = 0 := by unfold pg; rw [e1]; rfl
      have e3 : pp (a : Int) b c s = 0 := by unfold pp; rw [e1]; rfl
      have hE := Lib.hid (And.intro e1 (And.intro e2 e3))
      clear he hk e1 e2 e3
      go_enter Try.func45, Try.ntmps45
      go_wp2_with fail
      all_goals obtain ⟨hB, hc, hz⟩ := start_facts w #[.int .i64 a, .int .i64 b, .int .i64 c] 32
      all_goals generalize World.alloc w (.cells #[.int .i64 a, .int .i64 b, .int .i64 c] 32) = w0 at *
      go_wp2_with (go_at_call 44; refine (rwhat_any _ _ _ _ _).mono ?_; rintro e w1 ⟨rfl, hb⟩; have X := adv hB hb hc hz; clear hB hb hc hz; obtain ⟨hB, hc, hz⟩ := X)
      go_ret3
      refine ⟨?_, hB⟩
      rw [hE.out.1, hE.out.2.1, hE.out.2.2]
      rfl
  · have hw : (we a b c s != 0) = true := by simpa using he
    have e1 : pe a b c s = we a b c s := by unfold pe; rw [if_pos he]
    have e2 : pg a b c s = 0 := by unfold pg; rw [e1, if_pos he]
    have e3 : pp a b c s = 0 := by unfold pp; rw [e1, if_pos he]
    have hE := Lib.hid (And.intro e1 (And.intro e2 e3))
    clear he e1 e2 e3
    go_enter Try.func45, Try.ntmps45
    go_wp2_with fail
    all_goals obtain ⟨hB, hc, hz⟩ := start_facts w #[.int .i64 a, .int .i64 b, .int .i64 c] 32
    all_goals generalize World.alloc w (.cells #[.int .i64 a, .int .i64 b, .int .i64 c] 32) = w0 at *
    go_wp2_with (go_at_call 44; refine (rwhat_any _ _ _ _ _).mono ?_; rintro e w1 ⟨rfl, hb⟩; have X := adv hB hb hc hz; clear hB hb hc hz; obtain ⟨hB, hc, hz⟩ := X)
    go_ret3
    refine ⟨?_, hB⟩
    rw [hE.out.1, hE.out.2.1, hE.out.2.2]
    rfl

theorem find_is {a b c : Nat} (h : Gok a b c) (n : Int) : findAt (isThing 5 n) (things a b c) = if ie a b c n = 0 then is a b c n else -1 := by
  rw [find_inode a b c (by have := h.2.2.1; omega)]
  have hi : ginodes a b c = (a : Int) * b := by rw [ginodes, if_pos h]
  have hw : gwithin (a : Int) b c n (ginodes a b c + 1) = if n < 0 ∨ (a : Int) * b + 1 ≤ n then 1 else 0 := by unfold gwithin; rw [if_neg (not_not_intro h), hi]
  by_cases hn : 1 ≤ n ∧ n ≤ (a : Int) * b
  · have e : ie (a : Int) b c n = 0 := by unfold ie; rw [hw, if_neg (by omega)]; simp; omega
    rw [if_pos hn, if_pos e]
    unfold is
    rw [e]
    rfl
  · have e : ie (a : Int) b c n = 1 := by
      unfold ie
      rw [hw]
      by_cases h1 : n < 0 ∨ (a : Int) * b + 1 ≤ n
      · rw [if_pos h1]; rfl
      · rw [if_neg h1]; simp; omega
    rw [if_neg hn, if_neg (by rw [e]; omega)]

/-- An inode's sector is in the list, with its group and its place. -/
theorem is_thing {a b c : Nat} (h : Gok a b c) {n : Int} (he : ie a b c n = 0) : ∃ s : Nat, s < size a b c ∧ is a b c n = s ∧ ig a b c n = (thing a b c s).2.2.1 ∧ ip a b c n = (thing a b c s).2.2.2 := by
  have hi : ginodes a b c = (a : Int) * b := by rw [ginodes, if_pos h]
  have hn : 1 ≤ n ∧ n ≤ (a : Int) * b := by
    have hw : gwithin (a : Int) b c n (ginodes a b c + 1) = if n < 0 ∨ (a : Int) * b + 1 ≤ n then 1 else 0 := by unfold gwithin; rw [if_neg (not_not_intro h), hi]
    unfold ie at he
    rw [hw] at he
    split at he
    · split at he <;> omega
    · split at he
      · omega
      · split at he <;> omega
  have hb : 1 ≤ b := by have := h.2.2.1; omega
  obtain ⟨m, hm⟩ := Int.eq_ofNat_of_zero_le (show 0 ≤ n - 1 by omega)
  obtain rfl : n = m + 1 := by omega
  have hmb : m < a * b := by
    have : ((a * b : Nat) : Int) = (a : Int) * b := by simp
    omega
  have hk : m / b < a := by rw [Nat.div_lt_iff_lt_mul (by omega)]; exact hmb
  have hi : m % b < b := Nat.mod_lt _ (by omega)
  refine ⟨2 + tabs a b + (m / b * (2 + b + c) + (2 + m % b)), in_size a b c _ _ hk (by omega), ?_, ?_, ?_⟩
  · unfold is
    rw [he, if_neg (by omega), show (m : Int) + 1 - 1 = m by omega, ← Int.natCast_ediv, ← Int.natCast_emod, first_cast]
    push_cast
    omega
  · rw [thing_group a b c _ _ (by omega), if_neg (by omega), if_pos (by omega)]
    unfold ig
    rw [he, if_neg (by omega), show (m : Int) + 1 - 1 = m by omega, ← Int.natCast_ediv]
  · rw [thing_group a b c _ _ (by omega), if_neg (by omega), if_pos (by omega)]
    unfold ip
    rw [he, if_neg (by omega), show (m : Int) + 1 - 1 = m by omega, ← Int.natCast_emod]
    simp

set_option maxHeartbeats 1000000 in
theorem rinode_any (a b c n : Int) (w : World) :
    Calls Try.prog 32 #[geo a b c, .int .i64 n] w fun e w' => e = .returned (.tuple #[.int .i64 (is a b c n), .int .i64 (ig a b c n), .int .i64 (ip a b c n), .int .i64 (ie a b c n)]) ∧ Below w.heap.size w w' := by
  by_cases h : Gok a b c
  · have H := Lib.hid h
    have hm := gcheck_yes h
    obtain ⟨h1, h2, h3, h4, h5, h6⟩ := h
    obtain ⟨a, rfl⟩ := Int.eq_ofNat_of_zero_le (show 0 ≤ a by omega)
    obtain ⟨b, rfl⟩ := Int.eq_ofNat_of_zero_le (show 0 ≤ b by omega)
    obtain ⟨c, rfl⟩ := Int.eq_ofNat_of_zero_le (show 0 ≤ c by omega)
    have hsz : size a b c ≤ 403 := by have := size_bd a b c; rw [size_cast H.out] at this; omega
    have hf := find_is H.out n
    by_cases he : ie (a : Int) b c n = 0
    · obtain ⟨s, hs', e1, e2, e3⟩ := is_thing H.out he
      rw [if_pos he, e1] at hf
      have hE := Lib.hid (And.intro he (And.intro e2 (And.intro e3 e1)))
      clear he e1 e2 e3
      go_enter Try.func32, Try.ntmps32
      go_wp2_with fail
      all_goals obtain ⟨hB, hc, hz⟩ := start_facts w #[.int .i64 a, .int .i64 b, .int .i64 c] 32
      all_goals generalize World.alloc w (.cells #[.int .i64 a, .int .i64 b, .int .i64 c] 32) = w0 at *
      go_wp2_with (first | (go_at_call 21; refine (rcheck_any _ _ _ _).mono ?_; rintro e w1 ⟨rfl, hb⟩; have X := adv hB hb hc hz; clear hB hb hc hz; obtain ⟨hB, hc, hz⟩ := X) | (go_at_call 57; refine (find_any _ _ _ H.out _ _ _).mono ?_; rintro e w1 ⟨rfl, hb⟩; have X := adv hB hb hc hz; clear hB hb hc hz; obtain ⟨hB, hc, hz⟩ := X))
      go_region_with (first | (go_at_call 55; refine (all_any a b c H.out _).mono ?_; rintro e w3 ⟨v, rfl, hR⟩; obtain ⟨g', cap', rfl, f1, f2, f3, gd⟩ := things_open hR; obtain ⟨_, _, d2, d3⟩ := gd s hs'; have k2 := (hR.1.cell (p := ⟨g, s * 4 + 2, none⟩) g2).trans c2; have k3 := (hR.1.cell (p := ⟨g, s * 4 + 3, none⟩) g2).trans c3; have X := adv hB hR.1 hc hz; clear hR hB hc hz gd c2 c3; obtain ⟨hB, hc, hz⟩ := X) | (go_at_call 55; refine (all_any a b c H.out _).mono ?_; rintro e w2 ⟨v, rfl, hR⟩; obtain ⟨g, cap, rfl, g1, g2, g3, gc⟩ := things_open hR; obtain ⟨_, _, c2, c3⟩ := gc s hs'; have X := adv (hB.drew) hR.1 hc hz; clear hR hB hc hz gc; obtain ⟨hB, hc, hz⟩ := X))
      all_goals
        go_wp2
        refine bodyPost_ret (results_tmp4 rfl _ _ _) rfl ⟨?_, hB⟩
        rw [hE.out.1, hE.out.2.1, hE.out.2.2.1, hE.out.2.2.2]
        rfl
    · have e1 : ie (a : Int) b c n = 1 := by
        unfold ie gwithin at *
        rw [if_neg (not_not_intro H.out)] at *
        by_cases h1 : n < 0 ∨ ginodes (a : Int) b c + 1 ≤ n
        · rw [if_pos h1]; rfl
        · rw [if_neg h1] at he ⊢; simp at he ⊢; exact he
      have e2 : ig (a : Int) b c n = 0 := by unfold ig; rw [if_pos he]
      have e3 : ip (a : Int) b c n = 0 := by unfold ip; rw [if_pos he]
      have e4 : is (a : Int) b c n = 0 := by unfold is; rw [if_pos he]
      rw [if_neg he] at hf
      have hE := Lib.hid (And.intro e1 (And.intro e2 (And.intro e3 e4)))
      clear he e1 e2 e3 e4
      go_enter Try.func32, Try.ntmps32
      go_wp2_with fail
      all_goals obtain ⟨hB, hc, hz⟩ := start_facts w #[.int .i64 a, .int .i64 b, .int .i64 c] 32
      all_goals generalize World.alloc w (.cells #[.int .i64 a, .int .i64 b, .int .i64 c] 32) = w0 at *
      go_wp2_with (first | (go_at_call 21; refine (rcheck_any _ _ _ _).mono ?_; rintro e w1 ⟨rfl, hb⟩; have X := adv hB hb hc hz; clear hB hb hc hz; obtain ⟨hB, hc, hz⟩ := X) | (go_at_call 57; refine (find_any _ _ _ H.out _ _ _).mono ?_; rintro e w1 ⟨rfl, hb⟩; have X := adv hB hb hc hz; clear hB hb hc hz; obtain ⟨hB, hc, hz⟩ := X))
      refine bodyPost_ret (results_tmp4 rfl _ _ _) rfl ⟨?_, hB⟩
      rw [hE.out.1, hE.out.2.1, hE.out.2.2.1, hE.out.2.2.2]
      rfl
  · have hm := gcheck_no h
    have e1 : ie a b c n = 4 := by unfold ie gwithin; rw [if_pos h]; rfl
    have e2 : ig a b c n = 0 := by unfold ig; rw [e1]; rfl
    have e3 : ip a b c n = 0 := by unfold ip; rw [e1]; rfl
    have e4 : is a b c n = 0 := by unfold is; rw [e1]; rfl
    have hE := Lib.hid (And.intro e1 (And.intro e2 (And.intro e3 e4)))
    clear h e1 e2 e3 e4
    go_enter Try.func32, Try.ntmps32
    go_wp2_with fail
    all_goals obtain ⟨hB, hc, hz⟩ := start_facts w #[.int .i64 a, .int .i64 b, .int .i64 c] 32
    all_goals generalize World.alloc w (.cells #[.int .i64 a, .int .i64 b, .int .i64 c] 32) = w0 at *
    go_wp2_with (go_at_call 21; refine (rcheck_any _ _ _ _).mono ?_; rintro e w1 ⟨rfl, hb⟩; have X := adv hB hb hc hz; clear hB hb hc hz; obtain ⟨hB, hc, hz⟩ := X)
    refine bodyPost_ret (results_tmp4 rfl _ _ _) rfl ⟨?_, hB⟩
    rw [hE.out.1, hE.out.2.1, hE.out.2.2.1, hE.out.2.2.2]
    rfl
end Cw
