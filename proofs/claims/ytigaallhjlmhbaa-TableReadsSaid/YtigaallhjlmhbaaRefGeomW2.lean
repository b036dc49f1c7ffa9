/- The walks of the document's geometry (cutwaterref03), behind All. -/
import Derived.Test.YtigaallhjlmhbaaRefGeomW
import Derived.Test.YtigaallhjlmhbaaThings2
namespace Cw
open Go Go.RowKit
open Go.Proofs

theorem flatMap4_get (L : List (Nat × Nat × Nat × Nat)) : ∀ (i j : Nat) (x : Nat × Nat × Nat × Nat), L[i]? = some x → j < 4 → (L.flatMap thCells)[i * 4 + j]? = (thCells x)[j]? := by
  induction L with
  | nil => intro i j x h; simp at h
  | cons y L ih =>
    intro i j x h hj
    rw [List.flatMap_cons]
    cases i with
    | zero =>
      simp at h
      subst h
      rw [List.getElem?_append_left (by simp [thCells]; omega)]
      simp
    | succ i =>
      rw [List.getElem?_append_right (by simp [thCells]; omega), show (i + 1) * 4 + j - (thCells y).length = i * 4 + j by simp [thCells]; omega]
      exact ih i j x (by simpa using h) hj

theorem ThR.get {w : World} {cs : Array Value} {E : TypeId} {L : List (Nat × Nat × Nat × Nat)} {v : Value} {wr : World} (h : ThR w cs E L v wr) (hL : 0 < L.length) :
    ∃ g cap, v = .slice (some ⟨g, 0, none⟩) L.length cap ∧ w.heap.size < g ∧ g < wr.heap.size ∧ L.length ≤ cap ∧
      ∀ i x, L[i]? = some x → ∀ j u, (thCells x)[j]? = some u → wr.cell? ⟨g, i * 4 + j, none⟩ = some u := by
  rcases h.2.2.2.2 with ⟨_, h0⟩ | ⟨g, cap, cur, rfl, hg, hh, hn, hm, hs, ht⟩
  · omega
  · refine ⟨g, cap, rfl, hg, (Array.getElem?_eq_some_iff.1 hh).1, hn, fun i x hi j u hu => ?_⟩
    have hj : j < 4 := by
      obtain ⟨h1, _⟩ := List.getElem?_eq_some_iff.1 hu
      simpa [thCells] using h1
    have hk := flatMap4_get L i j x hi hj
    rw [hu, ← ht, List.getElem?_take] at hk
    rw [cell_of_row wr g (i * 4 + j) cur E (0, 0) hh]
    split at hk
    · simpa using hk
    · cases hk

theorem things_pos (a b c : Nat) : 0 < (things a b c).length := by rw [things_length]; unfold size; omega

theorem no_more {a b c m : Nat} {p : Nat × Nat × Nat × Nat → Bool} (hno : ∀ j, j < m → p (thing a b c j) = false) (h : p (thing a b c m) = false) : ∀ j, j < m + 1 → p (thing a b c j) = false := by
  intro j hj
  by_cases e : j = m
  · rw [e]; exact h
  · exact hno j (by omega)
theorem find_here {a b c m : Nat} {p : Nat × Nat × Nat × Nat → Bool} (hno : ∀ j, j < m → p (thing a b c j) = false) (hm : m < size a b c) (h : p (thing a b c m) = true) : (m : Int) = findAt p (things a b c) := by
  rw [findAt_some (things_get a b c m hm) h fun j y hj hy => ?_]
  obtain ⟨_, rfl⟩ := things_some hy
  exact hno j hj
theorem find_gone {a b c : Nat} {p : Nat × Nat × Nat × Nat → Bool} (hno : ∀ j, j < size a b c → p (thing a b c j) = false) : findAt p (things a b c) = -1 := find_no hno

theorem thing_get {a b c i : Nat} (h : i < size a b c) : ∃ x, (things a b c)[i]? = some x ∧ x = thing a b c i := ⟨_, things_get a b c i h, rfl⟩

theorem mapAt_find {a b c : Nat} (h : Gok a b c) (k : Int) (m : Bool) : findAt (isThing (if m then 4 else 3) k) (things a b c) = if me a b c k = 0 then mapAt a b c k m else -1 := by
  rw [find_map]
  by_cases hk : 0 ≤ k ∧ k < a
  · have e : me a b c k = 0 := within_zero h hk.1 hk.2
    rw [if_pos hk, if_pos e]
    unfold mapAt
    rw [e]
    cases m <;> simp
  · have e : me a b c k ≠ 0 := fun e => hk (within_ok e).2
    rw [if_neg hk, if_neg e]

theorem me_cases {a b c k : Int} (h : Gok a b c) : me a b c k = 0 ∨ me a b c k = 1 := by
  unfold me gwithin
  rw [if_neg (not_not_intro h)]
  split
  · exact .inr rfl
  · exact .inl rfl
theorem mapAt_pos {a b c k : Int} {m : Bool} (he : me a b c k = 0) : 0 ≤ mapAt a b c k m := by
  obtain ⟨h, h0, h1⟩ := within_ok he
  have := first_bd h h0 (by have := h.2.1; omega)
  unfold mapAt
  rw [he]
  cases m <;> simp <;> omega

set_option maxRecDepth 100000 in
set_option maxHeartbeats 400000 in
theorem rtable_any (a b c r : Int) (w : World) :
    Calls Try.prog 60 #[geo a b c, .int .i64 r] w fun e w' => e = .returned (.tuple #[.int .i64 (ts a b c r), .int .i64 (toff a b c r), .int .i64 (te a b c r)]) ∧ Below w.heap.size w w' := by
  have hrb := regions_bd a b c
  by_cases h : Gok a b c
  · have H := Lib.hid h
    have hm := gcheck_yes h
    by_cases hr : 0 ≤ r ∧ r < gregions a b c
    · have he : te a b c r = 0 := within_zero h hr.1 hr.2
      have e2 : ts a b c r = 2 + r / 16 := by unfold ts; rw [he]; rfl
      have e3 : toff a b c r = r % 16 * 4 := by unfold toff; rw [he]; rfl
      have hE := Lib.hid (And.intro he (And.intro e2 e3))
      clear he e2 e3 h
      have t0 : ¬ r < 0 := by omega
      have t1 : ¬ gregions a b c ≤ r := by omega
      go_enter Try.func60, Try.ntmps60
      go_wp2_with fail
      all_goals obtain ⟨hB, hc, hz⟩ := start_facts w #[.int .i64 a, .int .i64 b, .int .i64 c] 34
      all_goals generalize World.alloc w (.cells #[.int .i64 a, .int .i64 b, .int .i64 c] 34) = w0 at *
      go_wp2_with (first | (go_at_call 54; refine (rcheck_any _ _ _ _).mono ?_; rintro e w1 ⟨rfl, hb⟩; have X := adv hB hb hc hz; clear hB hb hc hz; obtain ⟨hB, hc, hz⟩ := X) | (go_at_call 55; refine (rregions_any _ _ _ _).mono ?_; rintro e w1 ⟨rfl, hb⟩; have X := adv hB hb hc hz; clear hB hb hc hz; obtain ⟨hB, hc, hz⟩ := X))
      go_ret3
      refine ⟨?_, hB⟩
      rw [hE.out.1, hE.out.2.1, hE.out.2.2]
      rfl
    · have he : te a b c r = 1 := by unfold te gwithin; rw [if_neg (not_not_intro h), if_pos (by omega)]
      have e2 : ts a b c r = 0 := by unfold ts; rw [he]; rfl
      have e3 : toff a b c r = 0 := by unfold toff; rw [he]; rfl
      have hE := Lib.hid (And.intro he (And.intro e2 e3))
      clear he e2 e3 h
      by_cases t0 : r < 0
      all_goals
        have t0' := t0
        go_enter Try.func60, Try.ntmps60
        go_wp2_with fail
        all_goals obtain ⟨hB, hc, hz⟩ := start_facts w #[.int .i64 a, .int .i64 b, .int .i64 c] 34
        all_goals generalize World.alloc w (.cells #[.int .i64 a, .int .i64 b, .int .i64 c] 34) = w0 at *
        go_wp2_with (first | (go_at_call 54; refine (rcheck_any _ _ _ _).mono ?_; rintro e w1 ⟨rfl, hb⟩; have X := adv hB hb hc hz; clear hB hb hc hz; obtain ⟨hB, hc, hz⟩ := X) | (go_at_call 55; refine (rregions_any _ _ _ _).mono ?_; rintro e w1 ⟨rfl, hb⟩; have X := adv hB hb hc hz; clear hB hb hc hz; obtain ⟨hB, hc, hz⟩ := X))
        go_ret3
        refine ⟨?_, hB⟩
        rw [hE.out.1, hE.out.2.1, hE.out.2.2]
        rfl
  · have hm := gcheck_no h
    have he : te a b c r = 4 := by unfold te gwithin; rw [if_pos h]
    have e2 : ts a b c r = 0 := by unfold ts; rw [he]; rfl
    have e3 : toff a b c r = 0 := by unfold toff; rw [he]; rfl
    have hE := Lib.hid (And.intro he (And.intro e2 e3))
    clear he e2 e3 h
    go_enter Try.func60, Try.ntmps60
    go_wp2_with fail
    all_goals obtain ⟨hB, hc, hz⟩ := start_facts w #[.int .i64 a, .int .i64 b, .int .i64 c] 34
    all_goals generalize World.alloc w (.cells #[.int .i64 a, .int .i64 b, .int .i64 c] 34) = w0 at *
    go_wp2_with (go_at_call 54; refine (rcheck_any _ _ _ _).mono ?_; rintro e w1 ⟨rfl, hb⟩; have X := adv hB hb hc hz; clear hB hb hc hz; obtain ⟨hB, hc, hz⟩ := X)
    go_ret3
    refine ⟨?_, hB⟩
    rw [hE.out.1, hE.out.2.1, hE.out.2.2]
    rfl
end Cw
