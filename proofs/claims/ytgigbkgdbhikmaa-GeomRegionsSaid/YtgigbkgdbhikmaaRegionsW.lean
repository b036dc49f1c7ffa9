/- GeomRegions answers true. -/
import Derived.Test.YtgigbkgdbhikmaaFitsLaw2
import Derived.Test.YtgigbkgdbhikmaaRiseW
namespace Cw
open Go Go.RowKit Go.IntWalk
open Go.Proofs

theorem rcn_bd (a b c p : Int) : ∀ n : Nat, 0 ≤ rcn a b c p n ∧ rcn a b c p n ≤ n
  | 0 => by simp [rcn]
  | n + 1 => by
    have := rcn_bd a b c p n
    rw [rcn]
    split <;> omega
theorem pmod (x R : Int) (h0 : 0 < R) (h1 : R ≤ 132) : ∃ p, wrap64 ((IntKind.u64.wrap x).tmod R) = p ∧ 0 ≤ p ∧ p < R := by
  have h : 0 ≤ IntKind.u64.wrap x := by simp [IntKind.wrap, IntKind.signed, IntKind.bits]; omega
  have h2 := Int.tmod_nonneg R h
  have h3 := Int.tmod_lt_of_pos (IntKind.u64.wrap x) h0
  exact ⟨_, rfl, by rw [wrap64_in _ (by omega)]; omega, by rw [wrap64_in _ (by omega)]; omega⟩

set_option maxRecDepth 100000 in
set_option maxHeartbeats 8000000 in
theorem geomRegions_true (a b c x y : Int) (w : World) : Calls Try.prog 8 #[geo a b c, .int .i64 x, .int .i64 y] w fun e w' => e = .returned (.bool true) ∧ Below w.heap.size w w' := by
  have R1 := regions_any a b c
  by_cases hg : Gok a b c
  · have hsz := size_bd a b c
    obtain ⟨n, hn⟩ := Int.eq_ofNat_of_zero_le hsz.1
    have S1 := size_any a b c
    rw [hn] at S1
    have S0 := Lib.hid S1
    have hn403 : n ≤ 403 := by omega
    have ha := hg.1
    have ha4 := hg.2.1
    have hrg := regions_bd a b c
    have hr1 : 0 < gregions a b c := by
      rw [gregions, if_pos hg]
      have := Int.mul_nonneg (a := a) (b := b) (by omega) (by have := hg.2.2.1; omega)
      omega
    have hcb := fun p => rcn_bd a b c p
    have RC := Lib.hid (fun p h0 h1 => rcn_all (p := p) hg h0 h1 n hn.symm)
    have TK := Lib.hid (fun p h0 h1 => table_kind (p := p) hg h0 h1)
    generalize gregions a b c = R at *
    have R0 := Lib.hid R1
    obtain ⟨p, ep, p0, p1⟩ := pmod x R hr1 (by omega)
    obtain ⟨q, eq, q0, q1⟩ := pmod y R hr1 (by omega)
    have EP := Lib.hid ep
    have EQ := Lib.hid eq
    clear S1 R1 hn hsz hg ep eq
    go_enter Try.func8, Try.ntmps8
    go_wp2_with fail
    have hR := Box3.new w a b c
    generalize World.alloc w _ = w0 at *
    obtain ⟨hc, hz⟩ := hR.box
    go_wp2_with (first | (go_at_call 32; refine (works03 _).mono ?_; rintro e w1 ⟨rfl, hb⟩; have X := hR.step hb; clear hb hR hc hz; have hR := X; clear X; obtain ⟨hc, hz⟩ := hR.box) | (go_at_call 40; refine (R0.out _).mono ?_; rintro e w1 ⟨rfl, hb⟩; have X := hR.step hb; clear hb hR hc hz; have hR := X; clear X; obtain ⟨hc, hz⟩ := hR.box))
    go_quiet (fail)
    rw [EP.out, EQ.out]
    have X := hR.step (below_drewN (Below.refl _ _) nq)
    generalize w1.drewN nq = w3 at *
    clear hR hc hz
    have hR := X
    clear X
    obtain ⟨hc, hz⟩ := hR.box
    go_wp2_with (first | (go_at_call 34; refine (S0.out _).mono ?_; rintro e w1 ⟨rfl, hb⟩; have X := hR.step hb; clear hb hR hc hz; have hR := X; clear X; obtain ⟨hc, hz⟩ := hR.box))
    have HR0 := Lib.hid hR
    clear hR hc hz
    go_loopw [8, 43] (fun s i wr => ∃ k : Nat, k ≤ n ∧ i = .int .i64 k ∧ s = .int .i64 (rcn a b c p k) ∧ Box3 w wr a b c) (fun _ i _ => n - (intOf i).toNat)
    case atStart => exact ⟨0, by omega, rfl, rfl, HR0.out⟩
    case round =>
      clear HR0
      obtain ⟨k, hk, rfl, rfl, hR⟩ := hrel
      obtain ⟨hc, hz⟩ := hR.box
      have hb0 := hcb p k
      by_cases hlt : k < n
      · have RG := Lib.hid (Cw.region_any a b c k)
        have hst : rcn a b c p (k + 1) = rcn a b c p k + if re a b c k = 0 ∧ rr a b c k = p then 1 else 0 := rfl
        generalize rcn a b c p k = N0 at *
        generalize re a b c k = e0 at *
        generalize rr a b c k = r0 at *
        by_cases he : e0 = 0
        · by_cases hr : r0 = p
          · have h1 : (e0 == 0) = true := by simpa using he
            have h2 : (r0 == p) = true := by simpa using hr
            rw [if_pos ⟨he, hr⟩] at hst
            clear he hr
            go_wp2_with (first | (go_at_call 42; refine (RG.out _).mono ?_; rintro e w1 ⟨rfl, hb⟩; have X := hR.step hb; clear hb hR hc hz; have hR := X; clear X; obtain ⟨hc, hz⟩ := hR.box))
            go_roundw
            case rel => exact ⟨k + 1, by omega, by go_num, by rw [hst], hR⟩
            case measure => simp [intOf]; omega
          · have h1 : (e0 == 0) = true := by simpa using he
            have h2 : (r0 == p) = false := by simpa using hr
            rw [if_neg (fun h => hr h.2)] at hst
            clear he hr
            go_wp2_with (first | (go_at_call 42; refine (RG.out _).mono ?_; rintro e w1 ⟨rfl, hb⟩; have X := hR.step hb; clear hb hR hc hz; have hR := X; clear X; obtain ⟨hc, hz⟩ := hR.box))
            go_roundw
            case rel => exact ⟨k + 1, by omega, by go_num, by rw [hst]; simp, hR⟩
            case measure => simp [intOf]; omega
        · have h1 : (e0 == 0) = false := by simpa using he
          rw [if_neg (fun h => he h.1)] at hst
          clear he
          go_wp2_with (first | (go_at_call 42; refine (RG.out _).mono ?_; rintro e w1 ⟨rfl, hb⟩; have X := hR.step hb; clear hb hR hc hz; have hR := X; clear X; obtain ⟨hc, hz⟩ := hR.box))
          go_roundw
          case rel => exact ⟨k + 1, by omega, by go_num, by rw [hst]; simp, hR⟩
          case measure => simp [intOf]; omega
      · obtain rfl : k = n := by omega
        rw [RC.out p p0 p1] at hb0 ⊢
        obtain ⟨t1, t2, t3, t4, t5⟩ := TK.out p p0 p1
        obtain ⟨u1, u2, u3, _, _⟩ := TK.out q q0 q1
        have TA1 := table_any a b c p
        have TB1 := table_any a b c q
        have WH1 := what_any a b c (2 + p / 16)
        rw [t1, t2, t3] at TA1
        rw [u1, u2, u3] at TB1
        rw [t4, t5] at WH1
        have hm : (p = q ∧ 2 + p / 16 = 2 + q / 16 ∧ p % 16 * 4 = q % 16 * 4) ∨ (p ≠ q ∧ 2 + p / 16 ≠ 2 + q / 16) ∨ (p ≠ q ∧ 2 + p / 16 = 2 + q / 16 ∧ p % 16 * 4 + 4 ≤ q % 16 * 4) ∨ (p ≠ q ∧ 2 + p / 16 = 2 + q / 16 ∧ q % 16 * 4 + 4 ≤ p % 16 * 4) := by omega
        have b1 : 0 ≤ p % 16 * 4 ∧ p % 16 * 4 ≤ 60 := by omega
        have b2 : 0 ≤ q % 16 * 4 ∧ q % 16 * 4 ≤ 60 := by omega
        clear t1 t2 t3 t4 t5 u1 u2 u3 RC TK
        generalize 2 + p / 16 = s at *
        generalize 2 + q / 16 = t at *
        generalize p % 16 * 4 = i at *
        generalize q % 16 * 4 = j at *
        have TA := Lib.hid TA1
        have TB := Lib.hid TB1
        have WH := Lib.hid WH1
        clear TA1 TB1 WH1
        by_cases hpa : p < a
        · rw [if_pos hpa] at hb0 ⊢
          rcases hm with ⟨e1, e2, e3⟩ | ⟨e1, e2⟩ | ⟨e1, e2, e3⟩ | ⟨e1, e2, e3⟩
          · subst e1 e2 e3
            have d1 : decide (i + 4 ≤ i) = false := by simp; omega
            have d3 : decide (0 ≤ i) = true := by simp; omega
            have d4 : decide (i ≤ 60) = true := by simp; omega
            go_upto_region 16 with (go_at_call 43; refine (TA.out _).mono ?_; rintro e w1 ⟨rfl, hb⟩; have X := hR.step hb; clear hb hR hc hz; have hR := X; clear X; obtain ⟨hc, hz⟩ := hR.box)
            go_wp2_with (first | (go_at_call 43; refine (TB.out _).mono ?_; rintro e w1 ⟨rfl, hb⟩; have X := hR.step hb; clear hb hR hc hz; have hR := X; clear X; obtain ⟨hc, hz⟩ := hR.box) | (go_at_call 35; refine (WH.out _).mono ?_; rintro e w1 ⟨rfl, hb⟩; have X := hR.step hb; clear hb hR hc hz; have hR := X; clear X; obtain ⟨hc, hz⟩ := hR.box))
            go_ret
            exact ⟨ret_bool (by rfl), hR.below⟩
          · have f1 : (p == q) = false := by simpa using e1
            have f2 : (s == t) = false := by simpa using e2
            have d3 : decide (0 ≤ i) = true := by simp; omega
            have d4 : decide (i ≤ 60) = true := by simp; omega
            go_upto_region 16 with (go_at_call 43; refine (TA.out _).mono ?_; rintro e w1 ⟨rfl, hb⟩; have X := hR.step hb; clear hb hR hc hz; have hR := X; clear X; obtain ⟨hc, hz⟩ := hR.box)
            go_wp2_with (first | (go_at_call 43; refine (TB.out _).mono ?_; rintro e w1 ⟨rfl, hb⟩; have X := hR.step hb; clear hb hR hc hz; have hR := X; clear X; obtain ⟨hc, hz⟩ := hR.box) | (go_at_call 35; refine (WH.out _).mono ?_; rintro e w1 ⟨rfl, hb⟩; have X := hR.step hb; clear hb hR hc hz; have hR := X; clear X; obtain ⟨hc, hz⟩ := hR.box))
            go_ret
            exact ⟨ret_bool (by simp [e1]), hR.below⟩
          · subst e2
            have d1 : decide (i + 4 ≤ j) = true := by simpa using e3
            have f1 : (p == q) = false := by simpa using e1
            have d3 : decide (0 ≤ i) = true := by simp; omega
            have d4 : decide (i ≤ 60) = true := by simp; omega
            go_upto_region 16 with (go_at_call 43; refine (TA.out _).mono ?_; rintro e w1 ⟨rfl, hb⟩; have X := hR.step hb; clear hb hR hc hz; have hR := X; clear X; obtain ⟨hc, hz⟩ := hR.box)
            go_wp2_with (first | (go_at_call 43; refine (TB.out _).mono ?_; rintro e w1 ⟨rfl, hb⟩; have X := hR.step hb; clear hb hR hc hz; have hR := X; clear X; obtain ⟨hc, hz⟩ := hR.box) | (go_at_call 35; refine (WH.out _).mono ?_; rintro e w1 ⟨rfl, hb⟩; have X := hR.step hb; clear hb hR hc hz; have hR := X; clear X; obtain ⟨hc, hz⟩ := hR.box))
            go_ret
            exact ⟨ret_bool (by simp [e1, e3]), hR.below⟩
          · subst e2
            have d1 : decide (i + 4 ≤ j) = false := by simp; omega
            have d2 : decide (j + 4 ≤ i) = true := by simpa using e3
            have f1 : (p == q) = false := by simpa using e1
            have d3 : decide (0 ≤ i) = true := by simp; omega
            have d4 : decide (i ≤ 60) = true := by simp; omega
            go_upto_region 16 with (go_at_call 43; refine (TA.out _).mono ?_; rintro e w1 ⟨rfl, hb⟩; have X := hR.step hb; clear hb hR hc hz; have hR := X; clear X; obtain ⟨hc, hz⟩ := hR.box)
            go_wp2_with (first | (go_at_call 43; refine (TB.out _).mono ?_; rintro e w1 ⟨rfl, hb⟩; have X := hR.step hb; clear hb hR hc hz; have hR := X; clear X; obtain ⟨hc, hz⟩ := hR.box) | (go_at_call 35; refine (WH.out _).mono ?_; rintro e w1 ⟨rfl, hb⟩; have X := hR.step hb; clear hb hR hc hz; have hR := X; clear X; obtain ⟨hc, hz⟩ := hR.box))
            go_ret
            exact ⟨ret_bool (by simp [e1, e3]), hR.below⟩
        · rw [if_neg hpa] at hb0 ⊢
          rcases hm with ⟨e1, e2, e3⟩ | ⟨e1, e2⟩ | ⟨e1, e2, e3⟩ | ⟨e1, e2, e3⟩
          · subst e1 e2 e3
            have d1 : decide (i + 4 ≤ i) = false := by simp; omega
            have d3 : decide (0 ≤ i) = true := by simp; omega
            have d4 : decide (i ≤ 60) = true := by simp; omega
            go_upto_region 16 with (go_at_call 43; refine (TA.out _).mono ?_; rintro e w1 ⟨rfl, hb⟩; have X := hR.step hb; clear hb hR hc hz; have hR := X; clear X; obtain ⟨hc, hz⟩ := hR.box)
            go_wp2_with (first | (go_at_call 43; refine (TB.out _).mono ?_; rintro e w1 ⟨rfl, hb⟩; have X := hR.step hb; clear hb hR hc hz; have hR := X; clear X; obtain ⟨hc, hz⟩ := hR.box) | (go_at_call 35; refine (WH.out _).mono ?_; rintro e w1 ⟨rfl, hb⟩; have X := hR.step hb; clear hb hR hc hz; have hR := X; clear X; obtain ⟨hc, hz⟩ := hR.box))
            go_ret
            exact ⟨ret_bool (by rfl), hR.below⟩
          · have f1 : (p == q) = false := by simpa using e1
            have f2 : (s == t) = false := by simpa using e2
            have d3 : decide (0 ≤ i) = true := by simp; omega
            have d4 : decide (i ≤ 60) = true := by simp; omega
            go_upto_region 16 with (go_at_call 43; refine (TA.out _).mono ?_; rintro e w1 ⟨rfl, hb⟩; have X := hR.step hb; clear hb hR hc hz; have hR := X; clear X; obtain ⟨hc, hz⟩ := hR.box)
            go_wp2_with (first | (go_at_call 43; refine (TB.out _).mono ?_; rintro e w1 ⟨rfl, hb⟩; have X := hR.step hb; clear hb hR hc hz; have hR := X; clear X; obtain ⟨hc, hz⟩ := hR.box) | (go_at_call 35; refine (WH.out _).mono ?_; rintro e w1 ⟨rfl, hb⟩; have X := hR.step hb; clear hb hR hc hz; have hR := X; clear X; obtain ⟨hc, hz⟩ := hR.box))
            go_ret
            exact ⟨ret_bool (by simp [e1]), hR.below⟩
          · subst e2
            have d1 : decide (i + 4 ≤ j) = true := by simpa using e3
            have f1 : (p == q) = false := by simpa using e1
            have d3 : decide (0 ≤ i) = true := by simp; omega
            have d4 : decide (i ≤ 60) = true := by simp; omega
            go_upto_region 16 with (go_at_call 43; refine (TA.out _).mono ?_; rintro e w1 ⟨rfl, hb⟩; have X := hR.step hb; clear hb hR hc hz; have hR := X; clear X; obtain ⟨hc, hz⟩ := hR.box)
            go_wp2_with (first | (go_at_call 43; refine (TB.out _).mono ?_; rintro e w1 ⟨rfl, hb⟩; have X := hR.step hb; clear hb hR hc hz; have hR := X; clear X; obtain ⟨hc, hz⟩ := hR.box) | (go_at_call 35; refine (WH.out _).mono ?_; rintro e w1 ⟨rfl, hb⟩; have X := hR.step hb; clear hb hR hc hz; have hR := X; clear X; obtain ⟨hc, hz⟩ := hR.box))
            go_ret
            exact ⟨ret_bool (by simp [e1, e3]), hR.below⟩
          · subst e2
            have d1 : decide (i + 4 ≤ j) = false := by simp; omega
            have d2 : decide (j + 4 ≤ i) = true := by simpa using e3
            have f1 : (p == q) = false := by simpa using e1
            have d3 : decide (0 ≤ i) = true := by simp; omega
            have d4 : decide (i ≤ 60) = true := by simp; omega
            go_upto_region 16 with (go_at_call 43; refine (TA.out _).mono ?_; rintro e w1 ⟨rfl, hb⟩; have X := hR.step hb; clear hb hR hc hz; have hR := X; clear X; obtain ⟨hc, hz⟩ := hR.box)
            go_wp2_with (first | (go_at_call 43; refine (TB.out _).mono ?_; rintro e w1 ⟨rfl, hb⟩; have X := hR.step hb; clear hb hR hc hz; have hR := X; clear X; obtain ⟨hc, hz⟩ := hR.box) | (go_at_call 35; refine (WH.out _).mono ?_; rintro e w1 ⟨rfl, hb⟩; have X := hR.step hb; clear hb hR hc hz; have hR := X; clear X; obtain ⟨hc, hz⟩ := hR.box))
            go_ret
            exact ⟨ret_bool (by simp [e1, e3]), hR.below⟩
  · rw [show gregions a b c = 0 by rw [gregions, if_neg hg]] at R1
    have R0 := Lib.hid R1
    clear R1 hg
    go_enter Try.func8, Try.ntmps8
    go_wp2_with fail
    all_goals obtain ⟨hB, hc, hz⟩ := start_facts w #[.int .i64 a, .int .i64 b, .int .i64 c] 32
    all_goals generalize World.alloc w (.cells #[.int .i64 a, .int .i64 b, .int .i64 c] 32) = w0 at *
    go_wp2_with (first | (go_at_call 32; refine (works03 _).mono ?_; rintro e w1 ⟨rfl, hb⟩; have X := adv hB hb hc hz; clear hB hb hc hz; obtain ⟨hB, hc, hz⟩ := X) | (go_at_call 40; refine (R0.out _).mono ?_; rintro e w1 ⟨rfl, hb⟩; have X := adv hB hb hc hz; clear hB hb hc hz; obtain ⟨hB, hc, hz⟩ := X))
    go_ret
    exact ⟨rfl, hB⟩
end Cw
