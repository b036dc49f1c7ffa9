/- FieldBack answers true. -/
import Derived.Test.YtcfdgmkckibieaaBackLaw
import Derived.Deep.DeepCutAuto
import Derived.RegionTactic
namespace Cw
open Go Go.RowKit Go.IntWalk
open Go.Proofs

theorem pok_fwide {off n : Int} (h : n = 1 ∨ n = 2 ∨ n = 4) (h0 : 0 ≤ off) (h1 : off ≤ 64 - n) : gete 64 off n = 0 := by
  rw [gete, if_neg (by omega), if_pos]
  exact ⟨by simpa [fwide] using h, by simp [finside]; omega⟩

theorem pow_cast (k : Nat) : ((256 ^ k : Nat) : Int) = (256 : Int) ^ k := Int.natCast_pow 256 k
theorem back_one (t : ByteArray) (xo xb n : Int) (zt : t.size = 64) (hp : Pok xo xb n) : okp (xo, S (le xb.toNat n.toNat)) = true ∧ (S (one t.data.toList (xo, S (le xb.toNat n.toNat)))).size = 64 ∧
    ((numAt (S (one t.data.toList (xo, S (le xb.toNat n.toNat)))) xo.toNat xb.toNat : Nat) : Int) = n ∧ (S (le xb.toNat n.toNat)).size = xb.toNat := by
  obtain ⟨h1, h2, h3, h4, h5⟩ := hp
  have hz : (S (le xb.toNat n.toNat)).size = xb.toNat := by rw [S_size, le_length]
  have hok : okp (xo, S (le xb.toNat n.toNat)) = true := by
    simp only [okp, finside, hz]
    simp
    omega
  refine ⟨hok, ?_, ?_, hz⟩
  · rw [S_size, one_length _ _ zt hok]
  · have h := numAt_same t.data.toList (xo, S (le xb.toNat n.toNat)) zt hok
    simp only [hz] at h
    rw [h, S_data, num_le _ _ (by
      have h6 : (n.toNat : Int) < ((256 ^ xb.toNat : Nat) : Int) := by
        rw [Int.toNat_of_nonneg h4, pow_cast]
        exact h5
      exact Int.ofNat_lt.1 h6)]
    omega

theorem back_far (t : ByteArray) (p : Pt) (zt : t.size = 64) (hp : okp p = true) (yo yb : Int) (hy : gete 64 yo yb = 0) : Pok yo yb (numAt t yo.toNat yb.toNat : Nat) ∧
    (∀ q : ByteArray, q.size = yb.toNat → both p (yo, q) = false → numAt t yo.toNat yb.toNat = numAt (S (one t.data.toList p)) yo.toNat yb.toNat) := by
  rcases gete_cases 64 yo yb with ⟨_, _, h1, h2, h3⟩ | ⟨e, h⟩ | ⟨e, _⟩
  · refine ⟨⟨h1, h2, h3, by omega, ?_⟩, ?_⟩
    · have := numAt_max t yo.toNat yb.toNat
      have h6 : ((numAt t yo.toNat yb.toNat : Nat) : Int) < ((256 ^ yb.toNat : Nat) : Int) := Int.ofNat_lt.2 this
      rw [pow_cast] at h6
      exact h6
    · intro q hq hb
      have hpk := okp_iff hp
      have h7 : ¬ max p.1 yo < min (p.1 + p.2.size) (yo + q.size) := by simpa [both] using hb
      rw [numAt_apart t.data.toList p zt hp _ _ (by omega), numAt]
  · omega
  · omega

theorem arr_start (w : World) (a b c d : Value) (T : TypeId) : (let w0 := w.alloc (.cells #[a, b, c, d] T); w0.cell? ⟨w.heap.size, 0, none⟩ = some a ∧ w0.cell? ⟨w.heap.size, 1, none⟩ = some b ∧ w0.cell? ⟨w.heap.size, 2, none⟩ = some c ∧ w0.cell? ⟨w.heap.size, 3, none⟩ = some d ∧ w.heap.size < w0.heap.size ∧ Below w.heap.size w w0) := by
  have h := fun o => cell_of_row _ w.heap.size o #[a, b, c, d] T (0, 0) (heap_alloc_new w _)
  exact ⟨h 0, h 1, h 2, h 3, by simp, below_alloc (Below.refl _ _) _⟩

set_option maxRecDepth 100000 in
set_option maxHeartbeats 1000000 in
theorem fieldBack_true (s : ByteArray) (xo xb yo yb n : Int) (hs : s.size ≤ 9223372036854775807) (w : World) : Calls Try.prog 11 #[.string s, .agg #[.int .i64 xo, .int .i64 xb, .int .i64 yo, .int .i64 yb], .int .i64 n] w fun e w' => e = .returned (.bool true) ∧ Below w.heap.size w w' := by
  have zt := fit_size s
  have F1 := Lib.hid (fit_any s hs)
  generalize fit s = t at *
  have P1 := put_any xo xb n
  obtain ⟨a0, a1, a2, a3, hz, hB⟩ := arr_start w (.int .i64 xo) (.int .i64 xb) (.int .i64 yo) (.int .i64 yb) 54
  go_enter Try.func11, Try.ntmps11
  go_upto_region 1 with fail
  generalize World.alloc w _ = w0 at *
  go_cut [7, 8] (fun s7 s8 wx => ∃ g h : Nat, s7 = .pointer (some ⟨g, 0, none⟩) ∧ s8 = .pointer (some ⟨h, 0, none⟩) ∧ two wx g (.int .i64 xo) (.int .i64 xb) ∧ two wx h (.int .i64 yo) (.int .i64 yb) ∧ Below w.heap.size w wx)
  case first =>
    go_region
    all_goals (go_wp2_with fail; go_meet; first | (obtain ⟨u1, u2, u3⟩ := over_start w0 (.int .i64 xo) (.int .i64 xb) (.int .i64 yo) (.int .i64 yb) 23; exact ⟨_, _, rfl, rfl, u1, u2, (below_step u3 hB.size hB).drew⟩) | (obtain ⟨u1, u2, u3⟩ := over_start w0 (.int .i64 yo) (.int .i64 yb) (.int .i64 xo) (.int .i64 xb) 23; exact ⟨_, _, rfl, rfl, u2, u1, (below_step u3 hB.size hB).drew⟩))
  case rest =>
    clear a0 a1 a2 a3 hz hB
    obtain ⟨g, h, rfl, rfl, hX, hY, hB⟩ := hcut
    have x0 := hX.1
    have x1 := hX.2.1
    have y0 := hY.1
    have y1 := hY.2.1
    go_wp2_with fail
    (refine (works_any _).mono ?_; rintro e w1 ⟨rfl, hb⟩; have hX' := two_step hX hb; have hY' := two_step hY hb; have hB' := below_step hb hB.size hB; clear hX hY hB x0 x1 y0 y1 hb; have hX := hX'; have hY := hY'; have hB := hB'; clear hX' hY' hB'; have x0 := hX.1; have x1 := hX.2.1; have y0 := hY.1; have y1 := hY.2.1)
    go_wp2_with fail
    (refine (F1.out _).mono ?_; rintro e w1 ⟨rfl, hb⟩; have hX' := two_step hX hb; have hY' := two_step hY hb; have hB' := below_step hb hB.size hB; clear hX hY hB x0 x1 y0 y1 hb; have hX := hX'; have hY := hY'; have hB := hB'; clear hX' hY' hB'; have x0 := hX.1; have x1 := hX.2.1; have y0 := hY.1; have y1 := hY.2.1)
    by_cases hp : Pok xo xb n
    · have e1 : pute xo xb n = 0 := by rw [pute, if_pos hp]
      have e2 : putoff xo xb n = xo := by rw [putoff, if_pos hp]
      have e3 : putb xo xb n = le xb.toNat n.toNat := by rw [putb, if_pos hp]
      rw [e1, e2, e3] at P1
      unfold patch at P1
      have P1' := Lib.hid P1
      obtain ⟨hok, zu, hn, hsz⟩ := back_one t xo xb n zt hp
      have hge := pok_fwide hp.1 hp.2.1 hp.2.2.1
      have hfar := back_far t (xo, S (le xb.toNat n.toNat)) zt hok yo yb
      have HP1 := fun (w : World) => patched_any t _ [(xo, S (le xb.toNat n.toNat))] (by simp only [List.mem_singleton]; rintro p rfl; simp only; have := okp_iff hok; simp only at this; omega) (by omega) _ (sl_one w (xo, S (le xb.toNat n.toNat)) 25)
      obtain ⟨f1, f2⟩ := pt_ok t [(xo, S (le xb.toNat n.toNat))] zt (by simp) (by simp [hok])
      rw [f1, f2, show patchAll t.data.toList [(xo, S (le xb.toNat n.toNat))] = one t.data.toList (xo, S (le xb.toNat n.toNat)) from rfl] at HP1
      have HP2 := Lib.hid HP1
      have zq : (S (le xb.toNat n.toNat)).size ≤ 9223372036854775807 := by have := okp_iff hok; simp only at this; omega
      have hO := fun q hq => over_any (xo, S (le xb.toNat n.toNat)) (yo, q) zq hq
      have G1 := get_any (S (one t.data.toList (xo, S (le xb.toNat n.toNat)))) xo xb (by omega)
      have g1 : gete ((S (one t.data.toList (xo, S (le xb.toNat n.toNat)))).size : Int) xo xb = 0 := by rw [zu]; exact hge
      have g2 : getn (S (one t.data.toList (xo, S (le xb.toNat n.toNat)))) xo xb = numAt (S (one t.data.toList (xo, S (le xb.toNat n.toNat)))) xo.toNat xb.toNat := by rw [getn, if_pos g1]
      rw [g1, g2, hn] at G1
      have G1' := Lib.hid G1
      have G2 := get_any t yo yb (by omega)
      have G3 := get_any (S (one t.data.toList (xo, S (le xb.toNat n.toNat)))) yo yb (by omega)
      have k1 : gete (t.size : Int) yo yb = gete 64 yo yb := by rw [zt]; rfl
      have k2 : gete ((S (one t.data.toList (xo, S (le xb.toNat n.toNat)))).size : Int) yo yb = gete 64 yo yb := by rw [zu]; rfl
      have k3 : getn t yo yb = if gete 64 yo yb = 0 then numAt t yo.toNat yb.toNat else 0 := by rw [getn, k1]
      have k4 : getn (S (one t.data.toList (xo, S (le xb.toNat n.toNat)))) yo yb = if gete 64 yo yb = 0 then numAt (S (one t.data.toList (xo, S (le xb.toNat n.toNat)))) yo.toNat yb.toNat else 0 := by rw [getn, k2]
      rw [k1, k3] at G2
      rw [k2, k4] at G3
      have lz : (((S (one t.data.toList (xo, S (le xb.toNat n.toNat)))).size : Int) != 64) = false := by rw [zu]; rfl
      clear P1 HP1 f1 f2 g1 g2 k1 k2 k3 k4 hge hn G1 e1 e2 e3 hsz zu
      by_cases hy : gete 64 yo yb = 0
      · obtain ⟨pk2, hap⟩ := hfar hy
        rw [hy, if_pos rfl] at G2 G3
        have G2' := Lib.hid G2
        have G3' := Lib.hid G3
        have P2 := put_any yo yb (numAt t yo.toNat yb.toNat : Nat)
        have e1 : pute yo yb (numAt t yo.toNat yb.toNat : Nat) = 0 := by rw [pute, if_pos pk2]
        have e2 : putoff yo yb (numAt t yo.toNat yb.toNat : Nat) = yo := by rw [putoff, if_pos pk2]
        have e3 : putb yo yb (numAt t yo.toNat yb.toNat : Nat) = le yb.toNat (numAt t yo.toNat yb.toNat) := by rw [putb, if_pos pk2]; rfl
        rw [e1, e2, e3] at P2
        unfold patch at P2
        have P2' := Lib.hid P2
        have sz2 : (S (le yb.toNat (numAt t yo.toNat yb.toNat))).size = yb.toNat := by rw [S_size, le_length]
        obtain ⟨y1', y2', y3', y4', y5'⟩ := pk2
        have ok2 : okp (yo, S (le yb.toNat (numAt t yo.toNat yb.toNat))) = true := by
          simp only [okp, finside, sz2]
          simp
          omega
        have O1 := hO (S (le yb.toNat (numAt t yo.toNat yb.toNat))) (by simp only [sz2]; omega)
        have o1 : ove (xo, S (le xb.toNat n.toNat)) (yo, S (le yb.toNat (numAt t yo.toNat yb.toNat))) = 0 := by rw [ove, if_pos ⟨hok, ok2⟩]
        have o2 : ovb (xo, S (le xb.toNat n.toNat)) (yo, S (le yb.toNat (numAt t yo.toNat yb.toNat))) = both (xo, S (le xb.toNat n.toNat)) (yo, S (le yb.toNat (numAt t yo.toNat yb.toNat))) := by rw [ovb, if_pos o1]
        rw [o1, o2] at O1
        have hap2 := hap _ sz2
        have O1' := Lib.hid O1
        clear G2 G3 P2 e1 e2 e3 sz2 ok2 O1 o1 o2 hap hO hfar hy y1' y2' y3' y4' y5' hp hok
        generalize S (le yb.toNat (numAt t yo.toNat yb.toNat)) = q2 at *
        generalize S (one t.data.toList (xo, S (le xb.toNat n.toNat))) = u at *
        generalize S (le xb.toNat n.toNat) = q1 at *
        generalize numAt t yo.toNat yb.toNat = A at *
        generalize numAt u yo.toNat yb.toNat = B at *
        generalize both (xo, q1) (yo, q2) = v at *
        simp only at HP2 O1'
        have hv : (v || (A : Int) == (B : Int)) = true := by
          cases v
          · have := hap2 rfl
            subst this
            simp
          · rfl
        have hv2 : v = true ∨ (v = false ∧ A = B) := by
          cases v
          · exact .inr ⟨rfl, hap2 rfl⟩
          · exact .inl rfl
        clear hap2 hv
        go_wp2_with fail
        refine (P1'.out _).mono ?_
        rintro e w2 ⟨rfl, hb⟩
        have hX' := two_alloc (two_alloc (two_step hX hb) (.cells #[.int .i64 xo, .string q1] 25)) (.cells #[.int .i64 xo, .string q1] 25)
        have hY' := two_alloc (two_alloc (two_step hY hb) (.cells #[.int .i64 xo, .string q1] 25)) (.cells #[.int .i64 xo, .string q1] 25)
        have hP := two_alloc (two_new w2 (.int .i64 xo) (.string q1) 25) (.cells #[.int .i64 xo, .string q1] 25)
        have hB' := below_alloc (below_alloc (below_step hb hB.size hB) (.cells #[.int .i64 xo, .string q1] 25)) (.cells #[.int .i64 xo, .string q1] 25)
        clear hX hY hB x0 x1 y0 y1 hb
        go_wp2_with fail
        have HP3 := HP2.out (w2.alloc (.cells #[.int .i64 xo, .string q1] 25))
        rw [show (w2.alloc (.cells #[.int .i64 xo, .string q1] 25)).heap.size = w2.heap.size + 1 by simp] at HP3
        refine HP3.mono ?_
        clear HP3
        rintro e w3 ⟨rfl, hb⟩
        have hX := two_step hX' hb
        have hY := two_step hY' hb
        have hQ := two_step hP hb
        have hB := below_step hb hB'.size hB'
        clear hX' hY' hP hB' hb
        have hP := hQ
        clear hQ
        have x0 := hX.1
        have x1 := hX.2.1
        have y0 := hY.1
        have y1 := hY.2.1
        have p0 := hP.1
        have p1 := hP.2.1
        go_wp2_with fail
        (refine (G1'.out _).mono ?_; rintro e w1 ⟨rfl, hb⟩; have hX' := two_step hX hb; have hY' := two_step hY hb; have hP' := two_step hP hb; have hB' := below_step hb hB.size hB; clear hX hY hP hB x0 x1 y0 y1 p0 p1 hb; have hX := hX'; have hY := hY'; have hP := hP'; have hB := hB'; clear hX' hY' hP' hB'; have x0 := hX.1; have x1 := hX.2.1; have y0 := hY.1; have y1 := hY.2.1; have p0 := hP.1; have p1 := hP.2.1)
        go_wp2_with fail
        (refine (G2'.out _).mono ?_; rintro e w1 ⟨rfl, hb⟩; have hX' := two_step hX hb; have hY' := two_step hY hb; have hP' := two_step hP hb; have hB' := below_step hb hB.size hB; clear hX hY hP hB x0 x1 y0 y1 p0 p1 hb; have hX := hX'; have hY := hY'; have hP := hP'; have hB := hB'; clear hX' hY' hP' hB'; have x0 := hX.1; have x1 := hX.2.1; have y0 := hY.1; have y1 := hY.2.1; have p0 := hP.1; have p1 := hP.2.1)
        go_wp2_with fail
        (refine (G3'.out _).mono ?_; rintro e w1 ⟨rfl, hb⟩; have hX' := two_step hX hb; have hY' := two_step hY hb; have hP' := two_step hP hb; have hB' := below_step hb hB.size hB; clear hX hY hP hB x0 x1 y0 y1 p0 p1 hb; have hX := hX'; have hY := hY'; have hP := hP'; have hB := hB'; clear hX' hY' hP' hB'; have x0 := hX.1; have x1 := hX.2.1; have y0 := hY.1; have y1 := hY.2.1; have p0 := hP.1; have p1 := hP.2.1)
        go_wp2_with fail
        refine (P2'.out _).mono ?_
        rintro e w4 ⟨rfl, hb⟩
        have hP' := two_alloc (two_step hP hb) (.cells #[.int .i64 yo, .string q2] 25)
        have hQ := two_new w4 (.int .i64 yo) (.string q2) 25
        have hB' := below_alloc (below_step hb hB.size hB) (.cells #[.int .i64 yo, .string q2] 25)
        clear hX hY hB x0 x1 y0 y1 p0 p1 hb hP
        have p0 := hP'.1
        have p1 := hP'.2.1
        go_wp2_with fail
        refine (O1'.out _).mono ?_
        rintro e w5 ⟨rfl, hb⟩
        have hB := below_step hb hB'.size hB'
        clear hP' hQ p0 p1 hB' hb
        rcases hv2 with rfl | ⟨rfl, rfl⟩
        · go_wp2_with fail
          go_ret
          exact ⟨rfl, hB⟩
        · go_wp2_with fail
          go_ret
          exact ⟨rfl, hB⟩
      · rw [if_neg hy] at G2 G3
        have G2' := Lib.hid G2
        have G3' := Lib.hid G3
        have b1 : (gete 64 yo yb != 0) = true := by simpa using hy
        have b2 : (gete 64 yo yb != gete 64 yo yb) = false := by simp
        clear G2 G3 hO hfar hy hp hok
        generalize S (one t.data.toList (xo, S (le xb.toNat n.toNat))) = u at *
        generalize S (le xb.toNat n.toNat) = q1 at *
        generalize gete 64 yo yb = ge at *
        simp only at HP2
        go_wp2_with fail
        refine (P1'.out _).mono ?_
        rintro e w2 ⟨rfl, hb⟩
        have hX' := two_alloc (two_alloc (two_step hX hb) (.cells #[.int .i64 xo, .string q1] 25)) (.cells #[.int .i64 xo, .string q1] 25)
        have hY' := two_alloc (two_alloc (two_step hY hb) (.cells #[.int .i64 xo, .string q1] 25)) (.cells #[.int .i64 xo, .string q1] 25)
        have hB' := below_alloc (below_alloc (below_step hb hB.size hB) (.cells #[.int .i64 xo, .string q1] 25)) (.cells #[.int .i64 xo, .string q1] 25)
        clear hX hY hB x0 x1 y0 y1 hb
        go_wp2_with fail
        have HP3 := HP2.out (w2.alloc (.cells #[.int .i64 xo, .string q1] 25))
        rw [show (w2.alloc (.cells #[.int .i64 xo, .string q1] 25)).heap.size = w2.heap.size + 1 by simp] at HP3
        refine HP3.mono ?_
        clear HP3
        rintro e w3 ⟨rfl, hb⟩
        have hX := two_step hX' hb
        have hY := two_step hY' hb
        have hB := below_step hb hB'.size hB'
        clear hX' hY' hB' hb
        have x0 := hX.1
        have x1 := hX.2.1
        have y0 := hY.1
        have y1 := hY.2.1
        go_wp2_with fail
        (refine (G1'.out _).mono ?_; rintro e w1 ⟨rfl, hb⟩; have hX' := two_step hX hb; have hY' := two_step hY hb; have hB' := below_step hb hB.size hB; clear hX hY hB x0 x1 y0 y1 hb; have hX := hX'; have hY := hY'; have hB := hB'; clear hX' hY' hB'; have x0 := hX.1; have x1 := hX.2.1; have y0 := hY.1; have y1 := hY.2.1)
        go_wp2_with fail
        (refine (G2'.out _).mono ?_; rintro e w1 ⟨rfl, hb⟩; have hX' := two_step hX hb; have hY' := two_step hY hb; have hB' := below_step hb hB.size hB; clear hX hY hB x0 x1 y0 y1 hb; have hX := hX'; have hY := hY'; have hB := hB'; clear hX' hY' hB'; have x0 := hX.1; have x1 := hX.2.1; have y0 := hY.1; have y1 := hY.2.1)
        go_wp2_with fail
        (refine (G3'.out _).mono ?_; rintro e w1 ⟨rfl, hb⟩; have hX' := two_step hX hb; have hY' := two_step hY hb; have hB' := below_step hb hB.size hB; clear hX hY hB x0 x1 y0 y1 hb; have hX := hX'; have hY := hY'; have hB := hB'; clear hX' hY' hB'; have x0 := hX.1; have x1 := hX.2.1; have y0 := hY.1; have y1 := hY.2.1)
        go_wp2_with fail
        go_ret
        exact ⟨rfl, hB⟩
    · have e1 : pute xo xb n = 1 := by rw [pute, if_neg hp]
      have e2 : putoff xo xb n = 0 := by rw [putoff, if_neg hp]
      have e3 : putb xo xb n = [] := by rw [putb, if_neg hp]
      rw [e1, e2, e3] at P1
      have P1' := Lib.hid (show ∀ w : World, Calls Try.prog 12 #[.int .i64 xo, .int .i64 xb, .int .i64 n] w fun e w' => e = .returned (.tuple #[.agg #[.int .i64 0, .string ⟨#[]⟩], .int .i64 1]) ∧ Below w.heap.size w w' from P1)
      clear P1 e1 e2 e3
      go_wp2_with fail
      (refine (P1'.out _).mono ?_; rintro e w1 ⟨rfl, hb⟩; have hX' := two_step hX hb; have hY' := two_step hY hb; have hB' := below_step hb hB.size hB; clear hX hY hB x0 x1 y0 y1 hb; have hX := hX'; have hY := hY'; have hB := hB'; clear hX' hY' hB'; have x0 := hX.1; have x1 := hX.2.1; have y0 := hY.1; have y1 := hY.2.1)
      go_wp2_with fail
      go_ret
      exact ⟨rfl, below_alloc hB _⟩
end Cw
