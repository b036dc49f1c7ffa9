/- TableApart answers true. -/
import Derived.Test.YtgigbkgdbhikmaaTableW
import Derived.Test.YtgigbkgdbhikmaaOverW
import Derived.Deep.DeepCutAuto
import Derived.Deep.RegionHeld3
namespace Cw
open Go Go.RowKit Go.IntWalk
open Go.Proofs

theorem tex : tps 1 2 3 1 1 258 = 2 ∧ (tpp 1 2 3 1 1 258).1 = 4 ∧ (tpp 1 2 3 1 1 258).2 = ⟨#[1, 2, 1, 0]⟩ ∧ tpe 1 2 3 1 1 258 = 0 := by decide +kernel

set_option maxRecDepth 100000 in
set_option maxHeartbeats 400000 in
theorem tworks_any (w : World) : Calls Try.prog 28 #[] w fun e w' => e = .returned (.bool true) ∧ Below w.heap.size w w' := by
  have h := tput_any 1 2 3 1 1 258
  rw [tex.1, tex.2.1, tex.2.2.1, tex.2.2.2] at h
  have H := Lib.hid h
  clear h
  go_enter Try.func28, Try.ntmps28
  go_wp2_with fail
  refine (H.out _).mono ?_
  rintro e w1 ⟨rfl, hb⟩
  have hB := below_alloc hb (.cells #[.int .i64 4, .string ⟨#[1, 2, 1, 0]⟩] 39)
  go_wp2_with fail
  go_ret
  exact ⟨rfl, below_alloc hb _⟩

theorem two_both (w : World) (a b c d : Value) (T : TypeId) : two ((w.alloc (.cells #[a, b] T)).alloc (.cells #[c, d] T)) w.heap.size a b ∧ two ((w.alloc (.cells #[a, b] T)).alloc (.cells #[c, d] T)) (w.heap.size + 1) c d ∧
    Below w.heap.size w ((w.alloc (.cells #[a, b] T)).alloc (.cells #[c, d] T)) := over_start w a b c d T

theorem blk_two {w : World} {g : Nat} {a b : Value} {T : TypeId} (h : w.heap[g]? = some (.cells #[a, b] T (0, 0))) : two w g a b := ⟨blk_cell h 0, blk_cell h 1, blk_lt h⟩
/-- A block of three cells. -/
def three (w : World) (g : Nat) (a b c : Value) : Prop := w.cell? ⟨g, 0, none⟩ = some a ∧ w.cell? ⟨g, 1, none⟩ = some b ∧ w.cell? ⟨g, 2, none⟩ = some c ∧ g < w.heap.size
theorem three_step {w w1 : World} {g : Nat} {a b c : Value} (h : three w g a b c) (hb : Below w.heap.size w w1) : three w1 g a b c :=
  ⟨(hb.cell (p := ⟨g, 0, none⟩) h.2.2.2).trans h.1, (hb.cell (p := ⟨g, 1, none⟩) h.2.2.2).trans h.2.1, (hb.cell (p := ⟨g, 2, none⟩) h.2.2.2).trans h.2.2.1, Nat.lt_of_lt_of_le h.2.2.2 hb.size⟩
theorem blk_three {w : World} {g : Nat} {a b c : Value} {T : TypeId} (h : w.heap[g]? = some (.cells #[a, b, c] T (0, 0))) : three w g a b c := ⟨blk_cell h 0, blk_cell h 1, blk_cell h 2, blk_lt h⟩

set_option maxRecDepth 100000 in
set_option maxHeartbeats 2000000 in
theorem tableApart_true (a b c ra oa rb ob : Int) (w : World) : Calls Try.prog 5 #[geo a b c, .agg #[.int .i64 ra, .int .i64 oa], .agg #[.int .i64 rb, .int .i64 ob]] w fun e w' => e = .returned (.bool true) ∧ Below w.heap.size w w' := by
  obtain ⟨hG0, hX0, hY0, hB⟩ := three_new w #[.int .i64 a, .int .i64 b, .int .i64 c] #[.int .i64 ra, .int .i64 oa] #[.int .i64 rb, .int .i64 ob] 32 34 34
  have hG := blk_three hG0
  have hX := blk_two hX0
  have hY := blk_two hY0
  have A1 := Lib.hid (fun w => among_any oa 3 (by decide) (by decide) w)
  have A2 := Lib.hid (fun w => among_any ob 3 (by decide) (by decide) w)
  have P1 := Lib.hid (tput_any a b c ra (oa % 3) 5)
  have P2 := Lib.hid (tput_any a b c rb (ob % 3) 9)
  clear hG0 hX0 hY0
  have hl : tpe a b c ra (oa % 3) 5 = 0 → tpe a b c rb (ob % 3) 9 = 0 → (decide (tps a b c ra (oa % 3) 5 = tps a b c rb (ob % 3) 9) && both (tpp a b c ra (oa % 3) 5) (tpp a b c rb (ob % 3) 9)) = decide (ra = rb) ∧ okp (tpp a b c ra (oa % 3) 5) = true ∧ okp (tpp a b c rb (ob % 3) 9) = true := fun h1 h2 => ⟨lease_both h1 h2, okp_lease h1, okp_lease h2⟩
  have HL := Lib.hid hl
  clear hl
  generalize tpp a b c ra (oa % 3) 5 = p1 at *
  generalize tpp a b c rb (ob % 3) 9 = p2 at *
  generalize tpe a b c ra (oa % 3) 5 = e1 at *
  generalize tpe a b c rb (ob % 3) 9 = e2 at *
  generalize tps a b c ra (oa % 3) 5 = s1 at *
  generalize tps a b c rb (ob % 3) 9 = s2 at *
  generalize oa % 3 = oa' at *
  generalize ob % 3 = ob' at *
  obtain ⟨q1, t1⟩ := p1
  obtain ⟨q2, t2⟩ := p2
  simp only at P1 P2
  go_enter Try.func5, Try.ntmps5
  go_wp2_with fail
  generalize World.alloc (World.alloc (World.alloc w _) _) _ = w0 at *
  refine (tworks_any _).mono ?_
  rintro e w1 ⟨rfl, hb⟩
  have hG1 := three_step hG hb
  have hX1 := two_step hX hb
  have hY1 := two_step hY hb
  have hB1 := below_step hb hB.size hB
  clear hb hG hX hY hB
  have x0 := hX1.1
  have x1 := hX1.2.1
  have y0 := hY1.1
  have y1 := hY1.2.1
  go_upto_region 3 with fail
  go_cut [7, 8] (fun s7 s8 wx => ∃ g h : Nat, s7 = .pointer (some ⟨g, 0, none⟩) ∧ s8 = .pointer (some ⟨h, 0, none⟩) ∧ two wx g (.int .i64 oa') (.int .i64 5) ∧ two wx h (.int .i64 ob') (.int .i64 9) ∧ Below w1.heap.size w1 wx)
  case first =>
    have n1 := World.new_ne w1 _ x1
    have n2 := World.new_ne w1 _ y1
    go_region_held3 (fun w' => w'.cell? ⟨w.heap.size + 1, 1, none⟩ = some (.int .i64 oa) ∧ w'.cell? ⟨w.heap.size + 1 + 1, 1, none⟩ = some (.int .i64 ob)) (go_keep) (first | (go_at_call 29; (with_reducible refine (A1.out _).mono ?_); rintro e w2 ⟨rfl, rfl⟩) | (go_at_call 29; (with_reducible refine (A2.out _).mono ?_); rintro e w2 ⟨rfl, rfl⟩))
    all_goals (go_wp2_with fail; go_meet; first | (obtain ⟨u1, u2, u3⟩ := over_start w1 (.int .i64 oa') (.int .i64 5) (.int .i64 ob') (.int .i64 9) 37; exact ⟨_, _, rfl, rfl, u1, u2, u3.drew⟩) | (obtain ⟨u1, u2, u3⟩ := over_start w1 (.int .i64 ob') (.int .i64 9) (.int .i64 oa') (.int .i64 5) 37; exact ⟨_, _, rfl, rfl, u2, u1, u3.drew⟩))
  case rest =>
    obtain ⟨g, h, rfl, rfl, hP, hQ, hBw⟩ := hcut
    have hG := three_step hG1 hBw
    have hX := two_step hX1 hBw
    have hY := two_step hY1 hBw
    have hB := below_step hBw hB1.size hB1
    clear hG1 hX1 hY1 hB1 hBw x0 x1 y0 y1
    have g0 := hG.1
    have g1 := hG.2.1
    have g2 := hG.2.2.1
    have x0 := hX.1
    have x1 := hX.2.1
    have p0 := hP.1
    have p1 := hP.2.1
    go_wp2_with fail
    refine (P1.out _).mono ?_
    rintro e w4 ⟨rfl, hb⟩
    have hG1 := three_step (three_step hG hb) (below_alloc (Below.refl _ _) (.cells #[.int .i64 q1, .string t1] 39))
    have hX1 := two_alloc (two_step hX hb) (.cells #[.int .i64 q1, .string t1] 39)
    have hY1 := two_alloc (two_step hY hb) (.cells #[.int .i64 q1, .string t1] 39)
    have hQ1 := two_alloc (two_step hQ hb) (.cells #[.int .i64 q1, .string t1] 39)
    have hR1 := two_new w4 (.int .i64 q1) (.string t1) 39
    have hB1 := below_alloc (below_step hb hB.size hB) (.cells #[.int .i64 q1, .string t1] 39)
    clear hb hG hX hY hQ hP hB g0 g1 g2 x0 x1 p0 p1
    have g0 := hG1.1
    have g1 := hG1.2.1
    have g2 := hG1.2.2.1
    have y0 := hY1.1
    have y1 := hY1.2.1
    have p0 := hQ1.1
    have p1 := hQ1.2.1
    go_wp2_with fail
    refine (P2.out _).mono ?_
    rintro e w5 ⟨rfl, hb⟩
    have hX := two_alloc (two_step hX1 hb) (.cells #[.int .i64 q2, .string t2] 39)
    have hY := two_alloc (two_step hY1 hb) (.cells #[.int .i64 q2, .string t2] 39)
    have hR := two_alloc (two_step hR1 hb) (.cells #[.int .i64 q2, .string t2] 39)
    have hT := two_new w5 (.int .i64 q2) (.string t2) 39
    have hB := below_alloc (below_step hb hB1.size hB1) (.cells #[.int .i64 q2, .string t2] 39)
    clear hb hG1 hX1 hY1 hQ1 hR1 hB1 g0 g1 g2 y0 y1 p0 p1
    by_cases z1 : e1 = 0
    · by_cases z2 : e2 = 0
      · obtain ⟨l1, l2, l3⟩ := HL.out z1 z2
        subst z1 z2
        have k1 := okp_iff l2
        have k2 := okp_iff l3
        have O := over_any (q1, t1) (q2, t2) (by simp only at k1 ⊢; omega) (by simp only at k2 ⊢; omega)
        have o1 : ove (q1, t1) (q2, t2) = 0 := by rw [ove, if_pos ⟨l2, l3⟩]
        have o2 : ovb (q1, t1) (q2, t2) = both (q1, t1) (q2, t2) := by rw [ovb, if_pos o1]
        rw [o1, o2] at O
        have HO := Lib.hid O
        clear O o1 o2 l2 l3 k1 k2 HL
        generalize both (q1, t1) (q2, t2) = ov at *
        have x0 := hX.1
        have x1 := hX.2.1
        have y0 := hY.1
        have y1 := hY.2.1
        have r0 := hR.1
        have r1 := hR.2.1
        have t0 := hT.1
        have t1' := hT.2.1
        go_wp2_with fail
        refine (HO.out _).mono ?_
        rintro e w6 ⟨rfl, hb⟩
        have hX' := two_step hX hb
        have hY' := two_step hY hb
        have hB' := below_step hb hB.size hB
        clear hb hX hY hR hT hB x0 x1 y0 y1 r0 r1 t0 t1'
        have x0 := hX'.1
        have y0 := hY'.1
        have hfin : ∀ b1 b2 : Bool, (s1 == s2) = b1 → (ra == rb) = b2 → (b1 && ov) = b2 := by
          rintro b1 b2 rfl rfl
          have e1 : (s1 == s2) = decide (s1 = s2) := by rw [Bool.eq_iff_iff]; simp
          have e2 : (ra == rb) = decide (ra = rb) := by rw [Bool.eq_iff_iff]; simp
          rw [e1, e2]
          exact l1
        have HF := Lib.hid hfin
        clear hfin l1
        cases c1 : (s1 == s2)
        · cases c2 : (ra == rb)
          · go_wp2_with fail
            go_ret
            exact ⟨rfl, hB'⟩
          · have := HF.out _ _ c1 c2
            simp at this
        · cases ov
          · cases c2 : (ra == rb)
            · go_wp2_with fail
              go_ret
              exact ⟨rfl, hB'⟩
            · have := HF.out _ _ c1 c2
              simp at this
          · cases c2 : (ra == rb)
            · have := HF.out _ _ c1 c2
              simp at this
            · go_wp2_with fail
              go_ret
              exact ⟨rfl, hB'⟩
      · have nz : (e2 != 0) = true := by simpa using z2
        subst z1
        clear HL z2
        go_wp2_with fail
        go_ret
        exact ⟨rfl, hB⟩
    · have nz : (e1 != 0) = true := by simpa using z1
      clear HL z1
      go_wp2_with fail
      go_ret
      exact ⟨rfl, hB⟩
end Cw
