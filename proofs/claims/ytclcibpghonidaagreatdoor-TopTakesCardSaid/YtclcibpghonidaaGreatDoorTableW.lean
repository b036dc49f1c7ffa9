/- What the package table computes, as plain functions; plain laws. No program in sight. -/
import Derived.Test.YtclcibpghonidaaGreatDoorGeoSpec
import Derived.Test.YtclcibpghonidaaGreatDoorFieldW
import Derived.Test.YtclcibpghonidaaGreatDoorGeomW
import Derived.Test.YtclcibpghonidaaGreatDoorWireW
import Derived.RegionTactic
import Derived.Deep.DeepCutAuto
import Derived.Deep.RegionHeld3
namespace Cw
open Go Go.RowKit

def tok (o s : Int) : Bool := decide (0 ≤ o ∧ o ≤ 2 ∧ 0 ≤ s ∧ s ≤ 16777215)
/-- A lease's number. -/
def lv (o s : Int) : Nat := o.toNat + 256 * s.toNat
def tpe (a b c r o s : Int) : Int := if te a b c r ≠ 0 then te a b c r else if tok o s = true then 0 else 80
def tps (a b c r o s : Int) : Int := if tpe a b c r o s = 0 then ts a b c r else 0
def tpp (a b c r o s : Int) : Pt := if tpe a b c r o s = 0 then (toff a b c r, S (le 4 (lv o s))) else (0, ⟨#[]⟩)

theorem tok_iff {o s : Int} (h : tok o s = true) : 0 ≤ o ∧ o ≤ 2 ∧ 0 ≤ s ∧ s ≤ 16777215 := by simpa [tok] using h
theorem lv_lt {o s : Int} (h : tok o s = true) : lv o s < 4294967296 := by
  have := tok_iff h
  unfold lv
  omega
theorem te_ok {a b c r : Int} (h : te a b c r = 0) : Gok a b c ∧ 0 ≤ r ∧ r < gregions a b c ∧ ts a b c r = 2 + r / 16 ∧ toff a b c r = r % 16 * 4 ∧ r ≤ 131 := by
  obtain ⟨h1, h2, h3⟩ := within_ok (a := a) (b := b) (c := c) (n := r) (m := gregions a b c) h
  have := regions_bd a b c
  refine ⟨h1, h2, h3, ?_, ?_, by omega⟩
  · rw [ts, if_neg (by omega)]
  · rw [toff, if_neg (by omega)]
theorem or8 (o s : Nat) (ho : o < 256) (hs : s < 16777216) : bits .or .i64 (o : Int) ((s : Int) * 256) = ((o + 256 * s : Nat) : Int) := by
  rw [show (s : Int) * 256 = ((s * 256 : Nat) : Int) by omega, i64_or_nat _ _ (by omega) (by omega), Nat.or_comm, or_add s o 8 256 rfl ho]
  congr 1
  omega
end Cw
namespace Cw
open Go Go.RowKit Go.IntWalk
open Go.Proofs

set_option maxRecDepth 100000 in
set_option maxHeartbeats 1000000 in
theorem tmay_any (o s : Int) (w : World) : Calls Tryz.prog 120 #[.agg #[.int .i64 o, .int .i64 s]] w fun e w' => e = .returned (.bool (tok o s)) ∧ Below w.heap.size w w' := by
  have hno : ¬ (0 ≤ o ∧ o ≤ 2 ∧ 0 ≤ s ∧ s ≤ 16777215) → tok o s = false := fun h => by simpa [tok] using h
  have hyes : (0 ≤ o ∧ o ≤ 2 ∧ 0 ≤ s ∧ s ≤ 16777215) → tok o s = true := fun h => by simpa [tok] using h
  have HN := Lib.hid hno
  have HY := Lib.hid hyes
  clear hno hyes
  by_cases h1 : 0 ≤ o
  · by_cases h2 : o ≤ 2
    · by_cases h3 : 0 ≤ s
      · by_cases h4 : s ≤ 16777215
        · have hr := Lib.hid (HY.out ⟨h1, h2, h3, h4⟩)
          go_enter Tryz.func120, Tryz.ntmps120
          go_wp2_with fail
          go_ret
          exact ⟨ret_bool hr.out.symm, by go_grown⟩
        · have hr := Lib.hid (HN.out (fun h => by omega))
          go_enter Tryz.func120, Tryz.ntmps120
          go_wp2_with fail
          go_ret
          exact ⟨ret_bool hr.out.symm, by go_grown⟩
      · have hr := Lib.hid (HN.out (fun h => by omega))
        go_enter Tryz.func120, Tryz.ntmps120
        go_wp2_with fail
        go_ret
        exact ⟨ret_bool hr.out.symm, by go_grown⟩
    · have hr := Lib.hid (HN.out (fun h => by omega))
      go_enter Tryz.func120, Tryz.ntmps120
      go_wp2_with fail
      go_ret
      exact ⟨ret_bool hr.out.symm, by go_grown⟩
  · have hr := Lib.hid (HN.out (fun h => by omega))
    go_enter Tryz.func120, Tryz.ntmps120
    go_wp2_with fail
    go_ret
    exact ⟨ret_bool hr.out.symm, by go_grown⟩

theorem three_new (w : World) (x y z : Array Value) (S T U : TypeId) : let w0 := ((w.alloc (.cells x S)).alloc (.cells y T)).alloc (.cells z U)
    w0.heap[w.heap.size]? = some (.cells x S (0, 0)) ∧ w0.heap[w.heap.size + 1]? = some (.cells y T (0, 0)) ∧ w0.heap[w.heap.size + 1 + 1]? = some (.cells z U (0, 0)) ∧ Below w.heap.size w w0 := by
  refine ⟨?_, ?_, ?_, below_alloc (below_alloc (below_alloc (Below.refl _ _) _) _) _⟩
  · exact (Below.heap_alloc _ _ _ (by simp; omega)).trans ((Below.heap_alloc _ _ _ (by simp)).trans (heap_alloc_new w _))
  · have := heap_alloc_new (w.alloc (.cells x S)) (.cells y T)
    rw [World.size_alloc] at this
    exact (Below.heap_alloc _ _ _ (by simp)).trans this
  · have := heap_alloc_new ((w.alloc (.cells x S)).alloc (.cells y T)) (.cells z U)
    rwa [World.size_alloc, World.size_alloc] at this

set_option maxRecDepth 100000 in
set_option maxHeartbeats 2000000 in
theorem tput_any (a b c r o s : Int) (w : World) : Calls Tryz.prog 85 #[geo a b c, .int .i64 r, .agg #[.int .i64 o, .int .i64 s]] w fun e w' => e = .returned (.tuple #[.int .i64 (tps a b c r o s), .agg #[.int .i64 (tpp a b c r o s).1, .string (tpp a b c r o s).2], .int .i64 (tpe a b c r o s)]) ∧ Below w.heap.size w w' := by
  obtain ⟨hG, hX, hM, hB⟩ := three_new w #[.int .i64 a, .int .i64 b, .int .i64 c] #[.int .i64 o, .int .i64 s] #[.int .i64 0, .string ⟨#[]⟩] 41 59 86
  have hT := table_any a b c r
  have hY := tmay_any o s
  by_cases ht : te a b c r = 0
  · obtain ⟨hg, r0, r1, e1, e2, r2⟩ := te_ok ht
    rw [ht, e1, e2] at hT
    by_cases hk : tok o s = true
    · have q0 : tpe a b c r o s = 0 := by rw [tpe, if_neg (by omega), if_pos hk]
      have q1 : tps a b c r o s = 2 + r / 16 := by rw [tps, if_pos q0, e1]
      have q2 : tpp a b c r o s = (r % 16 * 4, S (le 4 (lv o s))) := by rw [tpp, if_pos q0, e2]
      have hkk := tok_iff hk
      obtain ⟨o0, o1, s0, s1⟩ := hkk
      obtain ⟨o, rfl⟩ := Int.eq_ofNat_of_zero_le o0
      obtain ⟨s, rfl⟩ := Int.eq_ofNat_of_zero_le s0
      have hor := or8 o s (by omega) (by omega)
      have hlv : lv o s = o + 256 * s := by simp [lv]
      have hp : Pok (r % 16 * 4) 4 ((o + 256 * s : Nat) : Int) := ⟨by omega, by omega, by omega, by omega, by
        rw [show (256 : Int) ^ (4 : Int).toNat = 4294967296 from rfl]
        omega⟩
      have hP := put_any (r % 16 * 4) 4 ((o + 256 * s : Nat) : Int)
      rw [show pute (r % 16 * 4) 4 ((o + 256 * s : Nat) : Int) = 0 by rw [pute, if_pos hp], show putoff (r % 16 * 4) 4 ((o + 256 * s : Nat) : Int) = r % 16 * 4 by rw [putoff, if_pos hp], show putb (r % 16 * 4) 4 ((o + 256 * s : Nat) : Int) = le 4 (lv o s) by rw [putb, if_pos hp, hlv]; rfl] at hP
      unfold patch at hP
      rw [show ((o + 256 * s : Nat) : Int) = (o : Int) + 256 * s by omega] at hP
      rw [q0, q1, q2]
      rw [hk] at hY
      have HP := Lib.hid hP
      have HT := Lib.hid hT
      have HY := Lib.hid hY
      clear hT hY hP q0 q1 q2 e1 e2 hg ht r1 hlv hp hk
      generalize S (le 4 (lv o s)) = ps at *
      go_enter Tryz.func85, Tryz.ntmps85
      go_wp2_with fail
      generalize World.alloc (World.alloc (World.alloc w _) _) _ = w0 at *
      have g0 := blk_cell hG 0
      have g1 := blk_cell hG 1
      have g2 := blk_cell hG 2
      refine (HT.out _).mono ?_
      rintro e w1 ⟨rfl, hb⟩
      have hX1 := (hb.block _ (blk_lt hX)).trans hX
      have hM1 := (hb.block _ (blk_lt hM)).trans hM
      have hB1 := below_step hb hB.size hB
      clear hb hG hX hM hB g0 g1 g2
      have x0 := blk_cell hX1 0
      have x1 := blk_cell hX1 1
      go_wp2_with fail
      refine (HY.out _).mono ?_
      rintro e w2 ⟨rfl, hb⟩
      have hX := (hb.block _ (blk_lt hX1)).trans hX1
      have hM := (hb.block _ (blk_lt hM1)).trans hM1
      have hB := below_step hb hB1.size hB1
      clear hb hX1 hM1 hB1 x0 x1
      have x0 := blk_cell hX 0
      have x1 := blk_cell hX 1
      go_wp2_with fail
      refine (HP.out _).mono ?_
      rintro e w3 ⟨rfl, hb⟩
      have hM1 := (hb.block _ (blk_lt hM)).trans hM
      have hB1 := below_step hb hB.size hB
      clear hb hX hM hB x0 x1
      have m0 := blk_cell hM1 0
      have m1 := blk_cell hM1 1
      have f0 := blk_free hM1 0
      have f1 := blk_free hM1 1
      obtain ⟨X0, X1⟩ := stored2 hM1 (.int .i64 (r % 16 * 4)) (.string ps)
      go_wp2_with fail
      go_region
      all_goals
        go_wp2_with fail
        refine bodyPost_ret (v := .tuple #[.int .i64 (2 + r / 16), .agg #[.int .i64 (r % 16 * 4), .string ps], .int .i64 0]) (by simp [results, Tryz.results85, go_sem, X0, X1]) rfl ⟨rfl, ?_⟩
        repeat (first | exact hB1 | refine below_setCell ?_ (by omega) _ _ | refine Below.drew ?_ | refine below_drewN ?_ _)
    · have q0 : tpe a b c r o s = 80 := by rw [tpe, if_neg (by omega), if_neg hk]
      have q1 : tps a b c r o s = 0 := by rw [tps, if_neg (by omega)]
      have q2 : tpp a b c r o s = (0, ⟨#[]⟩) := by rw [tpp, if_neg (by omega)]
      rw [q0, q1, q2]
      rw [show tok o s = false by simpa using hk] at hY
      have HT := Lib.hid hT
      have HY := Lib.hid hY
      clear hT hY q0 q1 q2 e1 e2 hg ht r1 hk
      go_enter Tryz.func85, Tryz.ntmps85
      go_wp2_with fail
      generalize World.alloc (World.alloc (World.alloc w _) _) _ = w0 at *
      have g0 := blk_cell hG 0
      have g1 := blk_cell hG 1
      have g2 := blk_cell hG 2
      refine (HT.out _).mono ?_
      rintro e w1 ⟨rfl, hb⟩
      have hX1 := (hb.block _ (blk_lt hX)).trans hX
      have hM1 := (hb.block _ (blk_lt hM)).trans hM
      have hB1 := below_step hb hB.size hB
      clear hb hG hX hM hB g0 g1 g2
      have x0 := blk_cell hX1 0
      have x1 := blk_cell hX1 1
      go_wp2_with fail
      refine (HY.out _).mono ?_
      rintro e w2 ⟨rfl, hb⟩
      have hM := (hb.block _ (blk_lt hM1)).trans hM1
      have hB := below_step hb hB1.size hB1
      clear hb hX1 hM1 hB1 x0 x1
      have m0 := blk_cell hM 0
      have m1 := blk_cell hM 1
      have f0 := blk_free hM 0
      have f1 := blk_free hM 1
      obtain ⟨X0, X1⟩ := stored2 hM (.int .i64 0) (.string ⟨#[]⟩)
      go_wp2_with fail
      refine bodyPost_ret (v := .tuple #[.int .i64 0, .agg #[.int .i64 0, .string ⟨#[]⟩], .int .i64 80]) (by simp [results, Tryz.results85, go_sem, X0, X1]) rfl ⟨rfl, below_setCell (below_setCell hB (by omega) _ _) (by omega) _ _⟩
  · have q0 : tpe a b c r o s = te a b c r := by rw [tpe, if_pos ht]
    have q1 : tps a b c r o s = 0 := by rw [tps, if_neg (by omega)]
    have q2 : tpp a b c r o s = (0, ⟨#[]⟩) := by rw [tpp, if_neg (by omega)]
    have t1 : ts a b c r = 0 := by rw [ts, if_pos ht]
    have t2 : toff a b c r = 0 := by rw [toff, if_pos ht]
    rw [t1, t2] at hT
    rw [q0, q1, q2]
    have HT := Lib.hid hT
    have hne : (te a b c r != 0) = true := by simpa using ht
    clear hT hY q0 q1 q2 t1 t2 ht
    generalize te a b c r = tt at *
    go_enter Tryz.func85, Tryz.ntmps85
    go_wp2_with fail
    generalize World.alloc (World.alloc (World.alloc w _) _) _ = w0 at *
    have g0 := blk_cell hG 0
    have g1 := blk_cell hG 1
    have g2 := blk_cell hG 2
    refine (HT.out _).mono ?_
    rintro e w1 ⟨rfl, hb⟩
    have hX1 := (hb.block _ (blk_lt hX)).trans hX
    have hM1 := (hb.block _ (blk_lt hM)).trans hM
    have hB1 := below_step hb hB.size hB
    clear hb hG hX hM hB g0 g1 g2
    have x0 := blk_cell hX1 0
    have x1 := blk_cell hX1 1
    have hM := hM1
    have hB := hB1
    clear hX1 hM1 hB1 x0 x1
    have m0 := blk_cell hM 0
    have m1 := blk_cell hM 1
    have f0 := blk_free hM 0
    have f1 := blk_free hM 1
    obtain ⟨X0, X1⟩ := stored2 hM (.int .i64 0) (.string ⟨#[]⟩)
    go_wp2_with fail
    refine bodyPost_ret (v := .tuple #[.int .i64 0, .agg #[.int .i64 0, .string ⟨#[]⟩], .int .i64 tt]) (by simp [results, Tryz.results85, go_sem, X0, X1]) rfl ⟨rfl, below_setCell (below_setCell hB (by omega) _ _) (by omega) _ _⟩
end Cw
namespace Cw
open Go Go.RowKit Go.IntWalk
open Go.Proofs

/-- A block of three cells. -/
def three (w : World) (g : Nat) (a b c : Value) : Prop := w.cell? ⟨g, 0, none⟩ = some a ∧ w.cell? ⟨g, 1, none⟩ = some b ∧ w.cell? ⟨g, 2, none⟩ = some c ∧ g < w.heap.size
end Cw
