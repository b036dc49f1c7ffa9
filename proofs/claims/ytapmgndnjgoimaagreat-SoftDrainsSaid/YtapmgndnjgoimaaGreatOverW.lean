/- The walks of Overlap and Both. -/
import Derived.Test.YtapmgndnjgoimaaGreatPatchW
namespace Cw
open Go Go.RowKit Go.IntWalk
open Go.Proofs

def ove (a b : Pt) : Int := if okp a = true ∧ okp b = true then 0 else 1
def both (a b : Pt) : Bool := decide (max a.1 b.1 < min (a.1 + a.2.size) (b.1 + b.2.size))
def ovb (a b : Pt) : Bool := if ove a b = 0 then both a b else false
theorem ret_bi {a a' : Bool} {b b' : Int} (h : a = a') (h2 : b = b') : Ending.returned (.tuple #[.bool a, .int .i64 b]) = .returned (.tuple #[.bool a', .int .i64 b']) := by rw [h, h2]

theorem over_start (w : World) (a b c d : Value) (T : TypeId) : two ((w.alloc (.cells #[a, b] T)).alloc (.cells #[c, d] T)) w.heap.size a b ∧ two ((w.alloc (.cells #[a, b] T)).alloc (.cells #[c, d] T)) (w.heap.size + 1) c d ∧
    Below w.heap.size w ((w.alloc (.cells #[a, b] T)).alloc (.cells #[c, d] T)) := by
  refine ⟨two_alloc (two_new w a b T) _, ?_, below_alloc (below_alloc (Below.refl _ _) _) _⟩
  have := two_new (w.alloc (.cells #[a, b] T)) c d T
  simpa using this

theorem over_lit (w : World) (a b c d : Value) (T : TypeId) : let w0 := ((w.alloc (.cells #[a, b] T)).alloc (.cells #[c, d] T)).alloc (.cells #[a, b, c, d] T)
    two w0 w.heap.size a b ∧ two w0 (w.heap.size + 1) c d ∧ (w0.cell? ⟨w.heap.size + 1 + 1, 0, none⟩ = some a ∧ w0.cell? ⟨w.heap.size + 1 + 1, 1, none⟩ = some b ∧ w0.cell? ⟨w.heap.size + 1 + 1, 2, none⟩ = some c ∧ w0.cell? ⟨w.heap.size + 1 + 1, 3, none⟩ = some d) ∧
    w.heap.size + 1 + 1 < w0.heap.size ∧ Below w.heap.size w w0 := by
  obtain ⟨h1, h2, h3⟩ := over_start w a b c d T
  have hn := fun o => cell_of_row _ ((w.alloc (.cells #[a, b] T)).alloc (.cells #[c, d] T)).heap.size o #[a, b, c, d] T (0, 0) (heap_alloc_new ((w.alloc (.cells #[a, b] T)).alloc (.cells #[c, d] T)) _)
  refine ⟨two_alloc h1 _, two_alloc h2 _, ?_, by simp, below_alloc h3 _⟩
  simpa using And.intro (hn 0) (And.intro (hn 1) (And.intro (hn 2) (hn 3)))

set_option maxRecDepth 100000 in
set_option maxHeartbeats 1000000 in
theorem over_any (a b : Pt) (za : a.2.size ≤ 9223372036854775807) (zb : b.2.size ≤ 9223372036854775807) (w : World) : Calls Tryz.prog 46 #[.agg #[.int .i64 a.1, .string a.2], .agg #[.int .i64 b.1, .string b.2]] w fun e w' => e = .returned (.tuple #[.bool (ovb a b), .int .i64 (ove a b)]) ∧ Below w.heap.size w w' := by
  have hx : fcheck a.1 a.2.size = if okp a = true then 0 else 1 := rfl
  have hy : fcheck b.1 b.2.size = if okp b = true then 0 else 1 := rfl
  have hE : True ∧ ovb a b = (if ove a b = 0 then both a b else false) := ⟨trivial, rfl⟩
  have hE' : True ∧ ove a b = (if okp a = true ∧ okp b = true then 0 else 1) := ⟨trivial, rfl⟩
  have HE := Lib.hid (And.intro hE.2 hE'.2)
  have hokA := fun h => @okp_iff a h
  have hokB := fun h => @okp_iff b h
  have hBo : both a b = decide (max a.1 b.1 < min (a.1 + a.2.size) (b.1 + b.2.size)) := rfl
  have HB := Lib.hid (And.intro hokA (And.intro hokB hBo))
  clear hE hE' hokA hokB hBo
  generalize okp a = ka at *
  generalize okp b = kb at *
  generalize ovb a b = va at *
  generalize ove a b = vb at *
  generalize both a b = vc at *
  obtain ⟨o, t⟩ := a
  obtain ⟨p, u⟩ := b
  simp only at *
  go_enter Tryz.func46, Tryz.ntmps46
  go_wp2_with fail
  have hQ := over_lit w (.int .i64 o) (.string t) (.int .i64 p) (.string u) 39
  generalize World.alloc (World.alloc (World.alloc w _) _) _ = w0 at *
  obtain ⟨hA, hC, hD, hF, hB⟩ := hQ
  go_loopw [13] (fun i wr => ∃ k : Nat, k ≤ 2 ∧ i = .int .i64 k ∧ (0 < k → ka = true) ∧ (1 < k → kb = true) ∧ Below w0.heap.size w0 wr) (fun i _ => 2 - (RowKit.intOf i).toNat)
  case atStart => exact ⟨0, by omega, rfl, by omega, by omega, Below.refl _ _⟩
  case round =>
    obtain ⟨k, hk, rfl, hka, hkb, hBr⟩ := hrel
    have hA := two_step hA hBr
    have hC := two_step hC hBr
    have hW := below_step hBr hB.size hB
    have a0 := hA.1
    have a1 := hA.2.1
    have c0 := hC.1
    have c1 := hC.2.1
    have d0 := (hBr.cell (p := ⟨w.heap.size + 1 + 1, 0, none⟩) hF).trans hD.1
    have d1 := (hBr.cell (p := ⟨w.heap.size + 1 + 1, 1, none⟩) hF).trans hD.2.1
    have d2 := (hBr.cell (p := ⟨w.heap.size + 1 + 1, 2, none⟩) hF).trans hD.2.2.1
    have d3 := (hBr.cell (p := ⟨w.heap.size + 1 + 1, 3, none⟩) hF).trans hD.2.2.2
    rcases (show k = 0 ∨ k = 1 ∨ k = 2 by omega) with rfl | rfl | rfl
    · by_cases h : ka = true
      · rw [if_pos h] at hx
        go_wp2_with (go_at_call 42; refine (fcheck_any _ _ (by assumption) _).mono ?_; rintro e w1 ⟨rfl, hb⟩; have hB1 := below_step hb (by simp) (below_alloc (Below.refl wr.heap.size wr) _); clear hb)
        go_roundw
        case rel => exact ⟨1, by omega, rfl, fun _ => h, by omega, below_step hB1 hBr.size hBr⟩
        case measure => simp [RowKit.intOf]
      · rw [if_neg h] at hx
        go_wp2_with (go_at_call 42; refine (fcheck_any _ _ (by assumption) _).mono ?_; rintro e w1 ⟨rfl, hb⟩; have hB1 := below_step hb (by simp) (below_alloc (Below.refl wr.heap.size wr) _); clear hb)
        go_ret2
        have e2 : vb = 1 := by rw [HE.out.2, if_neg (fun h2 => h h2.1)]
        have e1 : va = false := by rw [HE.out.1, e2]; rfl
        exact ⟨ret_bi e1.symm e2.symm, below_step hB1 hW.size hW⟩
    · by_cases h : kb = true
      · rw [if_pos h] at hy
        go_wp2_with (go_at_call 42; refine (fcheck_any _ _ (by assumption) _).mono ?_; rintro e w1 ⟨rfl, hb⟩; have hB1 := below_step hb (by simp) (below_alloc (Below.refl wr.heap.size wr) _); clear hb)
        go_roundw
        case rel => exact ⟨2, by omega, rfl, fun _ => hka (by omega), fun _ => h, below_step hB1 hBr.size hBr⟩
        case measure => simp [RowKit.intOf]
      · rw [if_neg h] at hy
        go_wp2_with (go_at_call 42; refine (fcheck_any _ _ (by assumption) _).mono ?_; rintro e w1 ⟨rfl, hb⟩; have hB1 := below_step hb (by simp) (below_alloc (Below.refl wr.heap.size wr) _); clear hb)
        go_ret2
        have e2 : vb = 1 := by rw [HE.out.2, if_neg (fun h2 => h h2.2)]
        have e1 : va = false := by rw [HE.out.1, e2]; rfl
        exact ⟨ret_bi e1.symm e2.symm, below_step hB1 hW.size hW⟩
    · have g1 := HB.out.1 (hka (by omega))
      have g2 := HB.out.2.1 (hkb (by omega))
      have e2 : vb = 0 := by rw [HE.out.2, if_pos ⟨hka (by omega), hkb (by omega)⟩]
      have e1 : va = vc := by rw [HE.out.1, if_pos e2]
      have HF := Lib.hid (And.intro e1 e2)
      clear e1 e2
      go_wp2_with fail
      go_ret2
      refine ⟨ret_bi ?_ ?_, hW⟩
      · rw [HF.out.1, HB.out.2.2]
      · rw [HF.out.2]
end Cw
