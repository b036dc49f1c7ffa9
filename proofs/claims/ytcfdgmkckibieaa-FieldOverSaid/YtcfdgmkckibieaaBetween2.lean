/- The walk of the document's Between. -/
import Derived.Test.YtcfdgmkckibieaaBetween
namespace Cw
open Go Go.RowKit Go.IntWalk
open Go.Proofs

theorem st_succ (x y : ByteArray) (k : Nat) : st x y (k + 1) = match (st x y k).2, dif x y k with
    | some f, true => ((st x y k).1, some f)
    | some f, false => ((st x y k).1 ++ [((f : Int), y.extract f k)], none)
    | none, true => ((st x y k).1, some k)
    | none, false => ((st x y k).1, none) := rfl
theorem dif_eq (x y : ByteArray) (k : Nat) (h1 : k < x.size) (h2 : k < y.size) : (((x[k]'h1).toNat : Int) == ((y[k]'h2).toNat : Int)) = !dif x y k := by
  rw [← dif_num x y k h1 h2]
  simp [bne]

set_option maxHeartbeats 1000000 in
theorem rbetween_any (x y : ByteArray) (hx : x.size ≤ 9223372036854775807) (hy : y.size ≤ 9223372036854775807) (w : World) : Calls Try.prog 18 #[.string x, .string y] w fun e w' => ∃ v, e = .returned (.tuple #[v, .int .i64 (btwe x y)]) ∧ Below w.heap.size w w' ∧ Sl w' v (btw x y) := by
  by_cases hz : x.size = 64 ∧ y.size = 64
  · obtain ⟨zx, zy⟩ := hz
    have e1 : btwe x y = 0 := by rw [btwe, if_pos ⟨zx, zy⟩]
    have e2 : btw x y = (st x y 65).1 := by rw [btw, if_pos ⟨zx, zy⟩]
    have hE := Lib.hid (And.intro e1 e2)
    have bx : ((x.size : Int) != 64) = false := by rw [zx]; rfl
    have by' : ((y.size : Int) != 64) = false := by rw [zy]; rfl
    clear e1 e2
    go_enter Try.func18, Try.ntmps18
    go_wp2_with fail
    go_loopw [6, 7] (fun v i wr => ∃ (k : Nat) (out : List Pt), k ≤ 65 ∧ i = .int .i64 k ∧ st x y k = (out, none) ∧ Below w.heap.size w wr ∧ wr.ownsRow w.heap.size 25 2 v out.length (out.flatMap pcells)) (fun _ i _ => 65 - (intOf i).toNat)
    case atStart => exact ⟨0, [], by omega, rfl, rfl, Below.refl _ _, World.ownsRow_nil _ _ _ _⟩
    case round =>
      obtain ⟨k, out, hk, rfl, hs0, hB, hO⟩ := hrel
      have hlen := st_len x y k
      rw [hs0] at hlen
      simp only at hlen
      obtain ⟨i0, hi, hz0, hz1, hz2⟩ := info_parts patch_info.1
      by_cases h64 : 64 ≤ k
      · have hend : (st x y 65).1 = out := by
          rcases (show k = 64 ∨ k = 65 by omega) with rfl | rfl
          · rw [st_succ, hs0, dif_out x y 64 (by omega)]
          · rw [hs0]
        have hS := sl_own hO
        rw [← hend, ← hE.out.2] at hS
        go_wp2_with fail
        go_ret2
        exact ⟨_, by rw [hE.out.1]; rfl, hB, hS⟩
      · have hk' : (k : Int) < 64 := by omega
        have hst := st_succ x y k
        rw [hs0] at hst
        have hb := dif_eq x y k (by omega) (by omega)
        cases hd : dif x y k
        · rw [hd] at hst hb
          simp only at hst
          simp only [Bool.not_false] at hb
          go_wp2_with fail
          go_quiet (fail)
          have hB1 := below_drewN hB nq
          have hO1 : (wr.drewN nq).ownsRow w.heap.size 25 2 _ _ _ := hO
          generalize wr.drewN nq = w1 at *
          clear hB hO
          go_wp2_with fail
          go_roundw
          case rel => exact ⟨k + 1, out, by omega, by go_num, hst, hB1, hO1⟩
          case measure => simp [intOf]; omega
        · rw [hd] at hst hb
          simp only at hst
          simp only [Bool.not_true] at hb
          go_wp2_with fail
          go_quiet (fail)
          have hB1 := below_drewN hB nq
          have hO1 : (wr.drewN nq).ownsRow w.heap.size 25 2 _ _ _ := hO
          generalize wr.drewN nq = w1 at *
          clear hB hO hb hd
          go_wp2_with fail
          go_loopw [8] (fun n wr => ∃ m : Nat, 0 < m ∧ k + m ≤ 64 ∧ n = .int .i64 m ∧ st x y (k + m) = (out, some k) ∧ Below w.heap.size w wr ∧ wr.ownsRow w.heap.size 25 2 u6 out.length (out.flatMap pcells)) (fun n _ => 65 - (intOf n).toNat)
          case atStart => exact ⟨1, by omega, by omega, rfl, hst, hB1, hO1⟩
          case round =>
            clear hB1 hO1 hst
            obtain ⟨m, hm0, hm, rfl, hsm, hB, hO⟩ := hrel
            have hst := st_succ x y (k + m)
            rw [hsm] at hst
            have q1 : IntKind.i64.wrap ((k : Int) + m) = ((k + m : Nat) : Int) := by rw [IntWalk.i64_in _ (by omega)]; omega
            have q2 : ((k : Int) + m).toNat = k + m := by omega
            by_cases he : k + m = 64
            · rw [dif_out x y (k + m) (by omega)] at hst
              simp only at hst
              have hm64 : ¬ (k : Int) + m < 64 := by omega
              go_wp2_with fail
              go_quiet (fail)
              have hB1 := below_drewN hB nq
              have hO1 : (wr.drewN nq).ownsRow w.heap.size 25 2 _ _ _ := hO
              generalize wr.drewN nq = w1 at *
              clear hB hO
              go_wp2_with (at_builtin; refine wpList_push rfl (.tmp 47) (.tmp 56) 32 rfl w.heap.size 25 i0 _ 2 24 Try.underlying32 hi hz0 hz1 hz2 patch_info.2 (by decide) _ _ _ rfl hO1 [_, _] _ rfl rfl (by simp [Value.oneCell']) (by unfold maxLen; omega) (by omega) hB1.size ?_; intro v2 w2 hO2 hb2)
              go_roundw
              case rel => exact ⟨65, out ++ [((k : Int), y.extract k 64)], by omega, by go_num, by rw [show (65 : Nat) = k + m + 1 by omega, hst, he], hB1.trans hb2, by simpa [pcells, List.flatMap_append] using hO2⟩
              case measure => simp [intOf]; omega
            · have hb := dif_num x y (k + m) (by omega) (by omega)
              have hm64 : (k : Int) + m < 64 := by omega
              have z0 : 0 ≤ (k : Int) + m := by omega
              have ix : (k : Int) + m < x.size := by omega
              have iy : (k : Int) + m < y.size := by omega
              cases hd : dif x y (k + m)
              · rw [hd] at hst hb
                simp only at hst
                go_wp2_with fail
                go_quiet (fail)
                have hB1 := below_drewN hB nq
                have hO1 : (wr.drewN nq).ownsRow w.heap.size 25 2 _ _ _ := hO
                generalize wr.drewN nq = w1 at *
                clear hB hO
                go_wp2_with (at_builtin; refine wpList_push rfl (.tmp 47) (.tmp 56) 32 rfl w.heap.size 25 i0 _ 2 24 Try.underlying32 hi hz0 hz1 hz2 patch_info.2 (by decide) _ _ _ rfl hO1 [_, _] _ rfl rfl (by simp [Value.oneCell']) (by unfold maxLen; omega) (by omega) hB1.size ?_; intro v2 w2 hO2 hb2)
                go_roundw
                case rel => exact ⟨k + m + 1, out ++ [((k : Int), y.extract k (k + m))], by omega, by go_num, hst, hB1.trans hb2, by simpa [pcells, List.flatMap_append] using hO2⟩
                case measure => simp [intOf]; omega
              · rw [hd] at hst hb
                simp only at hst
                go_wp2_with fail
                go_quiet (fail)
                have hB1 := below_drewN hB nq
                have hO1 : (wr.drewN nq).ownsRow w.heap.size 25 2 _ _ _ := hO
                generalize wr.drewN nq = w1 at *
                clear hB hO
                go_wp2_with (at_builtin; refine wpList_push rfl (.tmp 47) (.tmp 56) 32 rfl w.heap.size 25 i0 _ 2 24 Try.underlying32 hi hz0 hz1 hz2 patch_info.2 (by decide) _ _ _ rfl hO1 [_, _] _ rfl rfl (by simp [Value.oneCell']) (by unfold maxLen; omega) (by omega) hB1.size ?_; intro v2 w2 hO2 hb2)
                go_roundw
                case rel => exact ⟨m + 1, by omega, by omega, by go_num, by rw [← Nat.add_assoc]; exact hst, hB1, hO1⟩
                case measure => simp [intOf]; omega
  · have e1 : btwe x y = 4 := by rw [btwe, if_neg hz]
    have e2 : btw x y = [] := by rw [btw, if_neg hz]
    have hE := Lib.hid (And.intro e1 e2)
    have hN : Sl w (.slice none 0 0) [] := ⟨none, 0, rfl, Nat.le_refl _, by decide, by simp, by simp⟩
    rw [← e2] at hN
    clear e1 e2
    by_cases zx : x.size = 64
    · have bx : ((x.size : Int) != 64) = false := by rw [zx]; rfl
      have by' : ((y.size : Int) != 64) = true := by
        have : y.size ≠ 64 := fun h => hz ⟨zx, h⟩
        simp; omega
      clear hz
      go_enter Try.func18, Try.ntmps18
      go_wp2_with fail
      go_ret2
      exact ⟨_, by rw [hE.out.1]; rfl, Below.refl _ _, hN⟩
    · have bx : ((x.size : Int) != 64) = true := by simp; omega
      clear hz
      go_enter Try.func18, Try.ntmps18
      go_wp2_with fail
      go_ret2
      exact ⟨_, by rw [hE.out.1]; rfl, Below.refl _ _, hN⟩
end Cw
