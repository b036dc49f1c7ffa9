/- book.Among, book.Fit. -/
import Derived.Test.YtapmgndnjgoimaaGreatCopy
import Derived.Test.YtapmgndnjgoimaaGreatProg
namespace Cw
open Go Go.RowKit Go.IntWalk
open Go.Proofs

/-- A text made a sector. -/
def fit (s : ByteArray) : ByteArray := S (over (List.replicate 64 0) 0 (s.data.toList.take 64))
theorem S_size (l : List UInt8) : (S l).size = l.length := by simp [S, ByteArray.size]
theorem fit_size (s : ByteArray) : (fit s).size = 64 := by
  rw [fit, S_size, over_length _ _ _ (by rw [List.length_take]; simp; omega)]
  simp

theorem u8_size : (Tryz.prog.info? 5).map (·.size) = some 1 := by kernel_rfl

set_option maxRecDepth 100000 in
set_option maxHeartbeats 1000000 in
theorem fit_any (s : ByteArray) (hs : s.size ≤ 9223372036854775807) (w : World) : Calls Tryz.prog 22 #[.string s] w fun e w' => e = .returned (.string (fit s)) ∧ Below w.heap.size w w' := by
  obtain ⟨C, hC, hmk⟩ : ∃ C : Array Value, C.toList = bcells (List.replicate 64 0) ∧ ∀ w, (Instr.makeSlice 37 (.int .i64 64) (.int .i64 64)).run Tryz.prog w = .ok (.slice (some ⟨w.heap.size, 0, none⟩) 64 64) (w.alloc (.cells C 5)) :=
    ⟨(bcells (List.replicate 64 0)).toArray, rfl, fun _ => by kernel_rfl⟩
  have hR := row_make w _ C 5 hC
  have HC := Lib.hid hC
  clear hC
  go_enter Tryz.func22, Tryz.ntmps22
  go_wp2_with (with_reducible refine wpList_copy_str rfl (.tmp 5) (.tmp 6) 37 9 rfl 5 Tryz.underlying37 u8_size w.heap.size 0 64 64 s rfl rfl _ hR (by simp; omega) w.heap.size w ((Below.refl _ _).alloc (Nat.le_refl _) _) (Nat.le_refl _) ?_; intro w1 hR1 hB; have hcv := hR1.text (P := Tryz.prog) 37 9 5 Tryz.underlying37 Tryz.underlying5 Tryz.underlying9 64 64 (by rw [over_length _ _ _ (by rw [List.length_take]; simp; omega)]; simp))
  go_ret
  exact ⟨rfl, hB⟩

/-- A number from 0 to n - 1. -/
theorem among_eq (x n : Int) : (x.tmod n + n) % n = x % n := by
  rw [Int.add_emod_right, Int.tmod_def, Int.sub_mul_emod_self_left]

theorem among_any (x n : Int) (h0 : 0 < n) (h1 : n ≤ 1000000000) (w : World) : Calls Tryz.prog 8 #[.int .i64 x, .int .i64 n] w fun e w' => e = .returned (.int .i64 (x % n)) ∧ w = w' := by
  have ha := among_eq x n
  have hl := Int.lt_tmod_of_pos x h0
  have hu := Int.tmod_lt_of_pos x h0
  have H := Lib.hid ha
  clear ha
  have hn : (n == 0) = false := by simp; omega
  go_enter Tryz.func8, Tryz.ntmps8
  go_wp2
  go_ret
  exact ⟨ret_int H.out, rfl⟩
end Cw
