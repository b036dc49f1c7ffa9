/- The walks of the document's answer for the package field: wide, within, Num, Get, Put, Check, Blank. -/
import Derived.Test.YtgigbkgdbhikmaaFieldW2
import Derived.Test.YtgigbkgdbhikmaaCopy
namespace Cw
open Go Go.RowKit Go.IntWalk
open Go.Proofs

set_option maxRecDepth 100000 in
set_option maxHeartbeats 400000 in
theorem rwide_any (n : Int) (w : World) : Calls Try.prog 113 #[.int .i64 n] w fun e w' => e = .returned (.bool (fwide n)) ∧ w = w' := by
  by_cases h1 : n = 1
  · subst h1; go_enter Try.func113, Try.ntmps113; go_wp2; go_ret; exact ⟨rfl, rfl⟩
  by_cases h2 : n = 2
  · subst h2; go_enter Try.func113, Try.ntmps113; go_wp2; go_ret; exact ⟨rfl, rfl⟩
  by_cases h4 : n = 4
  · subst h4; go_enter Try.func113, Try.ntmps113; go_wp2; go_ret; exact ⟨rfl, rfl⟩
  have e := Lib.hid (show fwide n = false by simp [fwide, h1, h2, h4])
  have b1 : (n == 1) = false := by simpa using h1
  have b2 : (n == 2) = false := by simpa using h2
  have b4 : (n == 4) = false := by simpa using h4
  clear h1 h2 h4
  go_enter Try.func113, Try.ntmps113
  go_wp2
  go_ret
  exact ⟨ret_bool e.out.symm, rfl⟩

set_option maxRecDepth 100000 in
set_option maxHeartbeats 400000 in
theorem rwithin_any (off n : Int) (w : World) : Calls Try.prog 114 #[.int .i64 off, .int .i64 n] w fun e w' => e = .returned (.bool (finside off n)) ∧ w = w' := by
  by_cases h : 0 ≤ off ∧ 0 < n ∧ n ≤ 64 ∧ off ≤ 64 - n
  · have e := Lib.hid (show finside off n = true by simp [finside]; omega)
    obtain ⟨h1, h2, h3, h4⟩ := h
    go_enter Try.func114, Try.ntmps114
    go_wp2
    go_ret
    exact ⟨ret_bool e.out.symm, rfl⟩
  · have e := Lib.hid (show finside off n = false by simp [finside]; omega)
    have H := Lib.hid h
    clear h
    by_cases h2 : 0 < n
    · by_cases h3 : n ≤ 64
      · by_cases h1 : 0 ≤ off
        · have h4 : ¬ off ≤ 64 - n := fun h4 => H.out ⟨h1, h2, h3, h4⟩
          go_enter Try.func114, Try.ntmps114
          go_wp2
          go_ret
          exact ⟨ret_bool e.out.symm, rfl⟩
        · go_enter Try.func114, Try.ntmps114
          go_wp2
          go_ret
          exact ⟨ret_bool e.out.symm, rfl⟩
      · go_enter Try.func114, Try.ntmps114
        go_wp2
        go_ret
        exact ⟨ret_bool e.out.symm, rfl⟩
    · go_enter Try.func114, Try.ntmps114
      go_wp2
      go_ret
      exact ⟨ret_bool e.out.symm, rfl⟩

theorem num_cons (s : ByteArray) (o n k : Nat) (hk : k < n) (h : o + n ≤ s.size) : numAt s (o + k) (n - k) = (s[o + k]'(by omega)).toNat + 256 * numAt s (o + (k + 1)) (n - (k + 1)) := by
  rw [numAt, drop1 s (o + k) (by omega), show n - k = (n - (k + 1)) + 1 by omega, List.take_succ_cons]
  rfl
theorem num_lt (l : List UInt8) : num l < 256 ^ l.length := by
  induction l with
  | nil => simp [num]
  | cons b l ih =>
    have := b.toNat_lt
    simp only [num, List.foldr_cons, List.length_cons, Nat.pow_succ] at ih ⊢
    omega
theorem numAt_lt (s : ByteArray) (o n : Nat) (hn : n ≤ 6) : numAt s o n < 281474976710656 := by
  refine Nat.lt_of_lt_of_le (num_lt _) ?_
  refine Nat.le_trans (Nat.pow_le_pow_right (by decide) (show _ ≤ 6 by rw [List.length_take]; omega)) (by decide)

set_option maxRecDepth 100000 in
set_option maxHeartbeats 1000000 in
theorem num_any (s : ByteArray) (o n : Nat) (hn : n ≤ 7) (h : o + n ≤ s.size) (hs : s.size ≤ 9223372036854775807) (w : World) : Calls Try.prog 90 #[.string s, .int .i64 o, .int .i64 n] w fun e w' => e = .returned (.int .i64 (numAt s o n : Nat)) ∧ w = w' := by
  go_enter Try.func90, Try.ntmps90
  go_wp2_with fail
  go_loopw [7, 8] (fun v i wr => wr = w ∧ ∃ k : Nat, k ≤ n ∧ i = .int .i64 ((k : Int) - 1) ∧ v = .int .i64 (numAt s (o + k) (n - k) : Nat)) (fun _ i _ => (intOf i + 1).toNat)
  case atStart => exact ⟨rfl, n, by omega, by go_num, by simp [numAt, num]⟩
  case round =>
    obtain ⟨rfl, k, hk, rfl, rfl⟩ := hrel
    by_cases h0 : k = 0
    · subst h0
      go_wp2_with fail
      go_ret
      exact ⟨rfl, rfl⟩
    · obtain ⟨k, rfl⟩ : ∃ j, k = j + 1 := ⟨k - 1, by omega⟩
      have hk' := num_cons s o n k (by omega) h
      have hl := numAt_lt s (o + (k + 1)) (n - (k + 1)) (by omega)
      have hb := (s[o + k]'(by omega)).toNat_lt
      generalize numAt s (o + (k + 1)) (n - (k + 1)) = m at *
      have e1 : IntKind.i64.wrap ((o : Int) + (((k + 1 : Nat) : Int) - 1)) = ((o + k : Nat) : Int) := by rw [IntWalk.i64_in _ (by omega)]; omega
      go_wp2_with fail
      go_roundw
      case rel =>
        refine ⟨trivial, k, by omega, by go_num, ?_⟩
        rw [hk']
        congr 1
        omega
      case measure => simp [intOf]

theorem nof1 {n : Int} {h1 : n = 1 ∨ n = 2 ∨ n = 4} : 0 ≤ n := by omega

theorem fresh64 : ∃ C : Array Value, C.toList = bcells (List.replicate 64 0) ∧ ∀ w, (Instr.makeSlice 63 (.int .i64 64) (.int .i64 64)).run Try.prog w = .ok (.slice (some ⟨w.heap.size, 0, none⟩) 64 64) (w.alloc (.cells C 5)) :=
  ⟨(bcells (List.replicate 64 0)).toArray, rfl, fun _ => by kernel_rfl⟩

end Cw
