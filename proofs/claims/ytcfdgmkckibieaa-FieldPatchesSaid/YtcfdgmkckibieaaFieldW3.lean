/- The walks of the document's answer for the package field: wide, within, Num, Get, Put, Check, Blank. -/
import Derived.Test.YtcfdgmkckibieaaFieldW2
import Derived.Test.YtcfdgmkckibieaaCopy
namespace Cw
open Go Go.RowKit Go.IntWalk
open Go.Proofs

set_option maxHeartbeats 400000 in
theorem rwide_any (n : Int) (w : World) : Calls Try.prog 35 #[.int .i64 n] w fun e w' => e = .returned (.bool (fwide n)) ∧ w = w' := by
  by_cases h1 : n = 1
  · subst h1; go_enter Try.func35, Try.ntmps35; go_wp2; go_ret; exact ⟨rfl, rfl⟩
  by_cases h2 : n = 2
  · subst h2; go_enter Try.func35, Try.ntmps35; go_wp2; go_ret; exact ⟨rfl, rfl⟩
  by_cases h4 : n = 4
  · subst h4; go_enter Try.func35, Try.ntmps35; go_wp2; go_ret; exact ⟨rfl, rfl⟩
  have e := Lib.hid (show fwide n = false by simp [fwide, h1, h2, h4])
  have b1 : (n == 1) = false := by simpa using h1
  have b2 : (n == 2) = false := by simpa using h2
  have b4 : (n == 4) = false := by simpa using h4
  clear h1 h2 h4
  go_enter Try.func35, Try.ntmps35
  go_wp2
  go_ret
  exact ⟨ret_bool e.out.symm, rfl⟩

set_option maxHeartbeats 400000 in
theorem rwithin_any (off n : Int) (w : World) : Calls Try.prog 36 #[.int .i64 off, .int .i64 n] w fun e w' => e = .returned (.bool (finside off n)) ∧ w = w' := by
  by_cases h : 0 ≤ off ∧ 0 < n ∧ n ≤ 64 ∧ off ≤ 64 - n
  · have e := Lib.hid (show finside off n = true by simp [finside]; omega)
    obtain ⟨h1, h2, h3, h4⟩ := h
    go_enter Try.func36, Try.ntmps36
    go_wp2
    go_ret
    exact ⟨ret_bool e.out.symm, rfl⟩
  · have e := Lib.hid (show finside off n = false by simp [finside]; omega)
    have H := Lib.hid h
    clear h
    by_cases h2 : 0 < n
    · by_cases h3 : n ≤ 64
      · by_cases h1 : 0 ≤ off
        · have h4 : ¬ off ≤ 64 - n := fun h4 => H.out ⟨h1, h2, h3, h4⟩
          go_enter Try.func36, Try.ntmps36
          go_wp2
          go_ret
          exact ⟨ret_bool e.out.symm, rfl⟩
        · go_enter Try.func36, Try.ntmps36
          go_wp2
          go_ret
          exact ⟨ret_bool e.out.symm, rfl⟩
      · go_enter Try.func36, Try.ntmps36
        go_wp2
        go_ret
        exact ⟨ret_bool e.out.symm, rfl⟩
    · go_enter Try.func36, Try.ntmps36
      go_wp2
      go_ret
      exact ⟨ret_bool e.out.symm, rfl⟩

theorem num_cons (s : ByteArray) (o n k : Nat) (hk : k < n) (h : o + n ≤ s.size) : numAt s (o + k) (n - k) = (s[o + k]'(by omega)).toNat + 256 * numAt s (o + (k + 1)) (n - (k + 1)) := by
  rw [numAt, drop1 s (o + k) (by omega), show n - k = (n - (k + 1)) + 1 by omega, List.take_succ_cons]
  rfl
theorem num_lt (l : List UInt8) : num l < 256 ^ l.length := by
  induction l with
  | nil => simp [num]
  | cons b l ih =>
    have := b.toNat_lt
    simp only [num, List.foldr_cons, List.length_cons, Nat.pow_succ] at ih ⊢
    omega
theorem numAt_lt (s : ByteArray) (o n : Nat) (hn : n ≤ 6) : numAt s o n < 281474976710656 := by
  refine Nat.lt_of_lt_of_le (num_lt _) ?_
  refine Nat.le_trans (Nat.pow_le_pow_right (by decide) (show _ ≤ 6 by rw [List.length_take]; omega)) (by decide)

set_option maxHeartbeats 1000000 in
theorem num_any (s : ByteArray) (o n : Nat) (hn : n ≤ 7) (h : o + n ≤ s.size) (hs : s.size ≤ 9223372036854775807) (w : World) : Calls Try.prog 38 #[.string s, .int .i64 o, .int .i64 n] w fun e w' => e = .returned (.int .i64 (numAt s o n : Nat)) ∧ w = w' := by
  go_enter Try.func38, Try.ntmps38
  go_wp2_with fail
  go_loopw [7, 8] (fun v i wr => wr = w ∧ ∃ k : Nat, k ≤ n ∧ i = .int .i64 ((k : Int) - 1) ∧ v = .int .i64 (numAt s (o + k) (n - k) : Nat)) (fun _ i _ => (intOf i + 1).toNat)
  case atStart => exact ⟨rfl, n, by omega, by go_num, by simp [numAt, num]⟩
  case round =>
    obtain ⟨rfl, k, hk, rfl, rfl⟩ := hrel
    by_cases h0 : k = 0
    · subst h0
      go_wp2_with fail
      go_ret
      exact ⟨rfl, rfl⟩
    · obtain ⟨k, rfl⟩ : ∃ j, k = j + 1 := ⟨k - 1, by omega⟩
      have hk' := num_cons s o n k (by omega) h
      have hl := numAt_lt s (o + (k + 1)) (n - (k + 1)) (by omega)
      have hb := (s[o + k]'(by omega)).toNat_lt
      generalize numAt s (o + (k + 1)) (n - (k + 1)) = m at *
      have e1 : IntKind.i64.wrap ((o : Int) + (((k + 1 : Nat) : Int) - 1)) = ((o + k : Nat) : Int) := by rw [IntWalk.i64_in _ (by omega)]; omega
      go_wp2_with fail
      go_roundw
      case rel =>
        refine ⟨trivial, k, by omega, by go_num, ?_⟩
        rw [hk']
        congr 1
        omega
      case measure => simp [intOf]

theorem nof1 {n : Int} {h1 : n = 1 ∨ n = 2 ∨ n = 4} : 0 ≤ n := by omega

set_option maxHeartbeats 1000000 in
theorem rget_any (s : ByteArray) (off n : Int) (hs : s.size ≤ 9223372036854775807) (w : World) : Calls Try.prog 21 #[.string s, .int .i64 off, .int .i64 n] w fun e w' => e = .returned (.tuple #[.int .i64 (getn s off n : Nat), .int .i64 (gete s.size off n)]) ∧ Below w.heap.size w w' := by
  rcases gete_cases s.size off n with ⟨e, hz, hn, h0, h1⟩ | ⟨e, hz⟩ | ⟨e, hz, hh⟩
  · have e2 : getn s off n = numAt s off.toNat n.toNat := by rw [getn, if_pos e]
    have hE := Lib.hid (And.intro e e2)
    obtain ⟨o, rfl⟩ := Int.eq_ofNat_of_zero_le h0
    obtain ⟨m, rfl⟩ := Int.eq_ofNat_of_zero_le (show 0 ≤ n by omega)
    have hb : ((s.size : Int) != 64) = false := by simpa using hz
    have hw : fwide m = true := by simpa [fwide] using hn
    have hi : finside o m = true := by simp [finside]; omega
    have hA := Lib.hid (show m ≤ 7 ∧ o + m ≤ s.size by omega)
    clear e e2 hz hn h0 h1
    go_enter Try.func21, Try.ntmps21
    go_wp2_with (first | (go_at_call 35; refine (rwide_any _ _).mono ?_; rintro e w1 ⟨rfl, rfl⟩) | (go_at_call 36; refine (rwithin_any _ _ _).mono ?_; rintro e w1 ⟨rfl, rfl⟩) | (go_at_call 38; refine (num_any s o m hA.out.1 hA.out.2 hs _).mono ?_; rintro e w1 ⟨rfl, rfl⟩))
    go_ret2
    refine ⟨ret_ii ?_ ?_, Below.refl _ _⟩
    · rw [hE.out.2]; rfl
    · rw [hE.out.1]
  · have e2 : getn s off n = 0 := by rw [getn, if_neg (by omega)]
    have hE := Lib.hid (And.intro e e2)
    have hb : ((s.size : Int) != 64) = true := by simpa using hz
    clear e e2 hz
    go_enter Try.func21, Try.ntmps21
    go_wp2_with (first | (go_at_call 35; refine (rwide_any _ _).mono ?_; rintro e w1 ⟨rfl, rfl⟩) | (go_at_call 36; refine (rwithin_any _ _ _).mono ?_; rintro e w1 ⟨rfl, rfl⟩) | (go_at_call 38; refine (num_any s o m hA.out.1 hA.out.2 hs _).mono ?_; rintro e w1 ⟨rfl, rfl⟩))
    go_ret2
    refine ⟨ret_ii ?_ ?_, Below.refl _ _⟩
    · rw [hE.out.2]; rfl
    · rw [hE.out.1]
  · have e2 : getn s off n = 0 := by rw [getn, if_neg (by omega)]
    have hE := Lib.hid (And.intro e e2)
    have hb : ((s.size : Int) != 64) = false := by simpa using hz
    clear e e2 hz
    rcases hh with h1 | ⟨h1, hn, h2⟩
    all_goals
      go_enter Try.func21, Try.ntmps21
      go_wp2_with (first | (go_at_call 35; refine (rwide_any _ _).mono ?_; rintro e w1 ⟨rfl, rfl⟩) | (go_at_call 36; refine (rwithin_any _ _ _).mono ?_; rintro e w1 ⟨rfl, rfl⟩) | (go_at_call 38; refine (num_any s o m hA.out.1 hA.out.2 hs _).mono ?_; rintro e w1 ⟨rfl, rfl⟩))
      go_ret2
      refine ⟨ret_ii ?_ ?_, Below.refl _ _⟩
      · rw [hE.out.2]; rfl
      · rw [hE.out.1]

set_option maxHeartbeats 400000 in
theorem rfcheck_any (off : Int) (s : ByteArray) (w : World) : Calls Try.prog 15 #[.agg #[.int .i64 off, .string s]] w fun e w' => e = .returned (.int .i64 (fcheck off s.size)) ∧ Below w.heap.size w w' := by
  by_cases h : finside off s.size = true
  · have e := Lib.hid (show fcheck off s.size = 0 by rw [fcheck, if_pos h])
    go_enter Try.func15, Try.ntmps15
    go_wp2_with (go_at_call 36; refine (rwithin_any _ _ _).mono ?_; rintro e w1 ⟨rfl, rfl⟩)
    go_ret
    exact ⟨ret_int e.out.symm, by go_grown⟩
  · have e := Lib.hid (show fcheck off s.size = 1 by rw [fcheck, if_neg h])
    have h' : finside off s.size = false := by simpa using h
    clear h
    go_enter Try.func15, Try.ntmps15
    go_wp2_with (go_at_call 36; refine (rwithin_any _ _ _).mono ?_; rintro e w1 ⟨rfl, rfl⟩)
    go_ret
    exact ⟨ret_int e.out.symm, by go_grown⟩

theorem fresh64 : ∃ C : Array Value, C.toList = bcells (List.replicate 64 0) ∧ ∀ w, (Instr.makeSlice 58 (.int .i64 64) (.int .i64 64)).run Try.prog w = .ok (.slice (some ⟨w.heap.size, 0, none⟩) 64 64) (w.alloc (.cells C 5)) :=
  ⟨(bcells (List.replicate 64 0)).toArray, rfl, fun _ => by kernel_rfl⟩

theorem rblank_any (w : World) : Calls Try.prog 23 #[] w fun e w' => e = .returned (.string (S (List.replicate 64 0))) ∧ Below w.heap.size w w' := by
  obtain ⟨C, hC, hmk⟩ := fresh64
  have hcv := (row_make w _ C 5 hC).text (P := Try.prog) 58 9 5 Try.underlying58 Try.underlying5 Try.underlying9 64 64 (by simp)
  have HC := Lib.hid hC
  clear hC
  go_enter Try.func23, Try.ntmps23
  go_wp2_with fail
  go_ret
  exact ⟨rfl, by go_grown⟩
end Cw
