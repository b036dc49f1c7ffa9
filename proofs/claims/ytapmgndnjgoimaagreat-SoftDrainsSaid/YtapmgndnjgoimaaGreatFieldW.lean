/- The walks of the program's package field. -/
import Derived.Test.YtapmgndnjgoimaaGreatProg
import Derived.Test.YtapmgndnjgoimaaGreatBase
import Derived.Test.YtapmgndnjgoimaaGreatBytes
import Derived.Test.YtapmgndnjgoimaaGreatShelf
namespace Cw
open Go Go.RowKit
open Go.Proofs

theorem byte_info : (Tryz.prog.info? 5).map (fun i => (i.zero, i.size, i.bytes)) = some (some (.int .u8 0), 1, 1) := by kernel_rfl

set_option maxRecDepth 100000 in
set_option maxHeartbeats 400000 in
theorem wide_any (n : Int) (w : World) : Calls Tryz.prog 47 #[.int .i64 n] w fun e w' => e = .returned (.bool (fwide n)) ∧ w = w' := by
  by_cases h1 : n = 1
  · subst h1; go_enter Tryz.func47, Tryz.ntmps47; go_wp2; go_ret; exact ⟨rfl, rfl⟩
  by_cases h2 : n = 2
  · subst h2; go_enter Tryz.func47, Tryz.ntmps47; go_wp2; go_ret; exact ⟨rfl, rfl⟩
  by_cases h4 : n = 4
  · subst h4; go_enter Tryz.func47, Tryz.ntmps47; go_wp2; go_ret; exact ⟨rfl, rfl⟩
  have e := Lib.hid (show fwide n = false by simp [fwide, h1, h2, h4])
  have b1 : (n == 1) = false := by simpa using h1
  have b2 : (n == 2) = false := by simpa using h2
  have b4 : (n == 4) = false := by simpa using h4
  clear h1 h2 h4
  go_enter Tryz.func47, Tryz.ntmps47
  go_wp2
  go_ret
  exact ⟨ret_bool e.out.symm, rfl⟩

set_option maxRecDepth 100000 in
set_option maxHeartbeats 400000 in
theorem inside_any (off n : Int) (hn : 0 ≤ n) (w : World) : Calls Tryz.prog 48 #[.int .i64 off, .int .i64 n] w fun e w' => e = .returned (.bool (finside off n)) ∧ w = w' := by
  by_cases h : 0 ≤ off ∧ 0 < n ∧ n ≤ 64 ∧ off ≤ 64 - n
  · have e := Lib.hid (show finside off n = true by simp [finside]; omega)
    obtain ⟨h1, h2, h3, h4⟩ := h
    go_enter Tryz.func48, Tryz.ntmps48
    go_wp2
    go_ret
    exact ⟨ret_bool e.out.symm, rfl⟩
  · have e := Lib.hid (show finside off n = false by simp [finside]; omega)
    have H := Lib.hid h
    clear h
    by_cases h1 : 0 ≤ off
    · by_cases h2 : 0 < n
      · by_cases h3 : n ≤ 64
        · have h4 : ¬ off ≤ 64 - n := fun h4 => H.out ⟨h1, h2, h3, h4⟩
          go_enter Tryz.func48, Tryz.ntmps48
          go_wp2
          go_ret
          exact ⟨ret_bool e.out.symm, rfl⟩
        · go_enter Tryz.func48, Tryz.ntmps48
          go_wp2
          go_ret
          exact ⟨ret_bool e.out.symm, rfl⟩
      · go_enter Tryz.func48, Tryz.ntmps48
        go_wp2
        go_ret
        exact ⟨ret_bool e.out.symm, rfl⟩
    · go_enter Tryz.func48, Tryz.ntmps48
      go_wp2
      go_ret
      exact ⟨ret_bool e.out.symm, rfl⟩

abbrev patch (off : Int) (l : List UInt8) : Value := .agg #[.int .i64 off, .string (S l)]

set_option maxRecDepth 100000 in
set_option maxHeartbeats 1000000 in
theorem put1 (off : Int) (x : Nat) (h0 : 0 ≤ off) (h1 : off ≤ 63) (hx : x < 256) (w : World) : Calls Tryz.prog 69 #[.int .i64 off, .int .i64 1, .int .i64 x] w fun e w' => e = .returned (.tuple #[patch off (le 1 x), .int .i64 0]) ∧ Below w.heap.size w w' := by
  have e1 : fwide 1 = true := rfl
  have e2 : finside off 1 = true := by simp [finside]; omega
  have hmk : ∀ w, (Instr.makeSlice 37 (.int .i64 1) (.int .i64 1)).run Tryz.prog w = .ok (.slice (some ⟨w.heap.size, 0, none⟩) 1 1) (w.alloc (.cells #[.int .u8 0] 5)) := fun _ => by kernel_rfl
  have hcv := fun (R : Obj) (c0 : Int) => run_str_lit (P := Tryz.prog) 37 9 5 Tryz.underlying37 Tryz.underlying5 Tryz.underlying9 (w.alloc R) [c0] 1
  simp only [List.map_cons, List.map_nil, List.length_cons, List.length_nil, World.size_alloc] at hcv
  go_enter Tryz.func69, Tryz.ntmps69
  go_wp2_with (first | (go_at_call 47; refine (wide_any _ _).mono ?_; rintro e w1 ⟨rfl, rfl⟩) | (go_at_call 48; refine (inside_any _ _ (by omega) _).mono ?_; rintro e w1 ⟨rfl, rfl⟩))
  go_rounds 2
  refine bodyPost_ret (v := .tuple #[patch off (le 1 x), .int .i64 0]) (by simp [results, Tryz.results69, go_sem]; exact le1 x) rfl ⟨rfl, by go_grown⟩

set_option maxRecDepth 100000 in
set_option maxHeartbeats 1000000 in
theorem put2 (off : Int) (x : Nat) (h0 : 0 ≤ off) (h1 : off ≤ 62) (hx : x < 65536) (w : World) : Calls Tryz.prog 69 #[.int .i64 off, .int .i64 2, .int .i64 x] w fun e w' => e = .returned (.tuple #[patch off (le 2 x), .int .i64 0]) ∧ Below w.heap.size w w' := by
  have e1 : fwide 2 = true := rfl
  have e2 : finside off 2 = true := by simp [finside]; omega
  have hmk : ∀ w, (Instr.makeSlice 37 (.int .i64 2) (.int .i64 2)).run Tryz.prog w = .ok (.slice (some ⟨w.heap.size, 0, none⟩) 2 2) (w.alloc (.cells #[.int .u8 0, .int .u8 0] 5)) := fun _ => by kernel_rfl
  have hcv := fun (R : Obj) (c0 c1 : Int) => run_str_lit (P := Tryz.prog) 37 9 5 Tryz.underlying37 Tryz.underlying5 Tryz.underlying9 (w.alloc R) [c0, c1] 2
  simp only [List.map_cons, List.map_nil, List.length_cons, List.length_nil, World.size_alloc] at hcv
  go_enter Tryz.func69, Tryz.ntmps69
  go_wp2_with (first | (go_at_call 47; refine (wide_any _ _).mono ?_; rintro e w1 ⟨rfl, rfl⟩) | (go_at_call 48; refine (inside_any _ _ (by omega) _).mono ?_; rintro e w1 ⟨rfl, rfl⟩))
  go_rounds 3
  refine bodyPost_ret (v := .tuple #[patch off (le 2 x), .int .i64 0]) (by simp [results, Tryz.results69, go_sem]; exact le2 x) rfl ⟨rfl, by go_grown⟩

set_option maxRecDepth 100000 in
set_option maxHeartbeats 1000000 in
theorem put4 (off : Int) (x : Nat) (h0 : 0 ≤ off) (h1 : off ≤ 60) (hx : x < 4294967296) (w : World) : Calls Tryz.prog 69 #[.int .i64 off, .int .i64 4, .int .i64 x] w fun e w' => e = .returned (.tuple #[patch off (le 4 x), .int .i64 0]) ∧ Below w.heap.size w w' := by
  have e1 : fwide 4 = true := rfl
  have e2 : finside off 4 = true := by simp [finside]; omega
  have hmk : ∀ w, (Instr.makeSlice 37 (.int .i64 4) (.int .i64 4)).run Tryz.prog w = .ok (.slice (some ⟨w.heap.size, 0, none⟩) 4 4) (w.alloc (.cells #[.int .u8 0, .int .u8 0, .int .u8 0, .int .u8 0] 5)) := fun _ => by kernel_rfl
  have hcv := fun (R : Obj) (c0 c1 c2 c3 : Int) => run_str_lit (P := Tryz.prog) 37 9 5 Tryz.underlying37 Tryz.underlying5 Tryz.underlying9 (w.alloc R) [c0, c1, c2, c3] 4
  simp only [List.map_cons, List.map_nil, List.length_cons, List.length_nil, World.size_alloc] at hcv
  go_enter Tryz.func69, Tryz.ntmps69
  go_wp2_with (first | (go_at_call 47; refine (wide_any _ _).mono ?_; rintro e w1 ⟨rfl, rfl⟩) | (go_at_call 48; refine (inside_any _ _ (by omega) _).mono ?_; rintro e w1 ⟨rfl, rfl⟩))
  go_rounds 5
  refine bodyPost_ret (v := .tuple #[patch off (le 4 x), .int .i64 0]) (by simp [results, Tryz.results69, go_sem]; exact le4 x) rfl ⟨rfl, by go_grown⟩


theorem pok_cases {off n x : Int} (h : ¬ Pok off n x) : (n ≠ 1 ∧ n ≠ 2 ∧ n ≠ 4) ∨ ((n = 1 ∨ n = 2 ∨ n = 4) ∧ ¬ (0 ≤ off ∧ off ≤ 64 - n)) ∨ ((n = 1 ∨ n = 2 ∨ n = 4) ∧ (0 ≤ off ∧ off ≤ 64 - n) ∧ x < 0) ∨ ((n = 1 ∨ n = 2 ∨ n = 4) ∧ (0 ≤ off ∧ off ≤ 64 - n) ∧ 0 ≤ x ∧ 256 ^ n.toNat ≤ x) := by
  unfold Pok at h
  by_cases h1 : n = 1 ∨ n = 2 ∨ n = 4
  · by_cases h2 : 0 ≤ off ∧ off ≤ 64 - n
    · by_cases h3 : x < 0
      · exact .inr (.inr (.inl ⟨h1, h2, h3⟩))
      · refine .inr (.inr (.inr ⟨h1, h2, by omega, ?_⟩))
        by_cases h4 : 256 ^ n.toNat ≤ x
        · exact h4
        · exact absurd ⟨h1, h2.1, h2.2, by omega, by omega⟩ h
    · exact .inr (.inl ⟨h1, h2⟩)
  · exact .inl (by omega)

set_option maxRecDepth 100000 in
set_option maxHeartbeats 1000000 in
theorem put_no (off n x : Int) (h : ¬ Pok off n x) (w : World) : Calls Tryz.prog 69 #[.int .i64 off, .int .i64 n, .int .i64 x] w fun e w' => e = .returned (.tuple #[patch 0 [], .int .i64 1]) ∧ Below w.heap.size w w' := by
  rcases pok_cases h with ⟨h1, h2, h3⟩ | ⟨h1, h2⟩ | ⟨h1, h2, h3⟩ | ⟨h1, h2, h3, h4⟩
  · have e1 : fwide n = false := by simp [fwide, h1, h2, h3]
    clear h h1 h2 h3
    go_enter Tryz.func69, Tryz.ntmps69
    go_wp2_with (first | (go_at_call 47; refine (wide_any _ _).mono ?_; rintro e w1 ⟨rfl, rfl⟩) | (go_at_call 48; refine (inside_any _ _ (by omega) _).mono ?_; rintro e w1 ⟨rfl, rfl⟩))
    refine bodyPost_ret (v := .tuple #[patch 0 [], .int .i64 1]) (by simp [results, Tryz.results69, go_sem]; rfl) rfl ⟨rfl, by go_grown⟩
  · have e2 : finside off n = false := by simp [finside]; omega
    clear h h2
    rcases h1 with rfl | rfl | rfl
    all_goals
      have e1 : fwide 1 = true ∧ fwide 2 = true ∧ fwide 4 = true := ⟨rfl, rfl, rfl⟩
      go_enter Tryz.func69, Tryz.ntmps69
      go_wp2_with (first | (go_at_call 47; refine (wide_any _ _).mono ?_; rintro e w1 ⟨rfl, rfl⟩) | (go_at_call 48; refine (inside_any _ _ (by omega) _).mono ?_; rintro e w1 ⟨rfl, rfl⟩))
      refine bodyPost_ret (v := .tuple #[patch 0 [], .int .i64 1]) (by simp [results, Tryz.results69, go_sem]; rfl) rfl ⟨rfl, by go_grown⟩
  · have e2 : finside off n = true := by simp [finside]; omega
    clear h h2
    rcases h1 with rfl | rfl | rfl
    all_goals
      have e1 : fwide 1 = true ∧ fwide 2 = true ∧ fwide 4 = true := ⟨rfl, rfl, rfl⟩
      go_enter Tryz.func69, Tryz.ntmps69
      go_wp2_with (first | (go_at_call 47; refine (wide_any _ _).mono ?_; rintro e w1 ⟨rfl, rfl⟩) | (go_at_call 48; refine (inside_any _ _ (by omega) _).mono ?_; rintro e w1 ⟨rfl, rfl⟩))
      refine bodyPost_ret (v := .tuple #[patch 0 [], .int .i64 1]) (by simp [results, Tryz.results69, go_sem]; rfl) rfl ⟨rfl, by go_grown⟩
  · have e2 : finside off n = true := by simp [finside]; omega
    clear h h2
    rcases h1 with rfl | rfl | rfl
    all_goals
      have e1 : fwide 1 = true ∧ fwide 2 = true ∧ fwide 4 = true := ⟨rfl, rfl, rfl⟩
      have h5 : ¬ x < 0 := by omega
      simp at h4
      go_enter Tryz.func69, Tryz.ntmps69
      go_wp2_with (first | (go_at_call 47; refine (wide_any _ _).mono ?_; rintro e w1 ⟨rfl, rfl⟩) | (go_at_call 48; refine (inside_any _ _ (by omega) _).mono ?_; rintro e w1 ⟨rfl, rfl⟩))
      refine bodyPost_ret (v := .tuple #[patch 0 [], .int .i64 1]) (by simp [results, Tryz.results69, go_sem]; rfl) rfl ⟨rfl, by go_grown⟩

theorem put_any (off n x : Int) (w : World) : Calls Tryz.prog 69 #[.int .i64 off, .int .i64 n, .int .i64 x] w fun e w' => e = .returned (.tuple #[patch (putoff off n x) (putb off n x), .int .i64 (pute off n x)]) ∧ Below w.heap.size w w' := by
  by_cases h : Pok off n x
  · have e : pute off n x = 0 := by rw [pute, if_pos h]
    have e1 : putoff off n x = off := by rw [putoff, if_pos h]
    have e2 : putb off n x = le n.toNat x.toNat := by rw [putb, if_pos h]
    rw [e, e1, e2]
    obtain ⟨h1, h2, h3, h4, h5⟩ := h
    obtain ⟨x, rfl⟩ := Int.eq_ofNat_of_zero_le h4
    rcases h1 with rfl | rfl | rfl
    · exact put1 off x h2 (by omega) (by have : (x : Int) < 256 := h5; omega) w
    · exact put2 off x h2 (by omega) (by have : (x : Int) < 65536 := h5; omega) w
    · exact put4 off x h2 (by omega) (by have : (x : Int) < 4294967296 := h5; omega) w
  · have e : pute off n x = 1 := by rw [pute, if_neg h]
    have e1 : putoff off n x = 0 := by rw [putoff, if_neg h]
    have e2 : putb off n x = [] := by rw [putb, if_neg h]
    rw [e, e1, e2]
    exact put_no off n x h w
end Cw
