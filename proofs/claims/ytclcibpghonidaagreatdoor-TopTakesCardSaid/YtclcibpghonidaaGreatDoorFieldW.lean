/- '|' of bytes that were shifted apart is their sum. No program in sight. -/
import Derived.Test.YtclcibpghonidaaGreatDoorBase
import Derived.Laws.BitsAllLaws
import Derived.Laws.BitsLemmas
import Derived.Test.YtclcibpghonidaaGreatDoorProg
import Derived.Test.YtclcibpghonidaaGreatDoorShelf
import Derived.Laws.CopyRow
import Derived.Lib.ConvBytes
import Derived.StillTailTactics
namespace Cw
open Go Go.RowKit
theorem ofInt_i64 (a : Nat) (ha : a < 9223372036854775808) : (BitVec.ofInt 64 (a : Int)).toNat = a := by
  rw [BitVec.ofInt_natCast, BitVec.toNat_ofNat]; exact Nat.mod_eq_of_lt (by omega)
theorem i64_or_nat (a b : Nat) (ha : a < 9223372036854775808) (hb : b < 9223372036854775808) : bits .or .i64 (a : Int) (b : Int) = ((a ||| b : Nat) : Int) := by
  have hx : a ||| b < 2 ^ 63 := Nat.or_lt_two_pow (by omega) (by omega)
  show IntKind.i64.wrap ((BitVec.ofInt 64 (a : Int) ||| BitVec.ofInt 64 (b : Int)).toNat : Int) = _
  rw [BitVec.toNat_or, ofInt_i64 a ha, ofInt_i64 b hb, IntKind.wrap_i64]
  omega
theorem or_add (a b k m : Nat) (hm : m = 2 ^ k) (hb : b < m) : a * m ||| b = a * m + b := by
  subst hm
  have := Nat.shiftLeft_add_eq_or_of_lt hb a
  rw [Nat.shiftLeft_eq] at this
  exact this.symm
theorem or1' (b0 : Nat) (h0 : b0 < 65536) : bits .or .i64 0 (b0 : Int) = ((b0 : Nat) : Int) := by
  have := i64_or_nat 0 b0 (by omega) (by omega)
  simpa using this
theorem or1 (b0 : Nat) (h0 : b0 < 256) : bits .or .i64 0 (b0 : Int) = ((b0 : Nat) : Int) := by
  have := i64_or_nat 0 b0 (by omega) (by omega)
  simpa using this
theorem or2 (b0 b1 : Nat) (h0 : b0 < 256) (h1 : b1 < 256) : bits .or .i64 (bits .or .i64 0 ((b1 : Int) * 256)) (b0 : Int) = ((b0 + 256 * b1 : Nat) : Int) := by
  rw [show (b1 : Int) * 256 = ((b1 * 256 : Nat) : Int) by omega]
  rw [or1' (b1 * 256) (by omega)]
  rw [i64_or_nat _ _ (by omega) (by omega), or_add b1 b0 8 256 rfl (by omega)]
  congr 1
  omega
theorem or4 (b0 b1 b2 b3 : Nat) (h0 : b0 < 256) (h1 : b1 < 256) (h2 : b2 < 256) (h3 : b3 < 256) :
    bits .or .i64 (bits .or .i64 (bits .or .i64 ((b3 : Int) * 16777216) ((b2 : Int) * 65536)) ((b1 : Int) * 256)) (b0 : Int) = ((b0 + 256 * b1 + 65536 * b2 + 16777216 * b3 : Nat) : Int) := by
  rw [show (b3 : Int) * 16777216 = ((b3 * 16777216 : Nat) : Int) by omega, show (b2 : Int) * 65536 = ((b2 * 65536 : Nat) : Int) by omega, show (b1 : Int) * 256 = ((b1 * 256 : Nat) : Int) by omega]
  rw [i64_or_nat _ _ (by omega) (by omega), or_add b3 (b2 * 65536) 24 16777216 rfl (by omega)]
  rw [show b3 * 16777216 + b2 * 65536 = (b3 * 256 + b2) * 65536 by omega]
  rw [i64_or_nat _ _ (by omega) (by omega), or_add _ (b1 * 256) 16 65536 rfl (by omega)]
  rw [show (b3 * 256 + b2) * 65536 + b1 * 256 = ((b3 * 256 + b2) * 256 + b1) * 256 by omega]
  rw [i64_or_nat _ _ (by omega) (by omega), or_add _ b0 8 256 rfl (by omega)]
  congr 1
  omega
theorem byte_lt (b : UInt8) : (b.toNat : Int) < 256 := by have := b.toNat_lt; omega
end Cw
namespace Cw
open Go Go.RowKit
open Go.Proofs

set_option maxRecDepth 100000 in
set_option maxHeartbeats 400000 in
theorem wide_any (n : Int) (w : World) : Calls Tryz.prog 70 #[.int .i64 n] w fun e w' => e = .returned (.bool (fwide n)) ∧ w = w' := by
  by_cases h1 : n = 1
  · subst h1; go_enter Tryz.func70, Tryz.ntmps70; go_wp2; go_ret; exact ⟨rfl, rfl⟩
  by_cases h2 : n = 2
  · subst h2; go_enter Tryz.func70, Tryz.ntmps70; go_wp2; go_ret; exact ⟨rfl, rfl⟩
  by_cases h4 : n = 4
  · subst h4; go_enter Tryz.func70, Tryz.ntmps70; go_wp2; go_ret; exact ⟨rfl, rfl⟩
  have e := Lib.hid (show fwide n = false by simp [fwide, h1, h2, h4])
  have b1 : (n == 1) = false := by simpa using h1
  have b2 : (n == 2) = false := by simpa using h2
  have b4 : (n == 4) = false := by simpa using h4
  clear h1 h2 h4
  go_enter Tryz.func70, Tryz.ntmps70
  go_wp2
  go_ret
  exact ⟨ret_bool e.out.symm, rfl⟩

set_option maxRecDepth 100000 in
set_option maxHeartbeats 400000 in
theorem inside_any (off n : Int) (hn : 0 ≤ n) (w : World) : Calls Tryz.prog 71 #[.int .i64 off, .int .i64 n] w fun e w' => e = .returned (.bool (finside off n)) ∧ w = w' := by
  by_cases h : 0 ≤ off ∧ 0 < n ∧ n ≤ 64 ∧ off ≤ 64 - n
  · have e := Lib.hid (show finside off n = true by simp [finside]; omega)
    obtain ⟨h1, h2, h3, h4⟩ := h
    go_enter Tryz.func71, Tryz.ntmps71
    go_wp2
    go_ret
    exact ⟨ret_bool e.out.symm, rfl⟩
  · have e := Lib.hid (show finside off n = false by simp [finside]; omega)
    have H := Lib.hid h
    clear h
    by_cases h1 : 0 ≤ off
    · by_cases h2 : 0 < n
      · by_cases h3 : n ≤ 64
        · have h4 : ¬ off ≤ 64 - n := fun h4 => H.out ⟨h1, h2, h3, h4⟩
          go_enter Tryz.func71, Tryz.ntmps71
          go_wp2
          go_ret
          exact ⟨ret_bool e.out.symm, rfl⟩
        · go_enter Tryz.func71, Tryz.ntmps71
          go_wp2
          go_ret
          exact ⟨ret_bool e.out.symm, rfl⟩
      · go_enter Tryz.func71, Tryz.ntmps71
        go_wp2
        go_ret
        exact ⟨ret_bool e.out.symm, rfl⟩
    · go_enter Tryz.func71, Tryz.ntmps71
      go_wp2
      go_ret
      exact ⟨ret_bool e.out.symm, rfl⟩

abbrev patch (off : Int) (l : List UInt8) : Value := .agg #[.int .i64 off, .string (S l)]

set_option maxRecDepth 100000 in
set_option maxHeartbeats 1000000 in
theorem put1 (off : Int) (x : Nat) (h0 : 0 ≤ off) (h1 : off ≤ 63) (hx : x < 256) (w : World) : Calls Tryz.prog 32 #[.int .i64 off, .int .i64 1, .int .i64 x] w fun e w' => e = .returned (.tuple #[patch off (le 1 x), .int .i64 0]) ∧ Below w.heap.size w w' := by
  have e1 : fwide 1 = true := rfl
  have e2 : finside off 1 = true := by simp [finside]; omega
  have hmk : ∀ w, (Instr.makeSlice 142 (.int .i64 1) (.int .i64 1)).run Tryz.prog w = .ok (.slice (some ⟨w.heap.size, 0, none⟩) 1 1) (w.alloc (.cells #[.int .u8 0] 5)) := fun _ => by kernel_rfl
  have hcv := fun (R : Obj) (c0 : Int) => run_str_lit (P := Tryz.prog) 142 9 5 Tryz.underlying142 Tryz.underlying5 Tryz.underlying9 (w.alloc R) [c0] 1
  simp only [List.map_cons, List.map_nil, List.length_cons, List.length_nil, World.size_alloc] at hcv
  go_enter Tryz.func32, Tryz.ntmps32
  go_wp2_with (first | (go_at_call 70; refine (wide_any _ _).mono ?_; rintro e w1 ⟨rfl, rfl⟩) | (go_at_call 71; refine (inside_any _ _ (by omega) _).mono ?_; rintro e w1 ⟨rfl, rfl⟩))
  go_rounds 2
  refine bodyPost_ret (v := .tuple #[patch off (le 1 x), .int .i64 0]) (by simp [results, Tryz.results32, go_sem]; exact le1 x) rfl ⟨rfl, by go_grown⟩

set_option maxRecDepth 100000 in
set_option maxHeartbeats 1000000 in
theorem put2 (off : Int) (x : Nat) (h0 : 0 ≤ off) (h1 : off ≤ 62) (hx : x < 65536) (w : World) : Calls Tryz.prog 32 #[.int .i64 off, .int .i64 2, .int .i64 x] w fun e w' => e = .returned (.tuple #[patch off (le 2 x), .int .i64 0]) ∧ Below w.heap.size w w' := by
  have e1 : fwide 2 = true := rfl
  have e2 : finside off 2 = true := by simp [finside]; omega
  have hmk : ∀ w, (Instr.makeSlice 142 (.int .i64 2) (.int .i64 2)).run Tryz.prog w = .ok (.slice (some ⟨w.heap.size, 0, none⟩) 2 2) (w.alloc (.cells #[.int .u8 0, .int .u8 0] 5)) := fun _ => by kernel_rfl
  have hcv := fun (R : Obj) (c0 c1 : Int) => run_str_lit (P := Tryz.prog) 142 9 5 Tryz.underlying142 Tryz.underlying5 Tryz.underlying9 (w.alloc R) [c0, c1] 2
  simp only [List.map_cons, List.map_nil, List.length_cons, List.length_nil, World.size_alloc] at hcv
  go_enter Tryz.func32, Tryz.ntmps32
  go_wp2_with (first | (go_at_call 70; refine (wide_any _ _).mono ?_; rintro e w1 ⟨rfl, rfl⟩) | (go_at_call 71; refine (inside_any _ _ (by omega) _).mono ?_; rintro e w1 ⟨rfl, rfl⟩))
  go_rounds 3
  refine bodyPost_ret (v := .tuple #[patch off (le 2 x), .int .i64 0]) (by simp [results, Tryz.results32, go_sem]; exact le2 x) rfl ⟨rfl, by go_grown⟩

set_option maxRecDepth 100000 in
set_option maxHeartbeats 1000000 in
theorem put4 (off : Int) (x : Nat) (h0 : 0 ≤ off) (h1 : off ≤ 60) (hx : x < 4294967296) (w : World) : Calls Tryz.prog 32 #[.int .i64 off, .int .i64 4, .int .i64 x] w fun e w' => e = .returned (.tuple #[patch off (le 4 x), .int .i64 0]) ∧ Below w.heap.size w w' := by
  have e1 : fwide 4 = true := rfl
  have e2 : finside off 4 = true := by simp [finside]; omega
  have hmk : ∀ w, (Instr.makeSlice 142 (.int .i64 4) (.int .i64 4)).run Tryz.prog w = .ok (.slice (some ⟨w.heap.size, 0, none⟩) 4 4) (w.alloc (.cells #[.int .u8 0, .int .u8 0, .int .u8 0, .int .u8 0] 5)) := fun _ => by kernel_rfl
  have hcv := fun (R : Obj) (c0 c1 c2 c3 : Int) => run_str_lit (P := Tryz.prog) 142 9 5 Tryz.underlying142 Tryz.underlying5 Tryz.underlying9 (w.alloc R) [c0, c1, c2, c3] 4
  simp only [List.map_cons, List.map_nil, List.length_cons, List.length_nil, World.size_alloc] at hcv
  go_enter Tryz.func32, Tryz.ntmps32
  go_wp2_with (first | (go_at_call 70; refine (wide_any _ _).mono ?_; rintro e w1 ⟨rfl, rfl⟩) | (go_at_call 71; refine (inside_any _ _ (by omega) _).mono ?_; rintro e w1 ⟨rfl, rfl⟩))
  go_rounds 5
  refine bodyPost_ret (v := .tuple #[patch off (le 4 x), .int .i64 0]) (by simp [results, Tryz.results32, go_sem]; exact le4 x) rfl ⟨rfl, by go_grown⟩


theorem pok_cases {off n x : Int} (h : ¬ Pok off n x) : (n ≠ 1 ∧ n ≠ 2 ∧ n ≠ 4) ∨ ((n = 1 ∨ n = 2 ∨ n = 4) ∧ ¬ (0 ≤ off ∧ off ≤ 64 - n)) ∨ ((n = 1 ∨ n = 2 ∨ n = 4) ∧ (0 ≤ off ∧ off ≤ 64 - n) ∧ x < 0) ∨ ((n = 1 ∨ n = 2 ∨ n = 4) ∧ (0 ≤ off ∧ off ≤ 64 - n) ∧ 0 ≤ x ∧ 256 ^ n.toNat ≤ x) := by
  unfold Pok at h
  by_cases h1 : n = 1 ∨ n = 2 ∨ n = 4
  · by_cases h2 : 0 ≤ off ∧ off ≤ 64 - n
    · by_cases h3 : x < 0
      · exact .inr (.inr (.inl ⟨h1, h2, h3⟩))
      · refine .inr (.inr (.inr ⟨h1, h2, by omega, ?_⟩))
        by_cases h4 : 256 ^ n.toNat ≤ x
        · exact h4
        · exact absurd ⟨h1, h2.1, h2.2, by omega, by omega⟩ h
    · exact .inr (.inl ⟨h1, h2⟩)
  · exact .inl (by omega)

set_option maxRecDepth 100000 in
set_option maxHeartbeats 1000000 in
theorem put_no (off n x : Int) (h : ¬ Pok off n x) (w : World) : Calls Tryz.prog 32 #[.int .i64 off, .int .i64 n, .int .i64 x] w fun e w' => e = .returned (.tuple #[patch 0 [], .int .i64 1]) ∧ Below w.heap.size w w' := by
  rcases pok_cases h with ⟨h1, h2, h3⟩ | ⟨h1, h2⟩ | ⟨h1, h2, h3⟩ | ⟨h1, h2, h3, h4⟩
  · have e1 : fwide n = false := by simp [fwide, h1, h2, h3]
    clear h h1 h2 h3
    go_enter Tryz.func32, Tryz.ntmps32
    go_wp2_with (first | (go_at_call 70; refine (wide_any _ _).mono ?_; rintro e w1 ⟨rfl, rfl⟩) | (go_at_call 71; refine (inside_any _ _ (by omega) _).mono ?_; rintro e w1 ⟨rfl, rfl⟩))
    refine bodyPost_ret (v := .tuple #[patch 0 [], .int .i64 1]) (by simp [results, Tryz.results32, go_sem]; rfl) rfl ⟨rfl, by go_grown⟩
  · have e2 : finside off n = false := by simp [finside]; omega
    clear h h2
    rcases h1 with rfl | rfl | rfl
    all_goals
      have e1 : fwide 1 = true ∧ fwide 2 = true ∧ fwide 4 = true := ⟨rfl, rfl, rfl⟩
      go_enter Tryz.func32, Tryz.ntmps32
      go_wp2_with (first | (go_at_call 70; refine (wide_any _ _).mono ?_; rintro e w1 ⟨rfl, rfl⟩) | (go_at_call 71; refine (inside_any _ _ (by omega) _).mono ?_; rintro e w1 ⟨rfl, rfl⟩))
      refine bodyPost_ret (v := .tuple #[patch 0 [], .int .i64 1]) (by simp [results, Tryz.results32, go_sem]; rfl) rfl ⟨rfl, by go_grown⟩
  · have e2 : finside off n = true := by simp [finside]; omega
    clear h h2
    rcases h1 with rfl | rfl | rfl
    all_goals
      have e1 : fwide 1 = true ∧ fwide 2 = true ∧ fwide 4 = true := ⟨rfl, rfl, rfl⟩
      go_enter Tryz.func32, Tryz.ntmps32
      go_wp2_with (first | (go_at_call 70; refine (wide_any _ _).mono ?_; rintro e w1 ⟨rfl, rfl⟩) | (go_at_call 71; refine (inside_any _ _ (by omega) _).mono ?_; rintro e w1 ⟨rfl, rfl⟩))
      refine bodyPost_ret (v := .tuple #[patch 0 [], .int .i64 1]) (by simp [results, Tryz.results32, go_sem]; rfl) rfl ⟨rfl, by go_grown⟩
  · have e2 : finside off n = true := by simp [finside]; omega
    clear h h2
    rcases h1 with rfl | rfl | rfl
    all_goals
      have e1 : fwide 1 = true ∧ fwide 2 = true ∧ fwide 4 = true := ⟨rfl, rfl, rfl⟩
      have h5 : ¬ x < 0 := by omega
      simp at h4
      go_enter Tryz.func32, Tryz.ntmps32
      go_wp2_with (first | (go_at_call 70; refine (wide_any _ _).mono ?_; rintro e w1 ⟨rfl, rfl⟩) | (go_at_call 71; refine (inside_any _ _ (by omega) _).mono ?_; rintro e w1 ⟨rfl, rfl⟩))
      refine bodyPost_ret (v := .tuple #[patch 0 [], .int .i64 1]) (by simp [results, Tryz.results32, go_sem]; rfl) rfl ⟨rfl, by go_grown⟩

theorem put_any (off n x : Int) (w : World) : Calls Tryz.prog 32 #[.int .i64 off, .int .i64 n, .int .i64 x] w fun e w' => e = .returned (.tuple #[patch (putoff off n x) (putb off n x), .int .i64 (pute off n x)]) ∧ Below w.heap.size w w' := by
  by_cases h : Pok off n x
  · have e : pute off n x = 0 := by rw [pute, if_pos h]
    have e1 : putoff off n x = off := by rw [putoff, if_pos h]
    have e2 : putb off n x = le n.toNat x.toNat := by rw [putb, if_pos h]
    rw [e, e1, e2]
    obtain ⟨h1, h2, h3, h4, h5⟩ := h
    obtain ⟨x, rfl⟩ := Int.eq_ofNat_of_zero_le h4
    rcases h1 with rfl | rfl | rfl
    · exact put1 off x h2 (by omega) (by have : (x : Int) < 256 := h5; omega) w
    · exact put2 off x h2 (by omega) (by have : (x : Int) < 65536 := h5; omega) w
    · exact put4 off x h2 (by omega) (by have : (x : Int) < 4294967296 := h5; omega) w
  · have e : pute off n x = 1 := by rw [pute, if_neg h]
    have e1 : putoff off n x = 0 := by rw [putoff, if_neg h]
    have e2 : putb off n x = [] := by rw [putb, if_neg h]
    rw [e, e1, e2]
    exact put_no off n x h w
end Cw
namespace Cw
open Go Go.RowKit
open Go.Proofs

def fcheck (off n : Int) : Int := if finside off n = true then 0 else 1

set_option maxRecDepth 100000 in
set_option maxHeartbeats 400000 in
theorem fcheck_any (off : Int) (s : ByteArray) (hs : s.size ≤ 9223372036854775807) (w : World) : Calls Tryz.prog 108 #[.agg #[.int .i64 off, .string s]] w fun e w' => e = .returned (.int .i64 (fcheck off s.size)) ∧ Below w.heap.size w w' := by
  by_cases h : finside off s.size = true
  · have e := Lib.hid (show fcheck off s.size = 0 by rw [fcheck, if_pos h])
    go_enter Tryz.func108, Tryz.ntmps108
    go_wp2_with (go_at_call 71; refine (inside_any _ _ (by omega) _).mono ?_; rintro e w1 ⟨rfl, rfl⟩)
    go_ret
    exact ⟨ret_int e.out.symm, by go_grown⟩
  · have e := Lib.hid (show fcheck off s.size = 1 by rw [fcheck, if_neg h])
    have h' : finside off s.size = false := by simpa using h
    clear h
    go_enter Tryz.func108, Tryz.ntmps108
    go_wp2_with (go_at_call 71; refine (inside_any _ _ (by omega) _).mono ?_; rintro e w1 ⟨rfl, rfl⟩)
    go_ret
    exact ⟨ret_int e.out.symm, by go_grown⟩

theorem ret_ii {a a' b b' : Int} (h : a = a') (h2 : b = b') : Ending.returned (.tuple #[.int .i64 a, .int .i64 b]) = .returned (.tuple #[.int .i64 a', .int .i64 b']) := by rw [h, h2]

/-- The number at a place of a text, the lowest byte first. -/
def num (l : List UInt8) : Nat := l.foldr (fun b n => b.toNat + 256 * n) 0
def numAt (s : ByteArray) (o n : Nat) : Nat := num ((s.data.toList.drop o).take n)
def gete (z off n : Int) : Int := if z ≠ 64 then 4 else if fwide n = true ∧ finside off n = true then 0 else 1
def getn (s : ByteArray) (off n : Int) : Nat := if gete s.size off n = 0 then numAt s off.toNat n.toNat else 0

theorem drop1 (s : ByteArray) (o : Nat) (h : o < s.size) : s.data.toList.drop o = s[o] :: s.data.toList.drop (o + 1) := by
  rw [List.drop_eq_getElem_cons (by simpa using h)]; rfl
theorem num1 (s : ByteArray) (o : Nat) (h : o < s.size) : numAt s o 1 = s[o].toNat := by simp [numAt, drop1 s o h, num]
theorem num2 (s : ByteArray) (o : Nat) (h : o + 1 < s.size) : numAt s o 2 = s[o].toNat + 256 * s[o + 1].toNat := by simp [numAt, drop1 s o (by omega), drop1 s (o + 1) h, num]
theorem num4 (s : ByteArray) (o : Nat) (h : o + 3 < s.size) : numAt s o 4 = s[o].toNat + 256 * s[o + 1].toNat + 65536 * s[o + 2].toNat + 16777216 * s[o + 3].toNat := by
  simp [numAt, drop1 s o (by omega), drop1 s (o + 1) (by omega), drop1 s (o + 2) (by omega), drop1 s (o + 3) h, num]
  omega

set_option maxRecDepth 100000 in
set_option maxHeartbeats 1000000 in
theorem get1 (s : ByteArray) (o : Nat) (hs : s.size = 64) (h1 : o ≤ 63) (w : World) : Calls Tryz.prog 54 #[.string s, .int .i64 o, .int .i64 1] w fun e w' => e = .returned (.tuple #[.int .i64 (numAt s o 1 : Nat), .int .i64 0]) ∧ Below w.heap.size w w' := by
  have e1 : fwide 1 = true := rfl
  have e2 : finside o 1 = true := by simp [finside]; omega
  have hs' : o < s.size ∧ s.size ≤ 64 ∧ 64 ≤ s.size := by omega
  have hb : ((s.size : Int) != 64) = false := by rw [hs]; rfl
  clear hs
  have b0 := byte_lt (s[o]'hs'.1)
  go_enter Tryz.func54, Tryz.ntmps54
  go_wp2_with (first | (go_at_call 70; refine (wide_any _ _).mono ?_; rintro e w1 ⟨rfl, rfl⟩) | (go_at_call 71; refine (inside_any _ _ (by omega) _).mono ?_; rintro e w1 ⟨rfl, rfl⟩))
  go_ret2
  refine ⟨ret_ii ?_ rfl, Below.refl _ _⟩
  rw [num1 s o hs'.1]
  exact or1 _ (by omega)
set_option maxRecDepth 100000 in
set_option maxHeartbeats 1000000 in
theorem get2 (s : ByteArray) (o : Nat) (hs : s.size = 64) (h1 : o ≤ 62) (w : World) : Calls Tryz.prog 54 #[.string s, .int .i64 o, .int .i64 2] w fun e w' => e = .returned (.tuple #[.int .i64 (numAt s o 2 : Nat), .int .i64 0]) ∧ Below w.heap.size w w' := by
  have e1 : fwide 2 = true := rfl
  have e2 : finside o 2 = true := by simp [finside]; omega
  have hs' : o + 1 < s.size ∧ s.size ≤ 64 ∧ 64 ≤ s.size := by omega
  have hb : ((s.size : Int) != 64) = false := by rw [hs]; rfl
  clear hs
  have b0 := byte_lt (s[o]'(by omega))
  have b1 := byte_lt (s[o + 1]'hs'.1)
  go_enter Tryz.func54, Tryz.ntmps54
  go_wp2_with (first | (go_at_call 70; refine (wide_any _ _).mono ?_; rintro e w1 ⟨rfl, rfl⟩) | (go_at_call 71; refine (inside_any _ _ (by omega) _).mono ?_; rintro e w1 ⟨rfl, rfl⟩))
  go_ret2
  refine ⟨ret_ii ?_ rfl, Below.refl _ _⟩
  rw [num2 s o hs'.1]
  exact or2 _ _ (by omega) (by omega)
set_option maxRecDepth 100000 in
set_option maxHeartbeats 1000000 in
theorem get4 (s : ByteArray) (o : Nat) (hs : s.size = 64) (h1 : o ≤ 60) (w : World) : Calls Tryz.prog 54 #[.string s, .int .i64 o, .int .i64 4] w fun e w' => e = .returned (.tuple #[.int .i64 (numAt s o 4 : Nat), .int .i64 0]) ∧ Below w.heap.size w w' := by
  have e1 : fwide 4 = true := rfl
  have e2 : finside o 4 = true := by simp [finside]; omega
  have hs' : o + 3 < s.size ∧ s.size ≤ 64 ∧ 64 ≤ s.size := by omega
  have hb : ((s.size : Int) != 64) = false := by rw [hs]; rfl
  clear hs
  have b0 := byte_lt (s[o]'(by omega))
  have b1 := byte_lt (s[o + 1]'(by omega))
  have b2 := byte_lt (s[o + 2]'(by omega))
  have b3 := byte_lt (s[o + 3]'hs'.1)
  have i3 : (o : Int) + 3 < s.size := by omega
  have i2 : (o : Int) + 2 < s.size := by omega
  have z3 : 0 ≤ (o : Int) + 3 := by omega
  have z2 : 0 ≤ (o : Int) + 2 := by omega
  have q3 : IntKind.i64.wrap ((o : Int) + 3) = (o : Int) + 3 := IntWalk.i64_in _ (by omega)
  have q2 : IntKind.i64.wrap ((o : Int) + 2) = (o : Int) + 2 := IntWalk.i64_in _ (by omega)
  have t3 : ((o : Int) + 3).toNat = o + 3 := by omega
  have t2 : ((o : Int) + 2).toNat = o + 2 := by omega
  go_enter Tryz.func54, Tryz.ntmps54
  go_wp2_with (first | (go_at_call 70; refine (wide_any _ _).mono ?_; rintro e w1 ⟨rfl, rfl⟩) | (go_at_call 71; refine (inside_any _ _ (by omega) _).mono ?_; rintro e w1 ⟨rfl, rfl⟩))
  go_quiet (fail)
  try clear q3 q2
  go_wp2
  go_ret2
  refine ⟨ret_ii ?_ rfl, below_drewN (Below.refl _ _) _⟩
  rw [num4 s o hs'.1]
  exact or4 _ _ _ _ (by omega) (by omega) (by omega) (by omega)

theorem gete_cases (z off n : Int) : (gete z off n = 0 ∧ z = 64 ∧ (n = 1 ∨ n = 2 ∨ n = 4) ∧ 0 ≤ off ∧ off ≤ 64 - n) ∨ (gete z off n = 4 ∧ z ≠ 64) ∨ (gete z off n = 1 ∧ z = 64 ∧ (fwide n = false ∨ (fwide n = true ∧ 0 ≤ n ∧ finside off n = false))) := by
  unfold gete
  by_cases hz : z = 64
  · rw [if_neg (not_not_intro hz)]
    by_cases hw : fwide n = true
    · have hn : n = 1 ∨ n = 2 ∨ n = 4 := by simpa [fwide] using hw
      by_cases hi : finside off n = true
      · rw [if_pos ⟨hw, hi⟩]
        have : 0 ≤ off ∧ 0 < n ∧ n ≤ 64 ∧ off ≤ 64 - n := by simpa [finside] using hi
        exact .inl ⟨rfl, hz, hn, this.1, this.2.2.2⟩
      · rw [if_neg (fun h => hi h.2)]
        exact .inr (.inr ⟨rfl, hz, .inr ⟨hw, by omega, by simpa using hi⟩⟩)
    · rw [if_neg (fun h => hw h.1)]
      exact .inr (.inr ⟨rfl, hz, .inl (by simpa using hw)⟩)
  · rw [if_pos hz]
    exact .inr (.inl ⟨rfl, hz⟩)

set_option maxRecDepth 100000 in
set_option maxHeartbeats 1000000 in
theorem get_any (s : ByteArray) (off n : Int) (hs : s.size ≤ 9223372036854775807) (w : World) : Calls Tryz.prog 54 #[.string s, .int .i64 off, .int .i64 n] w fun e w' => e = .returned (.tuple #[.int .i64 (getn s off n : Nat), .int .i64 (gete s.size off n)]) ∧ Below w.heap.size w w' := by
  rcases gete_cases s.size off n with ⟨e, hz, hn, h0, h1⟩ | ⟨e, hz⟩ | ⟨e, hz, hh⟩
  · have e2 : getn s off n = numAt s off.toNat n.toNat := by rw [getn, if_pos e]
    rw [e, e2]
    obtain ⟨o, rfl⟩ := Int.eq_ofNat_of_zero_le h0
    have hz' : s.size = 64 := by omega
    rcases hn with rfl | rfl | rfl
    · exact get1 s o hz' (by omega) w
    · exact get2 s o hz' (by omega) w
    · exact get4 s o hz' (by omega) w
  · have e2 : getn s off n = 0 := by rw [getn, if_neg (by omega)]
    have hE := Lib.hid (And.intro e e2)
    have hb : ((s.size : Int) != 64) = true := by simpa using hz
    clear e e2 hz
    go_enter Tryz.func54, Tryz.ntmps54
    go_wp2_with (first | (go_at_call 70; refine (wide_any _ _).mono ?_; rintro e w1 ⟨rfl, rfl⟩) | (go_at_call 71; refine (inside_any _ _ (by omega) _).mono ?_; rintro e w1 ⟨rfl, rfl⟩))
    go_ret2
    refine ⟨ret_ii ?_ ?_, Below.refl _ _⟩
    · rw [hE.out.2]; rfl
    · rw [hE.out.1]
  · have e2 : getn s off n = 0 := by rw [getn, if_neg (by omega)]
    have hE := Lib.hid (And.intro e e2)
    have hb : ((s.size : Int) != 64) = false := by simpa using hz
    clear e e2 hz
    rcases hh with h1 | ⟨h1, hn, h2⟩
    all_goals
      go_enter Tryz.func54, Tryz.ntmps54
      go_wp2_with (first | (go_at_call 70; refine (wide_any _ _).mono ?_; rintro e w1 ⟨rfl, rfl⟩) | (go_at_call 71; refine (inside_any _ _ (by omega) _).mono ?_; rintro e w1 ⟨rfl, rfl⟩))
      go_ret2
      refine ⟨ret_ii ?_ ?_, Below.refl _ _⟩
      · rw [hE.out.2]; rfl
      · rw [hE.out.1]

theorem blank_any (w : World) : Calls Tryz.prog 73 #[] w fun e w' => e = .returned (.string (S (List.replicate 64 0))) ∧ Below w.heap.size w w' := by
  have hr : (Lib.repeatL (⟨#[0]⟩ : ByteArray).data.toList 64) = List.replicate 64 0 := by decide
  have hc := Tryz.strings_Repeat ⟨#[0]⟩ 64 w (by omega) (by decide)
  rw [hr] at hc
  have HC := Lib.hid hc
  clear hc hr
  go_enter Tryz.func73, Tryz.ntmps73
  go_wp2_with (go_at_call 109; refine (HC.out).mono ?_; rintro e w1 ⟨rfl, hb⟩)
  go_ret
  exact ⟨rfl, hb⟩
end Cw
namespace Cw
open Go Go.RowKit

/-- Bytes laid over others from a place on. -/
def over (cur : List UInt8) (off : Nat) (l : List UInt8) : List UInt8 := cur.take off ++ (l ++ cur.drop (off + l.length))
theorem over_length (cur : List UInt8) (off : Nat) (l : List UInt8) (h : off + l.length ≤ cur.length) : (over cur off l).length = cur.length := by simp [over]; omega

/-- A block that begins with these bytes, and into which they may be written. -/
def Row (w : World) (g : Nat) (l : List UInt8) : Prop := ∃ cur t fz rest, w.heap[g]? = some (.cells cur t fz) ∧ cur.toList = bcells l ++ rest ∧ (l.length ≤ fz.1 ∨ fz.2 = 0)

theorem Row.cell {w : World} {g : Nat} {l : List UInt8} (h : Row w g l) : ∀ j v, (bcells l)[j]? = some v → w.cell? ((⟨g, 0, none⟩ : Addr).add j) = some v := by
  obtain ⟨cur, t, fz, rest, hg, hc, _⟩ := h
  intro j v hv
  have hadd : (⟨g, 0, none⟩ : Addr).add j = ⟨g, j, none⟩ := by unfold Addr.add; split <;> simp_all
  rw [hadd, cell_of_row w g j cur t fz hg, ← Array.getElem?_toList, hc, List.getElem?_append_left (by rcases Nat.lt_or_ge j (bcells l).length with h | h; exact h; rw [List.getElem?_eq_none h] at hv; cases hv)]
  exact hv

theorem Row.kept {B : Nat} {w w' : World} {g : Nat} {l : List UInt8} (h : Row w g l) (hb : Below B w w') (hg : g < B) : Row w' g l := by
  obtain ⟨cur, t, fz, rest, h1, h2, h3⟩ := h
  exact ⟨cur, t, fz, rest, by rw [hb.block g hg]; exact h1, h2, h3⟩

theorem Row.text {P : Program} {w : World} {g : Nat} {l : List UInt8} (h : Row w g l) (src dst e : TypeId) (hs : P.underlying src = some (.slice e)) (he : P.underlying e = some (.int .u8)) (hd : P.underlying dst = some .string) (n c : Nat) (hn : n = l.length) :
    (convert src dst (.slice (some ⟨g, 0, none⟩) n c)).run P w = .ok (.string (S l)) w := by
  subst hn
  exact run_str w src dst e hs he hd _ l c h.cell

theorem row_bytes (w : World) (s : ByteArray) (e : TypeId) : Row (Lib.bytesWorld w e s) w.heap.size s.data.toList := by
  refine ⟨_, _, _, List.replicate (grownCap w s.size 0 e - s.size) (.int .u8 0), Lib.bytesWorld_at_new w e s, ?_, .inl ?_⟩
  · simp [Lib.bytesCells, bcells]
  · simp [Lib.bytesCells]
theorem below_bytes (w : World) (s : ByteArray) (e : TypeId) : Below w.heap.size w (Lib.bytesWorld w e s) :=
  ⟨rfl, rfl, rfl, by rw [Lib.bytesWorld_size]; omega, fun k hk => Lib.bytesWorld_at_old w e s k hk⟩

/-- Cells stored into a row, clear of its frozen range. -/
theorem run_storeCells_clear {P : Program} (g o : Nat) (t : TypeId) (fz : Nat × Nat) : ∀ (vs : List Value) (i : Nat) (cur : Array Value) (w : World), w.heap[g]? = some (.cells cur t fz) → (o + i + vs.length ≤ fz.1 ∨ fz.2 = 0) → o + i + vs.length ≤ cur.size → (∀ v ∈ vs, v.oneCell' = true) →
    (storeCells ⟨g, o, none⟩ vs i).run P w = .ok () (w.setRow g (cur.toList.take (o + i) ++ vs ++ cur.toList.drop (o + i + vs.length)).toArray)
  | [], i, cur, w, hg, _, _, _ => by
    simp only [storeCells, List.append_nil, List.length_nil, Nat.add_zero, List.take_append_drop, Array.toArray_toList]
    rw [setRow_self w g cur t fz hg]
    rfl
  | v :: rest, i, cur, w, hg, hfz, hl, h1 => by
    have hi : o + i < cur.size := by simp at hl; omega
    have hadd : (⟨g, o, none⟩ : Addr).add i = ⟨g, o + i, none⟩ := by unfold Addr.add; split <;> simp_all
    have hcell : w.cell? ⟨g, o + i, none⟩ = some cur[o + i] := by simp [World.cell?, hg, hi]
    have hfro : w.frozen? ⟨g, o + i, none⟩ = false := by
      obtain ⟨lo, hi'⟩ := fz
      simp only [World.frozen?, hg, Bool.and_eq_false_iff, decide_eq_false_iff_not]
      simp only [List.length_cons] at hfz
      rcases hfz with h | h
      · left; omega
      · right; omega
    have hst : (store ((⟨g, o, none⟩ : Addr).add i) v).run P w = .ok () (w.setRow g (cur.setIfInBounds (o + i) v)) := by
      rw [hadd, run_store P w _ v _ (h1 v (by simp)), hcell]
      simp [hfro, setCell_eq_setRow w g (o + i) cur t fz v hg]
    have ih := run_storeCells_clear (P := P) g o t fz rest (i + 1) (cur.setIfInBounds (o + i) v) (w.setRow g (cur.setIfInBounds (o + i) v)) (setRow_heap w g cur _ t _ hg) (by simp at hfz ⊢; omega) (by simp at hl ⊢; omega) (fun x hx => h1 x (by simp [hx]))
    simp only [storeCells, Sem.run_bind, hst, Result.andThen_ok, ih, setRow_setRow]
    congr 3
    have e := list_seg_step cur.toList (o + i) v rest (by simp at hl ⊢; omega)
    simpa [Array.toList_setIfInBounds, Nat.add_assoc] using e

theorem bcells_one (l : List UInt8) : ∀ v ∈ bcells l, v.oneCell' = true := by
  intro v hv
  simp only [bcells, List.mem_map] at hv
  obtain ⟨b, _, rfl⟩ := hv
  rfl
theorem bcells_append (l m : List UInt8) : bcells (l ++ m) = bcells l ++ bcells m := by simp [bcells]
theorem bcells_take (l : List UInt8) (n : Nat) : bcells (l.take n) = (bcells l).take n := by simp [bcells, List.map_take]
theorem bcells_drop (l : List UInt8) (n : Nat) : bcells (l.drop n) = (bcells l).drop n := by simp [bcells, List.map_drop]

/-- 'copy(b[off:], t)': the walk's law. -/
theorem wpList_copy_str {P : Program} {w : World} {ops : Array Oper} {rest : List Oper} {o : Oper} {a : Act} {Q : Exit → Act → World → Prop} (hgd : o.guard = none) (d s : Operand) (dT sT : TypeId)
    (ho : o.op = .call { callee := .builtin .copy, args := #[d, s], argTypes := #[dT, sT] }) (elem : TypeId) (hu : P.underlying dT = some (.slice elem)) (hsz : (P.info? elem).map (·.size) = some 1)
    (g off dLen dCap : Nat) (t : ByteArray) (hd : a.eval d = .slice (some ⟨g, off, none⟩) dLen dCap) (hs : a.eval s = .string t) (l : List UInt8) (hR : Row w g l) (hfit : off + min t.size dLen ≤ l.length)
    (B : Nat) (w0 : World) (hb : Below B w0 w) (hBg : B ≤ g)
    (h : ∀ w', Row w' g (over l off (t.data.toList.take dLen)) → Below B w0 w' → wpList P ops Q rest (a.put o.dst (goInt (min t.size dLen : Nat))) w') : wpList P ops Q (o :: rest) a w := by
  obtain ⟨cur, ct, fz, rst, hg, hc, hfz⟩ := hR
  have hlen : (bcells (t.data.toList.take dLen)).length = min t.size dLen := by rw [bcells_length, List.length_take, Nat.min_comm]; rfl
  have hcs : cur.size = l.length + rst.length := by rw [← Array.length_toList, hc, List.length_append, bcells_length]
  have hst := run_storeCells_clear (P := P) g off ct fz (bcells (t.data.toList.take dLen)) 0 cur w hg (by rw [hlen]; simp; omega) (by rw [hlen]; simp; omega) (bcells_one _)
  simp only [Nat.add_zero] at hst
  have hrun : (Builtin.copy_ #[dT, sT] o.type #[.slice (some ⟨g, off, none⟩) dLen dCap, .string t]).run P w = .ok (goInt (min t.size dLen : Nat)) (w.setRow g (cur.toList.take off ++ bcells (t.data.toList.take dLen) ++ cur.toList.drop (off + (bcells (t.data.toList.take dLen)).length)).toArray) := by
    have htk : List.take (Nat.min t.size dLen) (List.map (fun b : UInt8 => Value.int IntKind.u8 (b.toNat : Int)) t.data.toList) = bcells (t.data.toList.take dLen) := by
      rw [bcells_take]
      apply List.ext_getElem?
      intro j
      simp only [List.getElem?_take, bcells]
      have hsz : t.size = t.data.toList.length := rfl
      by_cases h1 : j < dLen <;> by_cases h2 : j < t.size
      · rw [if_pos (Nat.lt_min.2 ⟨h2, h1⟩), if_pos h1]
      · rw [if_neg (fun h => h2 (Nat.lt_min.1 h).1), if_pos h1, List.getElem?_eq_none (by simp; omega)]
      · rw [if_neg (fun h => h1 (Nat.lt_min.1 h).2), if_neg h1]
      · rw [if_neg (fun h => h1 (Nat.lt_min.1 h).2), if_neg h1]
    cases hq : P.info? elem with
    | none => simp [hq] at hsz
    | some i =>
      simp [Builtin.copy_, run_underlying hu, Builtin.lenOf, Builtin.firstCells, Go.sizeOf, typeInfo, hq]
      rw [htk, hst]
      simp [Result.andThen]
  refine wpList_plain hgd fun K hK => ?_
  unfold Oper.wp
  simp only [execOp, ho, resolve, invoke, builtin, Sem.run_bind, Sem.run_pure, Result.andThen_ok, List.map_toArray, List.map_cons, List.map_nil, hd, hs, hrun]
  refine hK _ _ (h _ ?_ (hb.trans ⟨rfl, rfl, rfl, by simp [World.setRow], fun k hk => setRow_other w g k _ (by omega)⟩))
  refine ⟨_, ct, fz, rst, setRow_heap w g cur _ ct fz hg, ?_, ?_⟩
  · have hl : (bcells l).length = l.length := bcells_length l
    rw [hc, List.take_append_of_le_length (by omega), List.drop_append_of_le_length (by rw [hlen]; omega), bcells_length, ← bcells_take, ← bcells_drop, over, bcells_append, bcells_append]
    simp
  · rw [over_length _ _ _ (by rw [← bcells_length, hlen]; exact hfit)]
    exact hfz
end Cw
namespace Cw
open Go Go.RowKit Go.IntWalk
open Go.Proofs

theorem num_lt (l : List UInt8) : num l < 256 ^ l.length := by
  induction l with
  | nil => simp [num]
  | cons b l ih =>
    have := b.toNat_lt
    simp only [num, List.foldr_cons, List.length_cons, Nat.pow_succ] at ih ⊢
    omega
end Cw
/- ref01.Put; what all laws of the layer use: works, names; book.Among, book.Fit. -/
namespace Cw
open Go Go.RowKit Go.IntWalk
open Go.Proofs

theorem held2 {w : World} {g : Nat} {x y : Value} {T : TypeId} (h : w.heap[g]? = some (.cells #[x, y] T (0, 0))) :
    w.cell? ⟨g, 0, none⟩ = some x ∧ w.cell? ⟨g, 1, none⟩ = some y ∧ w.frozen? ⟨g, 0, none⟩ = false ∧ w.frozen? ⟨g, 1, none⟩ = false :=
  ⟨cell_of_row w g 0 _ T (0, 0) h, cell_of_row w g 1 _ T (0, 0) h, by simp [World.frozen?, h], by simp [World.frozen?, h]⟩

theorem stored2 {w : World} {g : Nat} {x y : Value} {T : TypeId} (h : w.heap[g]? = some (.cells #[x, y] T (0, 0))) (a b : Value) :
    (w.setCell ⟨g, 0, none⟩ a).cell? ⟨g, 0, none⟩ = some a ∧ ((w.setCell ⟨g, 0, none⟩ a).setCell ⟨g, 1, none⟩ b).cell? ⟨g, 1, none⟩ = some b := by
  have h1 := setCell_eq_setRow w g 0 #[x, y] T (0, 0) a h
  have hh1 : (w.setCell ⟨g, 0, none⟩ a).heap[g]? = some (.cells #[a, y] T (0, 0)) := by rw [h1]; exact setRow_heap w g _ _ T _ h
  have h2 := setCell_eq_setRow (w.setCell ⟨g, 0, none⟩ a) g 1 #[a, y] T (0, 0) b hh1
  have hh2 : ((w.setCell ⟨g, 0, none⟩ a).setCell ⟨g, 1, none⟩ b).heap[g]? = some (.cells #[a, b] T (0, 0)) := by rw [h2]; exact setRow_heap _ g _ _ T _ hh1
  exact ⟨(held2 hh1).1, (held2 hh2).2.1⟩
theorem below_setCell {B g : Nat} {w0 w : World} (hb : Below B w0 w) (hg : B ≤ g) (o : Nat) (v : Value) : Below B w0 (w.setCell ⟨g, o, none⟩ v) :=
  hb.trans ⟨rfl, rfl, rfl, by simp [World.setCell], fun k hk => Below.heap_setCell _ _ _ _ (fun e => by simp at e; omega)⟩

end Cw
namespace Cw
open Go Go.RowKit
/-- A block's two cells. -/
def two (w : World) (g : Nat) (a b : Value) : Prop := w.cell? ⟨g, 0, none⟩ = some a ∧ w.cell? ⟨g, 1, none⟩ = some b ∧ g < w.heap.size
theorem two_new (w : World) (a b : Value) (T : TypeId) : two (w.alloc (.cells #[a, b] T)) w.heap.size a b :=
  ⟨cell_of_row _ _ 0 #[a, b] T (0, 0) (heap_alloc_new w _), cell_of_row _ _ 1 #[a, b] T (0, 0) (heap_alloc_new w _), by simp⟩
theorem two_step {w w1 : World} {g : Nat} {a b : Value} (h : two w g a b) (hb : Below w.heap.size w w1) : two w1 g a b :=
  ⟨(hb.cell (p := ⟨g, 0, none⟩) h.2.2).trans h.1, (hb.cell (p := ⟨g, 1, none⟩) h.2.2).trans h.2.1, Nat.lt_of_lt_of_le h.2.2 hb.size⟩
theorem two_alloc {w : World} {g : Nat} {a b : Value} (h : two w g a b) (o : Obj) : two (w.alloc o) g a b :=
  two_step h ((Below.refl _ _).alloc (Nat.le_refl _) _)
theorem below_alloc {w w0 : World} (h : Below w.heap.size w w0) (o : Obj) : Below w.heap.size w (w0.alloc o) := h.alloc h.size _
theorem lit_add (n i : Nat) : (⟨n, 0, none⟩ : Addr).add i = ⟨n, i, none⟩ := by unfold Addr.add; split <;> simp_all
end Cw
namespace Cw
open Go Go.RowKit Go.IntWalk
open Go.Proofs

/-- A text made a sector. -/
def fit (s : ByteArray) : ByteArray := S (over (List.replicate 64 0) 0 (s.data.toList.take 64))
theorem S_size (l : List UInt8) : (S l).size = l.length := by simp [S, ByteArray.size]
theorem u8_size : (Tryz.prog.info? 5).map (·.size) = some 1 := by kernel_rfl

/-- A number from 0 to n - 1. -/
theorem among_eq (x n : Int) : (x.tmod n + n) % n = x % n := by
  rw [Int.add_emod_right, Int.tmod_def, Int.sub_mul_emod_self_left]

theorem among_any (x n : Int) (h0 : 0 < n) (h1 : n ≤ 1000000000) (w : World) : Calls Tryz.prog 13 #[.int .i64 x, .int .i64 n] w fun e w' => e = .returned (.int .i64 (x % n)) ∧ w = w' := by
  have ha := among_eq x n
  have hl := Int.lt_tmod_of_pos x h0
  have hu := Int.tmod_lt_of_pos x h0
  have H := Lib.hid ha
  clear ha
  have hn : (n == 0) = false := by simp; omega
  go_enter Tryz.func13, Tryz.ntmps13
  go_wp2
  go_ret
  exact ⟨ret_int H.out, rfl⟩
end Cw
namespace Cw
open Go Go.RowKit Go.IntWalk
open Go.Proofs

/-- A patch: its place, its text. -/
abbrev Pt := Int × ByteArray
/-- A slice value that holds these patches. -/
def Sl (w : World) (v : Value) (l : List Pt) : Prop := ∃ (a : Option Addr) (c : Nat), v = .slice a l.length c ∧ l.length ≤ c ∧ c ≤ maxLen ∧
  (∀ b, a = some b → 0 < l.length → b.block < w.heap.size) ∧ (∀ i (h : i < l.length), ∃ b, a = some b ∧ w.cell? (b.add (i * 2)) = some (.int .i64 l[i].1) ∧ w.cell? (b.add (i * 2 + 1)) = some (.string l[i].2))
theorem Sl.step {w w1 : World} {v : Value} {l : List Pt} (h : Sl w v l) (hb : Below w.heap.size w w1) : Sl w1 v l := by
  obtain ⟨a, c, h1, h2, h3, h4, h5⟩ := h
  refine ⟨a, c, h1, h2, h3, fun b hb' h0 => Nat.lt_of_lt_of_le (h4 b hb' h0) hb.size, fun i hi => ?_⟩
  obtain ⟨b, e, h6, h7⟩ := h5 i hi
  have hk := h4 b e (by omega)
  have blk : ∀ n, (b.add n).block = b.block := fun n => by unfold Addr.add; split <;> rfl
  exact ⟨b, e, (hb.cell (p := b.add (i * 2)) (by rw [blk]; exact hk)).trans h6, (hb.cell (p := b.add (i * 2 + 1)) (by rw [blk]; exact hk)).trans h7⟩

def okp (p : Pt) : Bool := finside p.1 p.2.size
/-- Bytes, patched by one, by all. -/
def one (s : List UInt8) (p : Pt) : List UInt8 := over s p.1.toNat p.2.data.toList
def patchAll (s : List UInt8) (l : List Pt) : List UInt8 := l.foldl one s
def pte (s : ByteArray) (l : List Pt) : Int := if s.size ≠ 64 then 4 else if 1024 < l.length then 2 else if l.all okp then 0 else 1
def pt (s : ByteArray) (l : List Pt) : ByteArray := if pte s l = 0 then S (patchAll s.data.toList l) else ⟨#[]⟩

theorem okp_iff {p : Pt} (h : okp p = true) : 0 ≤ p.1 ∧ 0 < p.2.size ∧ p.2.size ≤ 64 ∧ p.1 ≤ 64 - p.2.size := by
  have := h
  simp [okp, finside] at this
  omega
theorem one_length (s : List UInt8) (p : Pt) (hs : s.length = 64) (h : okp p = true) : (one s p).length = 64 := by
  have := okp_iff h
  rw [one, over_length, hs]
  have e : p.2.data.toList.length = p.2.size := rfl
  omega
theorem patchAll_length (l : List Pt) : ∀ (s : List UInt8), s.length = 64 → l.all okp = true → (patchAll s l).length = 64 := by
  induction l with
  | nil => intro s hs _; exact hs
  | cons p l ih =>
    intro s hs h
    simp only [List.all_cons, Bool.and_eq_true] at h
    exact ih (one s p) (one_length s p hs h.1) h.2
theorem patchAll_take (s : List UInt8) (l : List Pt) (k : Nat) (hk : k < l.length) : patchAll s (l.take (k + 1)) = one (patchAll s (l.take k)) l[k] := by
  rw [← List.take_append_getElem hk, patchAll, List.foldl_append]
  rfl
theorem all_take (l : List Pt) (k : Nat) (hk : k < l.length) (h : (l.take k).all okp = true) (h1 : okp l[k] = true) : (l.take (k + 1)).all okp = true := by
  rw [← List.take_append_getElem hk, List.all_append, h]
  simpa using h1
theorem not_all (l : List Pt) (k : Nat) (hk : k < l.length) (h1 : okp l[k] = false) : l.all okp = false := by
  rw [List.all_eq_false]
  exact ⟨l[k], List.getElem_mem hk, by simp [h1]⟩

theorem Row.lt {w : World} {g : Nat} {l : List UInt8} (h : Row w g l) : g < w.heap.size := by
  obtain ⟨cur, t, fz, rest, hg, _⟩ := h
  rcases Nat.lt_or_ge g w.heap.size with h | h
  · exact h
  · rw [Array.getElem?_eq_none h] at hg; cases hg
theorem add_succ (b : Addr) (n : Nat) : b.add (n + 1) = ⟨(b.add n).block, (b.add n).off + 1, none⟩ := by
  obtain ⟨b, o, sp⟩ := b
  unfold Addr.add
  rw [if_neg (by omega)]
  split <;> simp_all [Nat.add_assoc]
theorem add_block (b : Addr) (n : Nat) : (b.add n).block = b.block := by unfold Addr.add; split <;> rfl

set_option maxRecDepth 100000 in
set_option maxHeartbeats 1000000 in
theorem patched_any (s : ByteArray) (v : Value) (l : List Pt) (hp : ∀ p ∈ l, p.2.size ≤ 9223372036854775807) (hs : s.size ≤ 9223372036854775807) (w : World) (hl : Sl w v l) : Calls Tryz.prog 72 #[.string s, v] w fun e w' => e = .returned (.tuple #[.string (pt s l), .int .i64 (pte s l)]) ∧ Below w.heap.size w w' := by
  obtain ⟨a, c, rfl, hlc, hcm, hab, hcell⟩ := hl
  by_cases hz : s.size = 64
  · by_cases hn : 1024 < l.length
    · have e1 : pte s l = 2 := by rw [pte, if_neg (by omega), if_pos hn]
      have e2 : pt s l = ⟨#[]⟩ := by rw [pt, if_neg (by omega)]
      have hE := Lib.hid (And.intro e1 e2)
      have hb : ((s.size : Int) != 64) = false := by rw [hz]; rfl
      clear e1 e2 hz
      go_enter Tryz.func72, Tryz.ntmps72
      go_wp2_with fail
      go_ret2
      rw [hE.out.1, hE.out.2]
      exact ⟨rfl, Below.refl _ _⟩
    · have hb : ((s.size : Int) != 64) = false := by rw [hz]; rfl
      have hcb := Lib.run_convert_string_bytes (P := Tryz.prog) w 9 142 5 s Tryz.underlying9 Tryz.underlying142 Tryz.underlying5
      have hR0 := row_bytes w s 5
      have hB0 := below_bytes w s 5
      have hc0 := grownCap_ge w s.size 0 5
      have hl0 : s.data.toList.length = 64 := hz
      have hE : (True ∧ pte s l = if l.all okp then 0 else 1) := ⟨trivial, by rw [pte, if_neg (by omega), if_neg hn]⟩
      have hE := Lib.hid hE
      rw [hz] at hcb hc0
      generalize grownCap w 64 0 5 = c0 at *
      generalize Lib.bytesWorld w 5 s = w0 at *
      go_enter Tryz.func72, Tryz.ntmps72
      go_wp2_with fail
      go_loopw [22] (fun i wr => ∃ k : Nat, k ≤ l.length ∧ i = .int .i64 k ∧ (l.take k).all okp = true ∧ Below w.heap.size w wr ∧ Row wr w.heap.size (patchAll s.data.toList (l.take k))) (fun i _ => l.length - (RowKit.intOf i).toNat)
      case atStart => exact ⟨0, by omega, rfl, by simp, hB0, by simpa [patchAll] using hR0⟩
      case round =>
        obtain ⟨k, hk, rfl, hall, hB, hR⟩ := hrel
        by_cases hlt : k < l.length
        · obtain ⟨b, rfl, d0, d1⟩ := hcell k hlt
          have hbk := hab b rfl (by omega)
          have d0 := (hB.cell (p := b.add (k * 2)) (by rw [add_block]; exact hbk)).trans d0
          have d1 := (hB.cell (p := b.add (k * 2 + 1)) (by rw [add_block]; exact hbk)).trans d1
          rw [add_succ] at d1
          have hp1 := hp l[k] (List.getElem_mem hlt)
          have hRa := fun o => hR.kept ((Below.refl wr.heap.size wr).alloc (Nat.le_refl _) o) hR.lt
          by_cases hok : okp l[k] = true
          · have hok' := okp_iff hok
            have hx : fcheck l[k].1 l[k].2.size = 0 := by rw [fcheck]; exact if_pos hok
            generalize hpk : l[k] = q at *
            obtain ⟨o, t⟩ := q
            simp only at *
            go_wp2_with (go_at_call 108; refine (fcheck_any _ _ hp1 _).mono ?_; rintro e w1 ⟨rfl, hb⟩; have hT := two_step (two_new wr _ _ _) hb; have t0 := hT.1; have t1 := hT.2.1; have hB1 := below_step hb (by have := hB.size; simp; omega) (below_alloc hB _); have hR1 := (hRa _).kept hb (hRa _).lt)
            clear hb hT d0 d1 hRa hcell hB0 hR0 hcb
            obtain ⟨o, rfl⟩ := Int.eq_ofNat_of_zero_le hok'.1
            have o1 : o < 64 := by omega
            have o2 : o < c0 := by omega
            have o3 : o + t.size ≤ 64 := by omega
            have o4 : (o : Int) ≤ 64 := by omega
            go_still_tail 6, (by kernel_rfl)
            rw [if_neg (by omega)]
            have hR2 : Row w1.drew w.heap.size (patchAll s.data.toList (l.take k)) := hR1
            have hB2 : Below w.heap.size w w1.drew := hB1.drew
            change wpList _ _ _ _ _ w1.drew
            generalize w1.drew = w2 at *
            have hln := patchAll_length (l.take k) s.data.toList hl0 hall
            refine wpList_copy_str rfl (.tmp 34) (.tmp 36) 142 9 rfl 5 Tryz.underlying142 u8_size w.heap.size o (64 - o) (c0 - o) t rfl rfl _ hR2 (by rw [hln]; omega) w.heap.size w hB2 (Nat.le_refl _) ?_
            intro w3 hR3 hB3
            clear t0 t1 hR2 hB2 hR1 hB1
            go_wp2_with fail
            go_roundw
            case rel =>
              refine ⟨k + 1, by omega, by go_num, all_take l k hlt hall (by rw [hpk]; exact hok), hB3, ?_⟩
              rw [patchAll_take _ _ _ hlt, hpk]
              rw [List.take_of_length_le (show t.data.toList.length ≤ 64 - o by show t.size ≤ _; omega)] at hR3
              exact hR3
            case measure => simp [RowKit.intOf]; omega
          · have hok0 : okp l[k] = false := by simpa using hok
            have hx : fcheck l[k].1 l[k].2.size = 1 := by rw [fcheck]; exact if_neg hok
            have e1 : pte s l = 1 := by rw [hE.out.2, not_all l k hlt hok0]; rfl
            have e2 : pt s l = ⟨#[]⟩ := by rw [pt, if_neg (by omega)]
            have hF := Lib.hid (And.intro e1 e2)
            clear e1 e2
            generalize hpk : l[k] = q at *
            obtain ⟨o, t⟩ := q
            simp only at *
            go_wp2_with (go_at_call 108; refine (fcheck_any _ _ hp1 _).mono ?_; rintro e w1 ⟨rfl, hb⟩; have hB1 := below_step hb (by have := hB.size; simp; omega) (below_alloc hB _))
            go_ret2
            rw [hF.out.1, hF.out.2]
            exact ⟨rfl, hB1⟩
        · obtain rfl : k = l.length := by omega
          rw [List.take_length] at hall hR
          have e1 : pte s l = 0 := by rw [hE.out.2, hall]; rfl
          have e2 : pt s l = S (patchAll s.data.toList l) := by rw [pt, if_pos e1]
          have hF := Lib.hid (And.intro e1 e2)
          clear e1 e2
          have hcv := hR.text (P := Tryz.prog) 142 9 5 Tryz.underlying142 Tryz.underlying5 Tryz.underlying9 64 c0 (patchAll_length l s.data.toList hl0 hall).symm
          go_wp2_with fail
          go_ret2
          rw [hF.out.1, hF.out.2]
          exact ⟨rfl, hB⟩
  · have e1 : pte s l = 4 := by rw [pte, if_pos hz]
    have e2 : pt s l = ⟨#[]⟩ := by rw [pt, if_neg (by omega)]
    have hE := Lib.hid (And.intro e1 e2)
    have hb : ((s.size : Int) != 64) = true := by simp; omega
    clear e1 e2 hz
    go_enter Tryz.func72, Tryz.ntmps72
    go_wp2_with fail
    go_ret2
    rw [hE.out.1, hE.out.2]
    exact ⟨rfl, Below.refl _ _⟩
end Cw
/- The walks of the document's One, Patched. -/
namespace Cw
open Go Go.RowKit Go.IntWalk
open Go.Proofs

end Cw
namespace Cw
open Go Go.RowKit Go.IntWalk
open Go.Proofs

def ove (a b : Pt) : Int := if okp a = true ∧ okp b = true then 0 else 1
def both (a b : Pt) : Bool := decide (max a.1 b.1 < min (a.1 + a.2.size) (b.1 + b.2.size))
def ovb (a b : Pt) : Bool := if ove a b = 0 then both a b else false
theorem ret_bi {a a' : Bool} {b b' : Int} (h : a = a') (h2 : b = b') : Ending.returned (.tuple #[.bool a, .int .i64 b]) = .returned (.tuple #[.bool a', .int .i64 b']) := by rw [h, h2]

theorem over_start (w : World) (a b c d : Value) (T : TypeId) : two ((w.alloc (.cells #[a, b] T)).alloc (.cells #[c, d] T)) w.heap.size a b ∧ two ((w.alloc (.cells #[a, b] T)).alloc (.cells #[c, d] T)) (w.heap.size + 1) c d ∧
    Below w.heap.size w ((w.alloc (.cells #[a, b] T)).alloc (.cells #[c, d] T)) := by
  refine ⟨two_alloc (two_new w a b T) _, ?_, below_alloc (below_alloc (Below.refl _ _) _) _⟩
  have := two_new (w.alloc (.cells #[a, b] T)) c d T
  simpa using this

theorem over_lit (w : World) (a b c d : Value) (T : TypeId) : let w0 := ((w.alloc (.cells #[a, b] T)).alloc (.cells #[c, d] T)).alloc (.cells #[a, b, c, d] T)
    two w0 w.heap.size a b ∧ two w0 (w.heap.size + 1) c d ∧ (w0.cell? ⟨w.heap.size + 1 + 1, 0, none⟩ = some a ∧ w0.cell? ⟨w.heap.size + 1 + 1, 1, none⟩ = some b ∧ w0.cell? ⟨w.heap.size + 1 + 1, 2, none⟩ = some c ∧ w0.cell? ⟨w.heap.size + 1 + 1, 3, none⟩ = some d) ∧
    w.heap.size + 1 + 1 < w0.heap.size ∧ Below w.heap.size w w0 := by
  obtain ⟨h1, h2, h3⟩ := over_start w a b c d T
  have hn := fun o => cell_of_row _ ((w.alloc (.cells #[a, b] T)).alloc (.cells #[c, d] T)).heap.size o #[a, b, c, d] T (0, 0) (heap_alloc_new ((w.alloc (.cells #[a, b] T)).alloc (.cells #[c, d] T)) _)
  refine ⟨two_alloc h1 _, two_alloc h2 _, ?_, by simp, below_alloc h3 _⟩
  simpa using And.intro (hn 0) (And.intro (hn 1) (And.intro (hn 2) (hn 3)))

set_option maxRecDepth 100000 in
set_option maxHeartbeats 1000000 in
theorem over_any (a b : Pt) (za : a.2.size ≤ 9223372036854775807) (zb : b.2.size ≤ 9223372036854775807) (w : World) : Calls Tryz.prog 184 #[.agg #[.int .i64 a.1, .string a.2], .agg #[.int .i64 b.1, .string b.2]] w fun e w' => e = .returned (.tuple #[.bool (ovb a b), .int .i64 (ove a b)]) ∧ Below w.heap.size w w' := by
  have hx : fcheck a.1 a.2.size = if okp a = true then 0 else 1 := rfl
  have hy : fcheck b.1 b.2.size = if okp b = true then 0 else 1 := rfl
  have hE : True ∧ ovb a b = (if ove a b = 0 then both a b else false) := ⟨trivial, rfl⟩
  have hE' : True ∧ ove a b = (if okp a = true ∧ okp b = true then 0 else 1) := ⟨trivial, rfl⟩
  have HE := Lib.hid (And.intro hE.2 hE'.2)
  have hokA := fun h => @okp_iff a h
  have hokB := fun h => @okp_iff b h
  have hBo : both a b = decide (max a.1 b.1 < min (a.1 + a.2.size) (b.1 + b.2.size)) := rfl
  have HB := Lib.hid (And.intro hokA (And.intro hokB hBo))
  clear hE hE' hokA hokB hBo
  generalize okp a = ka at *
  generalize okp b = kb at *
  generalize ovb a b = va at *
  generalize ove a b = vb at *
  generalize both a b = vc at *
  obtain ⟨o, t⟩ := a
  obtain ⟨p, u⟩ := b
  simp only at *
  go_enter Tryz.func184, Tryz.ntmps184
  go_wp2_with fail
  have hQ := over_lit w (.int .i64 o) (.string t) (.int .i64 p) (.string u) 86
  generalize World.alloc (World.alloc (World.alloc w _) _) _ = w0 at *
  obtain ⟨hA, hC, hD, hF, hB⟩ := hQ
  go_loopw [13] (fun i wr => ∃ k : Nat, k ≤ 2 ∧ i = .int .i64 k ∧ (0 < k → ka = true) ∧ (1 < k → kb = true) ∧ Below w0.heap.size w0 wr) (fun i _ => 2 - (RowKit.intOf i).toNat)
  case atStart => exact ⟨0, by omega, rfl, by omega, by omega, Below.refl _ _⟩
  case round =>
    obtain ⟨k, hk, rfl, hka, hkb, hBr⟩ := hrel
    have hA := two_step hA hBr
    have hC := two_step hC hBr
    have hW := below_step hBr hB.size hB
    have a0 := hA.1
    have a1 := hA.2.1
    have c0 := hC.1
    have c1 := hC.2.1
    have d0 := (hBr.cell (p := ⟨w.heap.size + 1 + 1, 0, none⟩) hF).trans hD.1
    have d1 := (hBr.cell (p := ⟨w.heap.size + 1 + 1, 1, none⟩) hF).trans hD.2.1
    have d2 := (hBr.cell (p := ⟨w.heap.size + 1 + 1, 2, none⟩) hF).trans hD.2.2.1
    have d3 := (hBr.cell (p := ⟨w.heap.size + 1 + 1, 3, none⟩) hF).trans hD.2.2.2
    rcases (show k = 0 ∨ k = 1 ∨ k = 2 by omega) with rfl | rfl | rfl
    · by_cases h : ka = true
      · rw [if_pos h] at hx
        go_wp2_with (go_at_call 108; refine (fcheck_any _ _ (by assumption) _).mono ?_; rintro e w1 ⟨rfl, hb⟩; have hB1 := below_step hb (by simp) (below_alloc (Below.refl wr.heap.size wr) _); clear hb)
        go_roundw
        case rel => exact ⟨1, by omega, rfl, fun _ => h, by omega, below_step hB1 hBr.size hBr⟩
        case measure => simp [RowKit.intOf]
      · rw [if_neg h] at hx
        go_wp2_with (go_at_call 108; refine (fcheck_any _ _ (by assumption) _).mono ?_; rintro e w1 ⟨rfl, hb⟩; have hB1 := below_step hb (by simp) (below_alloc (Below.refl wr.heap.size wr) _); clear hb)
        go_ret2
        have e2 : vb = 1 := by rw [HE.out.2, if_neg (fun h2 => h h2.1)]
        have e1 : va = false := by rw [HE.out.1, e2]; rfl
        exact ⟨ret_bi e1.symm e2.symm, below_step hB1 hW.size hW⟩
    · by_cases h : kb = true
      · rw [if_pos h] at hy
        go_wp2_with (go_at_call 108; refine (fcheck_any _ _ (by assumption) _).mono ?_; rintro e w1 ⟨rfl, hb⟩; have hB1 := below_step hb (by simp) (below_alloc (Below.refl wr.heap.size wr) _); clear hb)
        go_roundw
        case rel => exact ⟨2, by omega, rfl, fun _ => hka (by omega), fun _ => h, below_step hB1 hBr.size hBr⟩
        case measure => simp [RowKit.intOf]
      · rw [if_neg h] at hy
        go_wp2_with (go_at_call 108; refine (fcheck_any _ _ (by assumption) _).mono ?_; rintro e w1 ⟨rfl, hb⟩; have hB1 := below_step hb (by simp) (below_alloc (Below.refl wr.heap.size wr) _); clear hb)
        go_ret2
        have e2 : vb = 1 := by rw [HE.out.2, if_neg (fun h2 => h h2.2)]
        have e1 : va = false := by rw [HE.out.1, e2]; rfl
        exact ⟨ret_bi e1.symm e2.symm, below_step hB1 hW.size hW⟩
    · have g1 := HB.out.1 (hka (by omega))
      have g2 := HB.out.2.1 (hkb (by omega))
      have e2 : vb = 0 := by rw [HE.out.2, if_pos ⟨hka (by omega), hkb (by omega)⟩]
      have e1 : va = vc := by rw [HE.out.1, if_pos e2]
      have HF := Lib.hid (And.intro e1 e2)
      clear e1 e2
      go_wp2_with fail
      go_ret2
      refine ⟨ret_bi ?_ ?_, hW⟩
      · rw [HF.out.1, HB.out.2.2]
      · rw [HF.out.2]
end Cw
namespace Cw
open Go Go.RowKit Go.IntWalk
open Go.Proofs

theorem over_get (cur : List UInt8) (off : Nat) (l : List UInt8) (h : off + l.length ≤ cur.length) (j : Nat) : (over cur off l)[j]? = if off ≤ j ∧ j < off + l.length then l[j - off]? else cur[j]? := by
  simp only [over, List.getElem?_append, List.length_take, List.getElem?_take, List.getElem?_drop]
  rw [Nat.min_eq_left (by omega)]
  by_cases h1 : j < off
  · simp only [if_pos h1]
    rw [if_neg (by omega)]
  · rw [if_neg h1]
    by_cases h2 : j < off + l.length
    · rw [if_pos (by omega), if_pos (by omega)]
    · rw [if_neg (by omega), if_neg (by omega)]
      congr 1
      omega

theorem pt_ok (s : ByteArray) (l : List Pt) (hs : s.size = 64) (hl : l.length ≤ 1024) (h : l.all okp = true) : pte s l = 0 ∧ pt s l = S (patchAll s.data.toList l) := by
  have : pte s l = 0 := by rw [pte, if_neg (by omega), if_neg (by omega), if_pos h]
  exact ⟨this, by rw [pt, if_pos this]⟩

end Cw
namespace Cw
open Go Go.RowKit

theorem le_cons (n x : Nat) : le (n + 1) x = UInt8.ofNat x :: le n (x / 256) := by
  simp only [le, List.range_succ_eq_map, List.map_cons, List.map_map, Nat.pow_zero, Nat.div_one]
  congr 1
  apply List.map_congr_left
  intro i _
  simp only [Function.comp_apply, Nat.pow_succ, Nat.div_div_eq_div_mul, Nat.mul_comm]
theorem num_le : ∀ (n x : Nat), x < 256 ^ n → num (le n x) = x
  | 0, x, h => by simp at h; subst h; rfl
  | n + 1, x, h => by
    rw [le_cons]
    have h2 : x / 256 < 256 ^ n := by rw [Nat.pow_succ] at h; exact Nat.div_lt_of_lt_mul (by rw [Nat.mul_comm]; exact h)
    have ih := num_le n (x / 256) h2
    have hb : (UInt8.ofNat x).toNat = x % 256 := by simp
    show (UInt8.ofNat x).toNat + 256 * num (le n (x / 256)) = x
    rw [ih, hb]
    omega
theorem numAt_max (s : ByteArray) (o n : Nat) : numAt s o n < 256 ^ n := by
  refine Nat.lt_of_lt_of_le (num_lt _) (Nat.pow_le_pow_right (by decide) ?_)
  rw [List.length_take]
  omega
end Cw
