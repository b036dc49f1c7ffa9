/- The walks of the program's package wire: sum, Encode; its statements' example. -/
import Derived.Test.YtekgkkohiindkaaWireW
import Derived.Test.YtekgkkohiindkaaPatchW
namespace Cw
open Go Go.RowKit Go.IntWalk
open Go.Proofs

theorem bsum_take (l : List UInt8) (k : Nat) (h : k < l.length) : ((bsum (l.take (k + 1))).toNat : Int) = (((bsum (l.take k)).toNat : Int) + (l[k].toNat : Int)) % 256 := by
  rw [← List.take_append_getElem h, bsum_append]
  have e : bsum [l[k]] = l[k] := by simp [bsum]
  rw [e, UInt8.toNat_add]
  omega
theorem S_append (a b : List UInt8) : S a ++ S b = S (a ++ b) := by
  apply ByteArray.ext
  simp [S]
theorem strOf (s : ByteArray) : S s.data.toList = s := by simp [S]

set_option maxRecDepth 100000 in
set_option maxHeartbeats 1000000 in
theorem wsum_any (s : ByteArray) (hs : s.size ≤ 4294967296) (w : World) : Calls Try.prog 83 #[.string s] w fun e w' => e = .returned (.string (S [bsum s.data.toList])) ∧ Below w.heap.size w w' := by
  have hcb := Lib.run_convert_string_bytes (P := Try.prog) w 9 99 5 s Try.underlying9 Try.underlying99 Try.underlying5
  have hR := row_bytes w s 5
  have hB0 := below_bytes w s 5
  have hlt := hR.lt
  generalize grownCap w s.size 0 5 = c0 at *
  generalize Lib.bytesWorld w 5 s = w0 at *
  have hcv := fun (c0 : Int) => run_str_lit (P := Try.prog) 99 9 5 Try.underlying99 Try.underlying5 Try.underlying9 w0 [c0] 1
  simp only [List.map_cons, List.map_nil, List.length_cons, List.length_nil] at hcv
  have HR := Lib.hid hR
  clear hR
  go_enter Try.func83, Try.ntmps83
  go_wp2_with fail
  go_loop [3, 9] (fun n i => ∃ k : Nat, k ≤ s.size ∧ i = .int .i64 k ∧ n = .int .u8 (bsum (s.data.toList.take k)).toNat) (fun _ i => s.size - (RowKit.intOf i).toNat)
  case atStart => exact ⟨0, by omega, rfl, by simp [bsum]⟩
  case round =>
    obtain ⟨k, hk, rfl, rfl⟩ := hrel
    by_cases hlt : k < s.size
    · have hc := HR.out.cell k (.int .u8 (s.data.toList[k]'hlt).toNat) (by rw [bcells, List.getElem?_map, List.getElem?_eq_getElem hlt]; rfl)
      rw [lit_add] at hc
      have hst := bsum_take s.data.toList k hlt
      have b1 := (bsum (s.data.toList.take k)).toNat_lt
      have b2 := (s.data.toList[k]'hlt).toNat_lt
      have HS := Lib.hid hst
      clear hst
      generalize (bsum (s.data.toList.take k)).toNat = x at *
      generalize (s.data.toList[k]'hlt).toNat = y at *
      go_wp2_with fail
      go_round
      case rel => exact ⟨k + 1, by omega, by go_num, by rw [HS.out]⟩
      case measure => simp [RowKit.intOf]; omega
    · obtain rfl : k = s.size := by omega
      have e : s.data.toList.take s.size = s.data.toList := List.take_of_length_le (Nat.le_refl _)
      rw [e]
      have hcv' := hcv (bsum s.data.toList).toNat
      have e2 : UInt8.ofNat ((bsum s.data.toList).toNat : Int).toNat = bsum s.data.toList := by simp
      rw [e2] at hcv'
      clear hcv
      generalize hb : bsum s.data.toList = b at *
      have HB := Lib.hid hb
      clear hb
      go_wp2_with fail
      go_ret
      exact ⟨by rw [HB.out]; rfl, below_alloc hB0 _⟩

theorem put_fit (n x : Int) (h : n = 1 ∨ n = 2 ∨ n = 4) (h0 : 0 ≤ x) (h1 : x < 256 ^ n.toNat) (w : World) : Calls Try.prog 82 #[.int .i64 0, .int .i64 n, .int .i64 x] w fun e w' => e = .returned (.tuple #[.agg #[.int .i64 0, .string (S (le n.toNat x.toNat))], .int .i64 0]) ∧ Below w.heap.size w w' := by
  have hp : Pok 0 n x := ⟨h, by omega, by omega, h0, h1⟩
  have := put_any 0 n x w
  rw [show pute 0 n x = 0 by rw [pute, if_pos hp], show putoff 0 n x = 0 by rw [putoff, if_pos hp], show putb 0 n x = le n.toNat x.toNat by rw [putb, if_pos hp]] at this
  exact this

theorem put_n1 (x : Int) (h0 : 0 ≤ x) (h1 : x < 256) (w : World) : Calls Try.prog 82 #[.int .i64 0, .int .i64 1, .int .i64 x] w fun e w' => e = .returned (.tuple #[.agg #[.int .i64 0, .string (S (le 1 x.toNat))], .int .i64 0]) ∧ Below w.heap.size w w' := put_fit 1 x (by omega) h0 h1 w
theorem put_n2 (x : Int) (h0 : 0 ≤ x) (h1 : x < 65536) (w : World) : Calls Try.prog 82 #[.int .i64 0, .int .i64 2, .int .i64 x] w fun e w' => e = .returned (.tuple #[.agg #[.int .i64 0, .string (S (le 2 x.toNat))], .int .i64 0]) ∧ Below w.heap.size w w' := put_fit 2 x (by omega) h0 h1 w
theorem put_n4 (x : Int) (h0 : 0 ≤ x) (h1 : x < 4294967296) (w : World) : Calls Try.prog 82 #[.int .i64 0, .int .i64 4, .int .i64 x] w fun e w' => e = .returned (.tuple #[.agg #[.int .i64 0, .string (S (le 4 x.toNat))], .int .i64 0]) ∧ Below w.heap.size w w' := put_fit 4 x (by omega) h0 h1 w

/-- The first parts' bytes. -/
def mpre (m : Ms) : Nat → List UInt8
  | 0 => []
  | 1 => le 1 m.k.toNat
  | 2 => le 1 m.k.toNat ++ le 1 m.f.toNat
  | 3 => le 1 m.k.toNat ++ le 1 m.f.toNat ++ le 2 m.r.toNat
  | 4 => le 1 m.k.toNat ++ le 1 m.f.toNat ++ le 2 m.r.toNat ++ le 4 m.s.toNat
  | _ => mbody m
theorem five {w : World} {a b c d e : Value} {T : TypeId} : ∀ o, (w.alloc (.cells #[a, b, c, d, e] T)).cell? ⟨w.heap.size, o, none⟩ = #[a, b, c, d, e][o]? :=
  fun o => cell_of_row (w.alloc (.cells _ T)) w.heap.size o _ T (0, 0) (heap_alloc_new w _)

theorem mpre_bound (m : Ms) (h : mok m = true) : (0 ≤ m.k ∧ m.k < 256) ∧ (0 ≤ m.f ∧ m.f < 256) ∧ (0 ≤ m.r ∧ m.r < 65536) ∧ (0 ≤ m.s ∧ m.s < 4294967296) ∧ (0 ≤ m.e ∧ m.e < 4294967296) := by
  have h1 : Ok m := by simpa [mok] using h
  obtain ⟨h1, h2, h3, h4, h5, h6, h7, h8, h9, h10, h11, h12⟩ := h1
  omega

set_option maxRecDepth 100000 in
set_option maxHeartbeats 2000000 in
theorem wenc_ok (m : Ms) (h : mok m = true) (w : World) : Calls Try.prog 68 #[mval m] w fun e w' => e = .returned (.tuple #[.string (S (mbytes m)), .int .i64 0]) ∧ Below w.heap.size w w' := by
  have hck := wcheck_any m
  rw [show mcheck m = 0 by rw [mcheck, if_pos h]] at hck
  obtain ⟨⟨k0, k1⟩, ⟨f0, f1⟩, ⟨r0, r1⟩, ⟨s0, s1⟩, ⟨e0, e1⟩⟩ := mpre_bound m h
  have P0 := Lib.hid (put_n1 m.k k0 k1)
  have P1 := Lib.hid (put_n1 m.f f0 f1)
  have P2 := Lib.hid (put_n2 m.r r0 r1)
  have P3 := Lib.hid (put_n4 m.s s0 s1)
  have P4 := Lib.hid (put_n4 m.e e0 e1)
  have q0 := S_append [] (le 1 m.k.toNat)
  have q1 := S_append (mpre m 1) (le 1 m.f.toNat)
  have q2 := S_append (mpre m 2) (le 2 m.r.toNat)
  have q3 := S_append (mpre m 3) (le 4 m.s.toNat)
  have q4 := S_append (mpre m 4) (le 4 m.e.toNat)
  have q5 := S_append (mbody m) [bsum (mbody m)]
  have z4 : mpre m 4 ++ le 4 m.e.toNat = mbody m := by simp [mpre, mbody]
  rw [z4] at q4
  have HQ := Lib.hid (And.intro (show S (mpre m 0) ++ S (le 1 m.k.toNat) = S (mpre m 1) from q0) (And.intro (show S (mpre m 1) ++ S (le 1 m.f.toNat) = S (mpre m 2) from q1) (And.intro (show S (mpre m 2) ++ S (le 2 m.r.toNat) = S (mpre m 3) from q2) (And.intro (show S (mpre m 3) ++ S (le 4 m.s.toNat) = S (mpre m 4) from q3) (And.intro (show S (mpre m 4) ++ S (le 4 m.e.toNat) = S (mpre m 5) from q4) q5)))))
  have hsum := wsum_any (S (mbody m)) (by rw [S_size, mbody_length]; omega)
  rw [S_data] at hsum
  have HS := Lib.hid hsum
  have CK := Lib.hid hck
  have zl : ∀ j, (S (mpre m j)).size ≤ 64 := by
    intro j
    rw [S_size]
    match j with
    | 0 | 1 | 2 | 3 | 4 => simp [mpre, le_length]
    | j + 5 => rw [show mpre m (j + 5) = mbody m from rfl, mbody_length]; omega
  have ZL := Lib.hid zl
  have HF0 := Lib.hid (show S (mpre m 0) = ⟨#[]⟩ from rfl)
  have HF := Lib.hid (show mpre m 5 = mbody m from rfl)
  have W0 := fun w => wwide_any 0 (by omega) (by omega) w
  have W1 := fun w => wwide_any 1 (by omega) (by omega) w
  have W2 := fun w => wwide_any 2 (by omega) (by omega) w
  have W3 := fun w => wwide_any 3 (by omega) (by omega) w
  have W4 := fun w => wwide_any 4 (by omega) (by omega) w
  simp only [Int.reduceLE, Int.reduceEq, if_true, if_false] at W0 W1 W2 W3 W4
  have W0' := Lib.hid W0
  have W1' := Lib.hid W1
  have W2' := Lib.hid W2
  have W3' := Lib.hid W3
  have W4' := Lib.hid W4
  have z1 := fun x => le_length 1 x
  have zk : (S (le 1 m.k.toNat)).size ≤ 4 := by rw [S_size, le_length]; omega
  have zf : (S (le 1 m.f.toNat)).size ≤ 4 := by rw [S_size, le_length]; omega
  have zr : (S (le 2 m.r.toNat)).size ≤ 4 := by rw [S_size, le_length]; omega
  have zs : (S (le 4 m.s.toNat)).size ≤ 4 := by rw [S_size, le_length]; omega
  have ze : (S (le 4 m.e.toNat)).size ≤ 4 := by rw [S_size, le_length]; omega
  have zb : (S [bsum (mbody m)]).size ≤ 1 := by rw [S_size]; simp
  have zm : (S (mbody m)).size ≤ 64 := by rw [S_size, mbody_length]; omega
  clear hck hsum q0 q1 q2 q3 q4 q5 z4 zl k0 k1 f0 f1 r0 r1 s0 s1 e0 e1 W0 W1 W2 W3 W4 z1
  have HE := Lib.hid (show mbytes m = mbody m ++ [bsum (mbody m)] from rfl)
  generalize mpre m = F at *
  generalize mbytes m = mb at *
  generalize S [bsum (mbody m)] = sb at *
  generalize S (le 1 m.k.toNat) = sk at *
  generalize S (le 1 m.f.toNat) = sf at *
  generalize S (le 2 m.r.toNat) = sr at *
  generalize S (le 4 m.s.toNat) = ss at *
  generalize S (le 4 m.e.toNat) = se at *
  generalize mbody m = bo at *
  obtain ⟨k, f, t, r, s, e⟩ := m
  simp only at *
  go_enter Try.func68, Try.ntmps68
  go_wp2_with fail
  obtain ⟨hB, hc, hz⟩ := start_facts w #[.int .i64 k, .int .i64 f, .int .i64 t, .int .i64 r, .int .i64 s, .int .i64 e] 31
  generalize World.alloc w _ = w0 at *
  obtain ⟨c0, c1, c2, c3, c4, c5⟩ := six hc
  refine (CK.out _).mono ?_
  rintro e' w1 ⟨rfl, hb⟩
  have X := adv hB hb hc hz
  clear hB hb hc hz c0 c1 c2 c3 c4 c5
  obtain ⟨hB, hc, hz⟩ := X
  obtain ⟨c0, c1, c2, c3, c4, c5⟩ := six hc
  go_wp2_with fail
  have A := fun o => five (w := w1) (a := .int .i64 k) (b := .int .i64 f) (c := .int .i64 r) (d := .int .i64 s) (e := .int .i64 e) (T := 3) o
  have hB2 := below_alloc hB (.cells #[.int .i64 k, .int .i64 f, .int .i64 r, .int .i64 s, .int .i64 e] 3)
  have hg : w1.heap.size < (w1.alloc (.cells #[.int .i64 k, .int .i64 f, .int .i64 r, .int .i64 s, .int .i64 e] 3)).heap.size := by simp
  generalize World.alloc w1 _ = w2 at *
  have HA := Lib.hid A
  clear A hB hc hz c0 c1 c2 c3 c4 c5
  go_loopw [5, 27] (fun s i wr => ∃ j : Nat, j ≤ 5 ∧ i = .int .i64 j ∧ s = .string (S (F j)) ∧ Below w2.heap.size w2 wr) (fun _ i _ => 5 - (RowKit.intOf i).toNat)
  case atStart => exact ⟨0, by omega, rfl, by rw [HF0.out], Below.refl _ _⟩
  case round =>
    obtain ⟨j, hj, rfl, rfl, hBr⟩ := hrel
    have zj := ZL.out j
    have a0 := (hBr.cell (p := ⟨w1.heap.size, 0, none⟩) hg).trans (HA.out 0)
    have a1 := (hBr.cell (p := ⟨w1.heap.size, 1, none⟩) hg).trans (HA.out 1)
    have a2 := (hBr.cell (p := ⟨w1.heap.size, 2, none⟩) hg).trans (HA.out 2)
    have a3 := (hBr.cell (p := ⟨w1.heap.size, 3, none⟩) hg).trans (HA.out 3)
    have a4 := (hBr.cell (p := ⟨w1.heap.size, 4, none⟩) hg).trans (HA.out 4)
    rcases (show j = 0 ∨ j = 1 ∨ j = 2 ∨ j = 3 ∨ j = 4 ∨ j = 5 by omega) with rfl | rfl | rfl | rfl | rfl | rfl
    · skip
      go_wp2_with (first | (go_at_call 67; refine (W0'.out _).mono ?_; rintro e' w3 ⟨rfl, rfl⟩) | (go_at_call 82; refine (P0.out _).mono ?_; rintro e' w4 ⟨rfl, hb⟩; have hB3 := below_step hb hBr.size hBr; clear hb a0 a1 a2 a3 a4))
      go_roundw
      case rel => exact ⟨1, by omega, rfl, by rw [HQ.out.1], below_alloc hB3 _⟩
      case measure => simp [RowKit.intOf]
    · skip
      go_wp2_with (first | (go_at_call 67; refine (W1'.out _).mono ?_; rintro e' w3 ⟨rfl, rfl⟩) | (go_at_call 82; refine (P1.out _).mono ?_; rintro e' w4 ⟨rfl, hb⟩; have hB3 := below_step hb hBr.size hBr; clear hb a0 a1 a2 a3 a4))
      go_roundw
      case rel => exact ⟨2, by omega, rfl, by rw [HQ.out.2.1], below_alloc hB3 _⟩
      case measure => simp [RowKit.intOf]
    · skip
      go_wp2_with (first | (go_at_call 67; refine (W2'.out _).mono ?_; rintro e' w3 ⟨rfl, rfl⟩) | (go_at_call 82; refine (P2.out _).mono ?_; rintro e' w4 ⟨rfl, hb⟩; have hB3 := below_step hb hBr.size hBr; clear hb a0 a1 a2 a3 a4))
      go_roundw
      case rel => exact ⟨3, by omega, rfl, by rw [HQ.out.2.2.1], below_alloc hB3 _⟩
      case measure => simp [RowKit.intOf]
    · skip
      go_wp2_with (first | (go_at_call 67; refine (W3'.out _).mono ?_; rintro e' w3 ⟨rfl, rfl⟩) | (go_at_call 82; refine (P3.out _).mono ?_; rintro e' w4 ⟨rfl, hb⟩; have hB3 := below_step hb hBr.size hBr; clear hb a0 a1 a2 a3 a4))
      go_roundw
      case rel => exact ⟨4, by omega, rfl, by rw [HQ.out.2.2.2.1], below_alloc hB3 _⟩
      case measure => simp [RowKit.intOf]
    · skip
      go_wp2_with (first | (go_at_call 67; refine (W4'.out _).mono ?_; rintro e' w3 ⟨rfl, rfl⟩) | (go_at_call 82; refine (P4.out _).mono ?_; rintro e' w4 ⟨rfl, hb⟩; have hB3 := below_step hb hBr.size hBr; clear hb a0 a1 a2 a3 a4))
      go_roundw
      case rel => exact ⟨5, by omega, rfl, by rw [HQ.out.2.2.2.2.1], below_alloc hB3 _⟩
      case measure => simp [RowKit.intOf]
    · rw [HF.out]
      have hB3 := below_step hBr hB2.size hB2
      go_wp2_with (go_at_call 83; refine (HS.out _).mono ?_; rintro e' w3 ⟨rfl, hb⟩; have hB4 := below_step hb hB3.size hB3)
      go_ret2
      exact ⟨by rw [HE.out, ← HQ.out.2.2.2.2.2]; rfl, hB4⟩
end Cw
