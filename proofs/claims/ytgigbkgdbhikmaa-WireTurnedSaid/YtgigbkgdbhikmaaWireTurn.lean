/- WireTurned answers true. -/
import Derived.Test.YtgigbkgdbhikmaaWireLaws
import Derived.StillTailTactics
namespace Cw
open Go Go.RowKit Go.IntWalk
open Go.Proofs

/-- Bytes of a block of the call's own, one of them stored anew. -/
theorem Row.set_ {w : World} {g : Nat} {l : List UInt8} (h : Row w g l) (i : Nat) (hi : i < l.length) (b : UInt8) : Row (w.setCell ⟨g, i, none⟩ (.int .u8 b.toNat)) g (l.set i b) := by
  obtain ⟨cur, t, fz, rest, hg, hc, hfz⟩ := h
  refine ⟨cur.setIfInBounds i (.int .u8 b.toNat), t, fz, rest, ?_, ?_, by simpa using hfz⟩
  · rw [setCell_eq_setRow w g i cur t fz _ hg]
    exact setRow_heap w g _ _ t fz hg
  · rw [Array.toList_setIfInBounds, hc, List.set_append_left _ _ (by rw [bcells_length]; exact hi)]
    congr 1
    simp [bcells, List.map_set]
theorem Row.free {w : World} {g : Nat} {l : List UInt8} (h : Row w g l) (i : Nat) (hi : i < l.length) : w.frozen? ⟨g, i, none⟩ = false := by
  obtain ⟨cur, t, ⟨lo, hi'⟩, rest, hg, hc, hfz⟩ := h
  simp only [World.frozen?, hg, Bool.and_eq_false_iff, decide_eq_false_iff_not]
  rcases hfz with h | h
  · left; simp only at h; omega
  · right; simp only at h; omega
theorem Row.at_ {w : World} {g : Nat} {l : List UInt8} (h : Row w g l) (i : Nat) (hi : i < l.length) : w.cell? ⟨g, i, none⟩ = some (.int .u8 (l[i]).toNat) := by
  have := h.cell i (.int .u8 (l[i]).toNat) (by rw [bcells, List.getElem?_map, List.getElem?_eq_getElem hi]; rfl)
  rwa [lit_add] at this
theorem Row.drew {w : World} {g : Nat} {l : List UInt8} (h : Row w g l) : Row w.drew g l := h

theorem among_nat (x : Int) (n : Nat) (h : 0 < n) : ∃ k : Nat, k < n ∧ x % (n : Int) = k := by
  have h0 := Int.emod_nonneg x (show (n : Int) ≠ 0 by omega)
  have h1 := Int.emod_lt_of_pos x (show 0 < (n : Int) by omega)
  exact ⟨(x % (n : Int)).toNat, by omega, by omega⟩

theorem mbytes_not (l : List UInt8) (h : l.length ≠ 13) : mdece l = 210 := by
  rw [mdece, if_neg]
  simp only [dok, decide_eq_true_eq]
  exact fun h2 => h h2.1

theorem wdec_no (s : ByteArray) (hs : s.size ≤ 9223372036854775807) (h : dok s.data.toList = false) (w : World) : Calls Try.prog 44 #[.string s] w fun e w' => e = .returned (.tuple #[mval mzero, .int .i64 210]) ∧ Below w.heap.size w w' := by
  have := wdec_any s hs w
  rw [show mdec s.data.toList = mzero by rw [mdec, h]; rfl, show mdece s.data.toList = 210 by rw [mdece, h]; rfl] at this
  exact this
theorem dok_len (l : List UInt8) (h : l.length ≠ 13) : dok l = false := by
  simp only [dok, decide_eq_false_iff_not]
  exact fun h2 => h h2.1

theorem turn_byte (x : UInt8) (k : Nat) (hk : k < 255) : x + UInt8.ofNat (1 + k) ≠ x ∧ IntKind.u8.wrap ((x.toNat : Int) + IntKind.u8.wrap (IntKind.i64.wrap (1 + (k : Int)))) = ((x + UInt8.ofNat (1 + k)).toNat : Int) := by
  have h1 := x.toNat_lt
  constructor
  · intro e
    have := congrArg UInt8.toNat e
    rw [UInt8.toNat_add, UInt8.toNat_ofNat'] at this
    omega
  · rw [IntWalk.i64_in _ (by omega), IntKind.wrap_u8, IntKind.wrap_u8, UInt8.toNat_add, UInt8.toNat_ofNat']
    omega

set_option maxRecDepth 100000 in
set_option maxHeartbeats 2000000 in
theorem wireTurned_true (m : Ms) (at' by' : Int) (w : World) : Calls Try.prog 11 #[mval m, .int .i64 at', .int .i64 by'] w fun e w' => e = .returned (.bool true) ∧ Below w.heap.size w w' := by
  have EM := wenc_any m
  obtain ⟨hB, hc, hz⟩ := start_facts w (mcells m) 23
  have hA : (w.alloc (.cells (mcells m) 23)).heap[w.heap.size]? = some (.cells (mcells m) 23 (0, 0)) := heap_alloc_new w _
  clear hc
  by_cases hm : mok m = true
  · rw [show mcheck m = 0 by rw [mcheck, if_pos hm], show menc m = mbytes m by rw [menc, if_pos hm]] at EM
    have hlen := mbytes_length m
    obtain ⟨i, hi, hi2⟩ := among_nat at' 13 (by decide)
    obtain ⟨k, hk, hk2⟩ := among_nat by' 255 (by decide)
    have hi3 : i < (mbytes m).length := by omega
    have A1 := fun w => among_any at' 13 (by decide) (by decide) w
    have A2 := fun w => among_any by' 255 (by decide) (by decide) w
    rw [show (13 : Int) = ((13 : Nat) : Int) from rfl] at A1
    rw [show (255 : Int) = ((255 : Nat) : Int) from rfl] at A2
    rw [hi2] at A1
    rw [hk2] at A2
    have EM' := Lib.hid EM
    have A1' := Lib.hid (show ∀ w, Calls Try.prog 29 #[.int .i64 at', .int .i64 13] w fun e w' => e = .returned (.int .i64 i) ∧ w = w' from A1)
    have A2' := Lib.hid (show ∀ w, Calls Try.prog 29 #[.int .i64 by', .int .i64 255] w fun e w' => e = .returned (.int .i64 k) ∧ w = w' from A2)
    obtain ⟨tb1, tb2⟩ := turn_byte ((mbytes m)[i]'hi3) k hk
    have dno := turned_not m hm i hi ((mbytes m)[i]'hi3 + UInt8.ofNat (1 + k)) (by rw [List.getD_eq_getElem?_getD, List.getElem?_eq_getElem (by omega)]; exact tb1)
    have D1 := Lib.hid (wdec_no (S ((mbytes m).set i ((mbytes m)[i]'hi3 + UInt8.ofNat (1 + k)))) (by rw [S_size, List.length_set]; omega) (by rw [S_data]; exact dno))
    have zbs : (S (mbytes m)).size = 13 := by rw [S_size, hlen]
    have D2 := Lib.hid (wdec_no ((S (mbytes m)).extract 0 i) (by rw [ByteArray.size_extract]; omega) (dok_len _ (by
      have : ((S (mbytes m)).extract 0 i).data.toList.length = ((S (mbytes m)).extract 0 i).size := rfl
      rw [this, ByteArray.size_extract]
      omega)))
    have D3 := Lib.hid (wdec_no (S (mbytes m) ++ ⟨#[120]⟩) (by rw [ByteArray.size_append, zbs]; decide) (dok_len _ (by
      have : (S (mbytes m) ++ ⟨#[120]⟩).data.toList.length = (S (mbytes m) ++ ⟨#[120]⟩).size := rfl
      rw [this, ByteArray.size_append, zbs]
      decide)))
    have hl : ∀ w : World, (Row (Lib.bytesWorld w 5 (S (mbytes m))) w.heap.size (mbytes m)) := fun w => by
      have := row_bytes w (S (mbytes m)) 5
      rwa [S_data] at this
    have HL := Lib.hid hl
    have TB := Lib.hid tb2
    clear EM A1 A2 hi2 hk2 tb1 tb2 dno hl
    have hx : ∃ x, x = (mbytes m)[i]'hi3 := ⟨_, rfl⟩
    obtain ⟨x, hx⟩ := hx
    rw [← hx] at D1 TB
    have HX := Lib.hid hx
    clear hx
    generalize hy : x + UInt8.ofNat (1 + k) = y at *
    clear hy
    have i0 : (0 : Int) ≤ i := by omega
    have i13 : (i : Int) < 13 := by omega
    have i14 : (i : Int) ≤ 13 := by omega
    go_enter Try.func11, Try.ntmps11
    go_wp2_with fail
    generalize World.alloc w _ = w0 at *
    refine (wworks_any _).mono ?_
    rintro e' w1 ⟨rfl, hb⟩
    have hA1 := (hb.block _ (blk_lt hA)).trans hA
    have hB1 := below_step hb hB.size hB
    clear hb hA hB hz
    obtain ⟨a0, a1, a2, a3, a4, a5⟩ := six (fun o => blk_cell hA1 o)
    go_wp2_with fail
    refine (EM'.out _).mono ?_
    rintro e' w2 ⟨rfl, hb⟩
    have hB2 := below_step hb hB1.size hB1
    clear hb hA1 hB1 a0 a1 a2 a3 a4 a5
    have hcb := Lib.run_convert_string_bytes (P := Try.prog) w2 9 63 5 (S (mbytes m)) Try.underlying9 Try.underlying63 Try.underlying5
    rw [zbs] at hcb
    have hR := HL.out w2
    have hB3 := below_step (below_bytes w2 (S (mbytes m)) 5) hB2.size hB2
    have hc0 := grownCap_ge w2 13 0 5
    generalize grownCap w2 13 0 5 = c0 at *
    generalize Lib.bytesWorld w2 5 (S (mbytes m)) = w3 at *
    have HZ := Lib.hid zbs
    have hlt := hR.lt
    have hBg := hB2.size
    clear zbs hlen
    go_wp2_with fail
    refine (A1'.out _).mono ?_
    rintro e' w4 ⟨rfl, rfl⟩
    have hc := hR.at_ i hi3
    rw [← HX.out] at hc
    clear hB2 hc
    go_wp2_with fail
    refine wp_region_still_tail 10 (by kernel_rfl) (by kernel_rfl) ?_
    simp only [List.take_succ_cons, List.take_zero, List.drop_succ_cons, List.drop_zero]
    rw [show ({ w3 with drawn := w3.drawn + 1 } : World) = w3.drew from rfl]
    have hR4 := hR.drew
    have hB4 := hB3.drew
    generalize w3.drew = w4 at *
    clear hR hB3 hcb hlt
    have hc := hR4.at_ i hi3
    rw [← HX.out] at hc
    have hf := hR4.free i hi3
    repeat (first | still_call ((A2'.out _).mono fun _ _ ⟨a, b⟩ => ⟨a, b.symm⟩) | still_step)
    refine wpStill_nil ?_
    have hR5 := hR4.set_ i hi3 y
    have hB5 := below_setCell hB4 hBg i (.int .u8 y.toNat)
    rw [TB.out]
    have hcv := hR5.text (P := Try.prog) 63 9 5 Try.underlying63 Try.underlying5 Try.underlying9 13 c0 (by rw [List.length_set, mbytes_length])
    clear hR4 hB4 hR5
    go_wp2_with fail
    refine (D1.out _).mono ?_
    rintro e' w6 ⟨rfl, hb⟩
    have hB6 := below_alloc (below_step hb hB5.size hB5) (.cells (mcells mzero) 23)
    clear hb hB5 hcv hc hf
    have hz1 : i ≤ (S (mbytes m)).size := by rw [HZ.out]; omega
    have hz2 : (S (mbytes m)).size ≤ 13 := by rw [HZ.out]; omega
    have hz3 : (i : Int) ≤ (S (mbytes m)).size := by omega
    go_wp2_with fail
    refine (D2.out _).mono ?_
    rintro e' w7 ⟨rfl, hb⟩
    have hB7 := below_alloc (below_step hb hB6.size hB6) (.cells (mcells mzero) 23)
    clear hb hB6
    go_wp2_with fail
    refine (D3.out _).mono ?_
    rintro e' w8 ⟨rfl, hb⟩
    have hB8 := below_alloc (below_step hb hB7.size hB7) (.cells (mcells mzero) 23)
    clear hb hB7
    go_wp2_with fail
    go_ret
    exact ⟨rfl, hB8⟩
  · rw [show mcheck m = 210 by rw [mcheck, if_neg hm]] at EM
    have EM' := Lib.hid EM
    clear EM hm
    generalize S (menc m) = bs at *
    go_enter Try.func11, Try.ntmps11
    go_wp2_with fail
    generalize World.alloc w _ = w0 at *
    refine (wworks_any _).mono ?_
    rintro e' w1 ⟨rfl, hb⟩
    have hA1 := (hb.block _ (blk_lt hA)).trans hA
    have hB1 := below_step hb hB.size hB
    clear hb hA hB hz
    obtain ⟨a0, a1, a2, a3, a4, a5⟩ := six (fun o => blk_cell hA1 o)
    go_wp2_with fail
    refine (EM'.out _).mono ?_
    rintro e' w2 ⟨rfl, hb⟩
    have hB := below_step hb hB1.size hB1
    clear hb hA1 hB1 a0 a1 a2 a3 a4 a5
    go_wp2_with fail
    go_ret
    exact ⟨rfl, hB⟩
end Cw
