/- The walk of the program's package wire: Encode of any message, Decode. -/
import Derived.Test.YtekgkkohiindkaaWireW2
import Derived.Test.YtekgkkohiindkaaBackLaw
import Derived.Test.YtekgkkohiindkaaFieldLaws2
namespace Cw
open Go Go.RowKit Go.IntWalk
open Go.Proofs

theorem wenc_any (m : Ms) (w : World) : Calls Try.prog 68 #[mval m] w fun e w' => e = .returned (.tuple #[.string (S (menc m)), .int .i64 (mcheck m)]) ∧ Below w.heap.size w w' := by
  by_cases h : mok m = true
  · rw [menc, mcheck, if_pos h, if_pos h]
    exact wenc_ok m h w
  · rw [menc, mcheck, if_neg h, if_neg h]
    have hck := wcheck_any m
    rw [show mcheck m = 210 by rw [mcheck, if_neg h]] at hck
    have CK := Lib.hid hck
    clear hck h
    obtain ⟨k, f, t, r, s, e⟩ := m
    go_enter Try.func68, Try.ntmps68
    go_wp2_with fail
    obtain ⟨hB, hc, hz⟩ := start_facts w #[.int .i64 k, .int .i64 f, .int .i64 t, .int .i64 r, .int .i64 s, .int .i64 e] 31
    generalize World.alloc w _ = w0 at *
    refine (CK.out _).mono ?_
    rintro e' w1 ⟨rfl, hb⟩
    have hB1 := below_step hb hB.size hB
    go_wp2_with fail
    go_ret2
    exact ⟨rfl, hB1⟩

/-- The bytes ahead of the others. -/
theorem one_front (s : List UInt8) (t : ByteArray) : one s (0, t) = t.data.toList ++ s.drop t.size := by
  have e : t.data.toList.length = t.size := rfl
  simp [one, over]
theorem numAt_front (s : List UInt8) (t : ByteArray) (o n : Nat) (h : o + n ≤ t.size) : numAt (S (one s (0, t))) o n = num ((t.data.toList.drop o).take n) := by
  have e : t.data.toList.length = t.size := rfl
  rw [numAt, S_data, one_front, List.drop_append_of_le_length (by omega), List.take_append_of_le_length (by rw [List.length_drop]; omega)]

theorem str_ne {a b : ByteArray} (h : a ≠ b) : (a.toList == b.toList) = false := by
  rw [ByteArray.toList_eq, ByteArray.toList_eq]
  simp only [beq_eq_false_iff_ne]
  exact fun e => h (ByteArray.ext (Array.toList_inj.1 e))

/-- A block's cells, one of them stored anew. -/
theorem set_block {w : World} {g : Nat} {cs : Array Value} {T : TypeId} (h : w.heap[g]? = some (.cells cs T (0, 0))) (i : Nat) (v : Value) : (w.setCell ⟨g, i, none⟩ v).heap[g]? = some (.cells (cs.setIfInBounds i v) T (0, 0)) := by
  rw [setCell_eq_setRow w g i cs T (0, 0) v h]
  exact setRow_heap w g _ _ T _ h
theorem blk_cell {w : World} {g : Nat} {cs : Array Value} {T : TypeId} (h : w.heap[g]? = some (.cells cs T (0, 0))) (o : Nat) : w.cell? ⟨g, o, none⟩ = cs[o]? := cell_of_row w g o cs T (0, 0) h
theorem blk_free {w : World} {g : Nat} {cs : Array Value} {T : TypeId} (h : w.heap[g]? = some (.cells cs T (0, 0))) (o : Nat) : w.frozen? ⟨g, o, none⟩ = false := by simp [World.frozen?, h]
theorem set_cell {w : World} {g : Nat} {cs : Array Value} {T : TypeId} (h : w.heap[g]? = some (.cells cs T (0, 0))) (i : Nat) (hi : i < cs.size) (v : Value) : (w.setCell ⟨g, i, none⟩ v).cell? ⟨g, i, none⟩ = some v := by
  rw [blk_cell (set_block h i v)]
  simp [hi]
theorem stored6 {w : World} {g : Nat} {T : TypeId} {x0 x1 x2 x3 x4 x5 : Value} (h : w.heap[g]? = some (.cells #[x0, x1, x2, x3, x4, x5] T (0, 0))) (a b c d e f : Value) :
    (w.setCell ⟨g, 0, none⟩ a).cell? ⟨g, 0, none⟩ = some a ∧ ((w.setCell ⟨g, 0, none⟩ a).setCell ⟨g, 1, none⟩ b).cell? ⟨g, 1, none⟩ = some b ∧ (((w.setCell ⟨g, 0, none⟩ a).setCell ⟨g, 1, none⟩ b).setCell ⟨g, 2, none⟩ c).cell? ⟨g, 2, none⟩ = some c ∧
    ((((w.setCell ⟨g, 0, none⟩ a).setCell ⟨g, 1, none⟩ b).setCell ⟨g, 2, none⟩ c).setCell ⟨g, 3, none⟩ d).cell? ⟨g, 3, none⟩ = some d ∧
    (((((w.setCell ⟨g, 0, none⟩ a).setCell ⟨g, 1, none⟩ b).setCell ⟨g, 2, none⟩ c).setCell ⟨g, 3, none⟩ d).setCell ⟨g, 4, none⟩ e).cell? ⟨g, 4, none⟩ = some e ∧
    ((((((w.setCell ⟨g, 0, none⟩ a).setCell ⟨g, 1, none⟩ b).setCell ⟨g, 2, none⟩ c).setCell ⟨g, 3, none⟩ d).setCell ⟨g, 4, none⟩ e).setCell ⟨g, 5, none⟩ f).cell? ⟨g, 5, none⟩ = some f := by
  have h1 := set_block h 0 a
  have h2 := set_block h1 1 b
  have h3 := set_block h2 2 c
  have h4 := set_block h3 3 d
  have h5 := set_block h4 4 e
  exact ⟨set_cell h 0 (by simp) a, set_cell h1 1 (by simp) b, set_cell h2 2 (by simp) c, set_cell h3 3 (by simp) d, set_cell h4 4 (by simp) e, set_cell h5 5 (by simp) f⟩
theorem blk_lt {w : World} {g : Nat} {o : Obj} (h : w.heap[g]? = some o) : g < w.heap.size := by
  rcases Nat.lt_or_ge g w.heap.size with h' | h'
  · exact h'
  · rw [Array.getElem?_eq_none h'] at h; cases h

/-- The parts that are got. -/
def vp (l : List UInt8) : Nat → Nat
  | 0 => num (l.take 1)
  | 1 => num ((l.drop 1).take 1)
  | 2 => num ((l.drop 2).take 2)
  | 3 => num ((l.drop 4).take 4)
  | _ => num ((l.drop 8).take 4)
def wat : Nat → Int
  | 0 => 0 | 1 => 1 | 2 => 2 | 3 => 4 | 4 => 8 | _ => 12
def arr (v : Nat → Nat) (j : Nat) : Array Value := #[.int .i64 (if 0 < j then v 0 else 0 : Nat), .int .i64 (if 1 < j then v 1 else 0 : Nat), .int .i64 (if 2 < j then v 2 else 0 : Nat), .int .i64 (if 3 < j then v 3 else 0 : Nat), .int .i64 (if 4 < j then v 4 else 0 : Nat)]
theorem arr_set (v : Nat → Nat) (j : Nat) (h : j < 5) : (arr v j).setIfInBounds j (.int .i64 (v j)) = arr v (j + 1) := by
  rcases (show j = 0 ∨ j = 1 ∨ j = 2 ∨ j = 3 ∨ j = 4 by omega) with rfl | rfl | rfl | rfl | rfl <;> rfl

set_option maxRecDepth 100000 in
set_option maxHeartbeats 2000000 in
theorem wdec_any (s : ByteArray) (hs : s.size ≤ 9223372036854775807) (w : World) : Calls Try.prog 45 #[.string s] w fun e w' => e = .returned (.tuple #[mval (mdec s.data.toList), .int .i64 (mdece s.data.toList)]) ∧ Below w.heap.size w w' := by
  have hlen : s.data.toList.length = s.size := rfl
  by_cases hz : s.size = 13
  · have e13 : ((s.size : Int) != 13) = false := by rw [hz]; rfl
    have hok : okp ((0 : Int), s) = true := by simp [okp, finside, hz]
    have zb : (S (List.replicate 64 (0 : UInt8))).size = 64 := by rw [S_size]; simp
    have HP0 := fun (w : World) => patched_any (S (List.replicate 64 0)) _ [((0 : Int), s)] (by simp only [List.mem_singleton]; rintro p rfl; exact hs) (by omega) _ (sl_one w ((0 : Int), s) 114)
    obtain ⟨f1, f2⟩ := pt_ok (S (List.replicate 64 0)) [((0 : Int), s)] zb (by simp) (by simp [hok])
    rw [f1, f2, show patchAll (S (List.replicate 64 0)).data.toList [((0 : Int), s)] = one (List.replicate 64 0) ((0 : Int), s) by rw [S_data]; rfl] at HP0
    have zu : (S (one (List.replicate 64 0) ((0 : Int), s))).size = 64 := by rw [S_size]; exact one_length _ _ (by simp) hok
    have G0 : ∀ w, Calls Try.prog 66 #[.string (S (one (List.replicate 64 0) ((0 : Int), s))), .int .i64 0, .int .i64 1] w fun e w' => e = .returned (.tuple #[.int .i64 (vp s.data.toList 0), .int .i64 0]) ∧ Below w.heap.size w w' := fun w => by
      have h := get_ok _ 0 1 zu (by omega) (by omega) (by omega) w
      rw [show numAt (S (one (List.replicate 64 0) ((0 : Int), s))) (Int.toNat 0) (Int.toNat 1) = vp s.data.toList 0 from numAt_front _ _ 0 1 (by omega)] at h
      exact h
    have G1 : ∀ w, Calls Try.prog 66 #[.string (S (one (List.replicate 64 0) ((0 : Int), s))), .int .i64 1, .int .i64 1] w fun e w' => e = .returned (.tuple #[.int .i64 (vp s.data.toList 1), .int .i64 0]) ∧ Below w.heap.size w w' := fun w => by
      have h := get_ok _ 1 1 zu (by omega) (by omega) (by omega) w
      rw [show numAt (S (one (List.replicate 64 0) ((0 : Int), s))) (Int.toNat 1) (Int.toNat 1) = vp s.data.toList 1 from numAt_front _ _ 1 1 (by omega)] at h
      exact h
    have G2 : ∀ w, Calls Try.prog 66 #[.string (S (one (List.replicate 64 0) ((0 : Int), s))), .int .i64 2, .int .i64 2] w fun e w' => e = .returned (.tuple #[.int .i64 (vp s.data.toList 2), .int .i64 0]) ∧ Below w.heap.size w w' := fun w => by
      have h := get_ok _ 2 2 zu (by omega) (by omega) (by omega) w
      rw [show numAt (S (one (List.replicate 64 0) ((0 : Int), s))) (Int.toNat 2) (Int.toNat 2) = vp s.data.toList 2 from numAt_front _ _ 2 2 (by omega)] at h
      exact h
    have G3 : ∀ w, Calls Try.prog 66 #[.string (S (one (List.replicate 64 0) ((0 : Int), s))), .int .i64 4, .int .i64 4] w fun e w' => e = .returned (.tuple #[.int .i64 (vp s.data.toList 3), .int .i64 0]) ∧ Below w.heap.size w w' := fun w => by
      have h := get_ok _ 4 4 zu (by omega) (by omega) (by omega) w
      rw [show numAt (S (one (List.replicate 64 0) ((0 : Int), s))) (Int.toNat 4) (Int.toNat 4) = vp s.data.toList 3 from numAt_front _ _ 4 4 (by omega)] at h
      exact h
    have G4 : ∀ w, Calls Try.prog 66 #[.string (S (one (List.replicate 64 0) ((0 : Int), s))), .int .i64 8, .int .i64 4] w fun e w' => e = .returned (.tuple #[.int .i64 (vp s.data.toList 4), .int .i64 0]) ∧ Below w.heap.size w w' := fun w => by
      have h := get_ok _ 8 4 zu (by omega) (by omega) (by omega) w
      rw [show numAt (S (one (List.replicate 64 0) ((0 : Int), s))) (Int.toNat 8) (Int.toNat 4) = vp s.data.toList 4 from numAt_front _ _ 8 4 (by omega)] at h
      exact h
    have HE0 : ∀ w, Calls Try.prog 68 #[.agg #[.int .i64 (vp s.data.toList 0), .int .i64 (vp s.data.toList 1), .int .i64 (1 - (vp s.data.toList 1 : Int)), .int .i64 (vp s.data.toList 2), .int .i64 (vp s.data.toList 3), .int .i64 (vp s.data.toList 4)]] w fun e w' => e = .returned (.tuple #[.string (S (menc (dm s.data.toList))), .int .i64 (mcheck (dm s.data.toList))]) ∧ Below w.heap.size w w' := fun w => wenc_any (dm s.data.toList) w
    have hm : mval (dm s.data.toList) = .agg #[.int .i64 (vp s.data.toList 0), .int .i64 (vp s.data.toList 1), .int .i64 (1 - (vp s.data.toList 1 : Int)), .int .i64 (vp s.data.toList 2), .int .i64 (vp s.data.toList 3), .int .i64 (vp s.data.toList 4)] := rfl
    have v1 : vp s.data.toList 1 < 256 := by
      refine Nat.lt_of_lt_of_le (num_lt _) ?_
      have : ((s.data.toList.drop 1).take 1).length ≤ 1 := by rw [List.length_take]; omega
      exact Nat.le_trans (Nat.pow_le_pow_right (by decide) this) (by decide)
    have hcase : (dok s.data.toList = true ∧ mcheck (dm s.data.toList) = 0 ∧ S (menc (dm s.data.toList)) = s) ∨ (dok s.data.toList = false ∧ mcheck (dm s.data.toList) = 210) ∨ (dok s.data.toList = false ∧ mcheck (dm s.data.toList) = 0 ∧ S (menc (dm s.data.toList)) ≠ s) := by
      by_cases h1 : mok (dm s.data.toList) = true
      · rw [mcheck, menc, if_pos h1, if_pos h1]
        by_cases h2 : mbytes (dm s.data.toList) = s.data.toList
        · exact .inl ⟨by simp only [dok, decide_eq_true_eq]; exact ⟨by omega, h1, h2⟩, rfl, by rw [h2]; exact strOf s⟩
        · refine .inr (.inr ⟨by simp only [dok, decide_eq_false_iff_not]; exact fun h => h2 h.2.2, rfl, fun h => h2 ?_⟩)
          simpa only [S_data] using congrArg (fun x : ByteArray => x.data.toList) h
      · exact .inr (.inl ⟨by simp only [dok, decide_eq_false_iff_not]; exact fun h => h1 h.2.1, by rw [mcheck, if_neg h1]⟩)
    have hR : mdec s.data.toList = (if dok s.data.toList = true then dm s.data.toList else mzero) ∧ mdece s.data.toList = (if dok s.data.toList = true then 0 else 210) := ⟨rfl, rfl⟩
    have HP := Lib.hid HP0
    have G0' := Lib.hid G0
    have G1' := Lib.hid G1
    have G2' := Lib.hid G2
    have G3' := Lib.hid G3
    have G4' := Lib.hid G4
    have HE := Lib.hid HE0
    have HM := Lib.hid hm
    have HC := Lib.hid hcase
    have HR := Lib.hid hR
    have BL := Lib.hid blank_any
    have W0 := fun w => wwide_any 0 (by omega) (by omega) w
    have W1 := fun w => wwide_any 1 (by omega) (by omega) w
    have W2 := fun w => wwide_any 2 (by omega) (by omega) w
    have W3 := fun w => wwide_any 3 (by omega) (by omega) w
    have W4 := fun w => wwide_any 4 (by omega) (by omega) w
    simp only [Int.reduceLE, Int.reduceEq, if_true, if_false] at W0 W1 W2 W3 W4
    have W0' := Lib.hid W0
    have W1' := Lib.hid W1
    have W2' := Lib.hid W2
    have W3' := Lib.hid W3
    have W4' := Lib.hid W4
    clear HP0 G0 G1 G2 G3 G4 HE0 hm hcase hR W0 W1 W2 W3 W4 hok zb f1 f2 zu hz hlen
    generalize S (one (List.replicate 64 0) ((0 : Int), s)) = u at *
    generalize S (List.replicate 64 (0 : UInt8)) = bl at *
    generalize mdec s.data.toList = r1 at *
    generalize mdece s.data.toList = r2 at *
    generalize dok s.data.toList = dk at *
    generalize S (menc (dm s.data.toList)) = en at *
    generalize mcheck (dm s.data.toList) = ck at *
    generalize dm s.data.toList = ms at *
    generalize vp s.data.toList = v at *
    simp only at HP
    go_enter Try.func45, Try.ntmps45
    go_wp2_with fail
    have hM : ((w.alloc (.cells #[.int .i64 0, .int .i64 0, .int .i64 0, .int .i64 0, .int .i64 0, .int .i64 0] 31)).alloc (.cells (arr v 0) 109)).heap[w.heap.size]? = some (.cells #[.int .i64 0, .int .i64 0, .int .i64 0, .int .i64 0, .int .i64 0, .int .i64 0] 31 (0, 0)) := (Below.heap_alloc _ _ _ (by simp)).trans (heap_alloc_new w _)
    have hA : ((w.alloc (.cells #[.int .i64 0, .int .i64 0, .int .i64 0, .int .i64 0, .int .i64 0, .int .i64 0] 31)).alloc (.cells (arr v 0) 109)).heap[w.heap.size + 1]? = some (.cells (arr v 0) 109 (0, 0)) := by
      have := heap_alloc_new (w.alloc (.cells #[.int .i64 0, .int .i64 0, .int .i64 0, .int .i64 0, .int .i64 0, .int .i64 0] 31)) (.cells (arr v 0) 109)
      rwa [World.size_alloc] at this
    have hB := below_alloc (below_alloc (Below.refl w.heap.size w) (.cells #[.int .i64 0, .int .i64 0, .int .i64 0, .int .i64 0, .int .i64 0, .int .i64 0] 31)) (.cells (arr v 0) 109)
    rw [show arr v 0 = #[.int .i64 0, .int .i64 0, .int .i64 0, .int .i64 0, .int .i64 0] from rfl] at hM hA hB
    generalize World.alloc (World.alloc w _) _ = w0 at *
    refine (BL.out _).mono ?_
    rintro e' w1 ⟨rfl, hb⟩
    have hA1 := (hb.block _ (blk_lt hA)).trans hA
    have hM1 := (hb.block _ (blk_lt hM)).trans hM
    have hB1 := below_step hb hB.size hB
    clear hb hA hM hB
    go_wp2_with fail
    have hA2 := (Below.heap_alloc w1 (.cells #[.int .i64 0, .string s] 114) _ (blk_lt hA1)).trans hA1
    have hM2 := (Below.heap_alloc w1 (.cells #[.int .i64 0, .string s] 114) _ (blk_lt hM1)).trans hM1
    have hB2 := below_alloc hB1 (.cells #[.int .i64 0, .string s] 114)
    refine (HP.out _).mono ?_
    rintro e' w2 ⟨rfl, hb⟩
    have hA := (hb.block _ (blk_lt hA2)).trans hA2
    have hM := (hb.block _ (blk_lt hM2)).trans hM2
    have hB := below_step hb hB2.size hB2
    rw [show #[Value.int .i64 0, .int .i64 0, .int .i64 0, .int .i64 0, .int .i64 0] = arr v 0 from rfl] at hA
    clear hb hA2 hM2 hB2 hA1 hM1 hB1
    go_wp2_with fail
    go_loopw [5, 24] (fun at' i wr => ∃ j : Nat, j ≤ 5 ∧ i = .int .i64 j ∧ at' = .int .i64 (wat j) ∧ Below w.heap.size w wr ∧ wr.heap[w.heap.size + 1]? = some (.cells (arr v j) 109 (0, 0)) ∧ wr.heap[w.heap.size]? = some (.cells #[.int .i64 0, .int .i64 0, .int .i64 0, .int .i64 0, .int .i64 0, .int .i64 0] 31 (0, 0))) (fun _ i _ => 5 - (RowKit.intOf i).toNat)
    case atStart => exact ⟨0, by omega, rfl, rfl, hB, hA, hM⟩
    case round =>
      clear hA hM hB
      obtain ⟨j, hj, rfl, rfl, hB2, hA, hM⟩ := hrel
      rcases (show j = 0 ∨ j = 1 ∨ j = 2 ∨ j = 3 ∨ j = 4 ∨ j = 5 by omega) with rfl | rfl | rfl | rfl | rfl | rfl
      · have a0 := blk_cell hA 0
        rw [show wat 0 = 0 from rfl]
        go_wp2_with (first | (go_at_call 67; refine (W0'.out _).mono ?_; rintro e' w3 ⟨rfl, rfl⟩) | (go_at_call 66; refine (G0'.out _).mono ?_; rintro e' w4 ⟨rfl, hb⟩; have hA' := (hb.block _ (blk_lt hA)).trans hA; have hM' := (hb.block _ (blk_lt hM)).trans hM; have hB3 := below_step hb hB2.size hB2; clear hb a0 hA hM hB2; have a0 := blk_cell hA' 0; have a9 := blk_free hA' 0; rw [show (arr v 0)[0]? = some (.int .i64 0) from rfl] at a0))
        go_roundw
        case rel => exact ⟨1, by omega, rfl, rfl, below_setCell hB3 (by omega) _ _, by rw [← arr_set v 0 (by omega)]; exact set_block hA' 0 _, (Below.heap_setCell _ _ _ _ (by simp)).trans hM'⟩
        case measure => simp [RowKit.intOf]
      · have a0 := blk_cell hA 1
        rw [show wat 1 = 1 from rfl]
        go_wp2_with (first | (go_at_call 67; refine (W1'.out _).mono ?_; rintro e' w3 ⟨rfl, rfl⟩) | (go_at_call 66; refine (G1'.out _).mono ?_; rintro e' w4 ⟨rfl, hb⟩; have hA' := (hb.block _ (blk_lt hA)).trans hA; have hM' := (hb.block _ (blk_lt hM)).trans hM; have hB3 := below_step hb hB2.size hB2; clear hb a0 hA hM hB2; have a0 := blk_cell hA' 1; have a9 := blk_free hA' 1; rw [show (arr v 1)[1]? = some (.int .i64 0) from rfl] at a0))
        go_roundw
        case rel => exact ⟨2, by omega, rfl, rfl, below_setCell hB3 (by omega) _ _, by rw [← arr_set v 1 (by omega)]; exact set_block hA' 1 _, (Below.heap_setCell _ _ _ _ (by simp)).trans hM'⟩
        case measure => simp [RowKit.intOf]
      · have a0 := blk_cell hA 2
        rw [show wat 2 = 2 from rfl]
        go_wp2_with (first | (go_at_call 67; refine (W2'.out _).mono ?_; rintro e' w3 ⟨rfl, rfl⟩) | (go_at_call 66; refine (G2'.out _).mono ?_; rintro e' w4 ⟨rfl, hb⟩; have hA' := (hb.block _ (blk_lt hA)).trans hA; have hM' := (hb.block _ (blk_lt hM)).trans hM; have hB3 := below_step hb hB2.size hB2; clear hb a0 hA hM hB2; have a0 := blk_cell hA' 2; have a9 := blk_free hA' 2; rw [show (arr v 2)[2]? = some (.int .i64 0) from rfl] at a0))
        go_roundw
        case rel => exact ⟨3, by omega, rfl, rfl, below_setCell hB3 (by omega) _ _, by rw [← arr_set v 2 (by omega)]; exact set_block hA' 2 _, (Below.heap_setCell _ _ _ _ (by simp)).trans hM'⟩
        case measure => simp [RowKit.intOf]
      · have a0 := blk_cell hA 3
        rw [show wat 3 = 4 from rfl]
        go_wp2_with (first | (go_at_call 67; refine (W3'.out _).mono ?_; rintro e' w3 ⟨rfl, rfl⟩) | (go_at_call 66; refine (G3'.out _).mono ?_; rintro e' w4 ⟨rfl, hb⟩; have hA' := (hb.block _ (blk_lt hA)).trans hA; have hM' := (hb.block _ (blk_lt hM)).trans hM; have hB3 := below_step hb hB2.size hB2; clear hb a0 hA hM hB2; have a0 := blk_cell hA' 3; have a9 := blk_free hA' 3; rw [show (arr v 3)[3]? = some (.int .i64 0) from rfl] at a0))
        go_roundw
        case rel => exact ⟨4, by omega, rfl, rfl, below_setCell hB3 (by omega) _ _, by rw [← arr_set v 3 (by omega)]; exact set_block hA' 3 _, (Below.heap_setCell _ _ _ _ (by simp)).trans hM'⟩
        case measure => simp [RowKit.intOf]
      · have a0 := blk_cell hA 4
        rw [show wat 4 = 8 from rfl]
        go_wp2_with (first | (go_at_call 67; refine (W4'.out _).mono ?_; rintro e' w3 ⟨rfl, rfl⟩) | (go_at_call 66; refine (G4'.out _).mono ?_; rintro e' w4 ⟨rfl, hb⟩; have hA' := (hb.block _ (blk_lt hA)).trans hA; have hM' := (hb.block _ (blk_lt hM)).trans hM; have hB3 := below_step hb hB2.size hB2; clear hb a0 hA hM hB2; have a0 := blk_cell hA' 4; have a9 := blk_free hA' 4; rw [show (arr v 4)[4]? = some (.int .i64 0) from rfl] at a0))
        go_roundw
        case rel => exact ⟨5, by omega, rfl, rfl, below_setCell hB3 (by omega) _ _, by rw [← arr_set v 4 (by omega)]; exact set_block hA' 4 _, (Below.heap_setCell _ _ _ _ (by simp)).trans hM'⟩
        case measure => simp [RowKit.intOf]
      · rw [show arr v 5 = #[.int .i64 (v 0), .int .i64 (v 1), .int .i64 (v 2), .int .i64 (v 3), .int .i64 (v 4)] from rfl] at hA
        have a0 := blk_cell hA 0
        have a1 := blk_cell hA 1
        have a2 := blk_cell hA 2
        have a3 := blk_cell hA 3
        have a4 := blk_cell hA 4
        go_wp2_with fail
        have hM1 := (Below.heap_alloc wr (.cells #[.int .i64 (v 0), .int .i64 (v 1), .int .i64 (1 - (v 1 : Int)), .int .i64 (v 2), .int .i64 (v 3), .int .i64 (v 4)] 31) _ (blk_lt hM)).trans hM
        have hN1 := heap_alloc_new wr (.cells #[.int .i64 (v 0), .int .i64 (v 1), .int .i64 (1 - (v 1 : Int)), .int .i64 (v 2), .int .i64 (v 3), .int .i64 (v 4)] 31)
        have hB1 := below_alloc hB2 (.cells #[.int .i64 (v 0), .int .i64 (v 1), .int .i64 (1 - (v 1 : Int)), .int .i64 (v 2), .int .i64 (v 3), .int .i64 (v 4)] 31)
        refine (HE.out _).mono ?_
        rintro e' w5 ⟨rfl, hb⟩
        have hM' := (hb.block _ (blk_lt hM1)).trans hM1
        have hN := (hb.block _ (blk_lt hN1)).trans hN1
        have hB := below_step hb hB1.size hB1
        clear hb hM1 hN1 hB1 a0 a1 a2 a3 a4 hA hM hB2
        have n0 := blk_cell hN 0
        have n1 := blk_cell hN 1
        have n2 := blk_cell hN 2
        have n3 := blk_cell hN 3
        have n4 := blk_cell hN 4
        have n5 := blk_cell hN 5
        have m0 := blk_cell hM' 0
        have m1 := blk_cell hM' 1
        have m2 := blk_cell hM' 2
        have m3 := blk_cell hM' 3
        have m4 := blk_cell hM' 4
        have m5 := blk_cell hM' 5
        have k0 := blk_free hM' 0
        have k1 := blk_free hM' 1
        have k2 := blk_free hM' 2
        have k3 := blk_free hM' 3
        have k4 := blk_free hM' 4
        have k5 := blk_free hM' 5
        rcases HC.out with ⟨rfl, rfl, rfl⟩ | ⟨rfl, rfl⟩ | ⟨rfl, rfl, hne⟩
        · go_wp2_with fail
          refine bodyPost_ret (v := .tuple #[.agg #[.int .i64 (v 0), .int .i64 (v 1), .int .i64 (1 - (v 1 : Int)), .int .i64 (v 2), .int .i64 (v 3), .int .i64 (v 4)], .int .i64 0]) (by have X := stored6 hM' (.int .i64 (v 0)) (.int .i64 (v 1)) (.int .i64 (1 - (v 1 : Int))) (.int .i64 (v 2)) (.int .i64 (v 3)) (.int .i64 (v 4)); simp [results, Try.results45, go_sem, X]) rfl ⟨by rw [HR.out.1, HR.out.2, ← HM.out]; rfl, ?_⟩
          exact below_setCell (below_setCell (below_setCell (below_setCell (below_setCell (below_setCell hB (Nat.le_refl _) _ _) (Nat.le_refl _) _ _) (Nat.le_refl _) _ _) (Nat.le_refl _) _ _) (Nat.le_refl _) _ _) (Nat.le_refl _) _ _
        · go_wp2_with fail
          refine bodyPost_ret (v := .tuple #[.agg #[.int .i64 0, .int .i64 0, .int .i64 0, .int .i64 0, .int .i64 0, .int .i64 0], .int .i64 210]) (by have X := stored6 hM' (.int .i64 0) (.int .i64 0) (.int .i64 0) (.int .i64 0) (.int .i64 0) (.int .i64 0); simp [results, Try.results45, go_sem, X]) rfl ⟨by rw [HR.out.1, HR.out.2]; rfl, ?_⟩
          exact below_setCell (below_setCell (below_setCell (below_setCell (below_setCell (below_setCell hB (Nat.le_refl _) _ _) (Nat.le_refl _) _ _) (Nat.le_refl _) _ _) (Nat.le_refl _) _ _) (Nat.le_refl _) _ _) (Nat.le_refl _) _ _
        · have hs2 := str_ne hne
          clear hne
          go_wp2_with fail
          refine bodyPost_ret (v := .tuple #[.agg #[.int .i64 0, .int .i64 0, .int .i64 0, .int .i64 0, .int .i64 0, .int .i64 0], .int .i64 210]) (by have X := stored6 hM' (.int .i64 0) (.int .i64 0) (.int .i64 0) (.int .i64 0) (.int .i64 0) (.int .i64 0); simp [results, Try.results45, go_sem, X]) rfl ⟨by rw [HR.out.1, HR.out.2]; rfl, ?_⟩
          exact below_setCell (below_setCell (below_setCell (below_setCell (below_setCell (below_setCell hB (Nat.le_refl _) _ _) (Nat.le_refl _) _ _) (Nat.le_refl _) _ _) (Nat.le_refl _) _ _) (Nat.le_refl _) _ _) (Nat.le_refl _) _ _
  · have hd : dok s.data.toList = false := by rw [dok]; simp only [decide_eq_false_iff_not]; omega
    have e1 : mdec s.data.toList = mzero := by rw [mdec, hd]; rfl
    have e2 : mdece s.data.toList = 210 := by rw [mdece, hd]; rfl
    rw [e1, e2]
    have hb : ((s.size : Int) != 13) = true := by simp; omega
    clear hz hd e1 e2 hlen
    go_enter Try.func45, Try.ntmps45
    go_wp2_with fail
    refine bodyPost_ret (v := .tuple #[.agg #[.int .i64 0, .int .i64 0, .int .i64 0, .int .i64 0, .int .i64 0, .int .i64 0], .int .i64 210]) (by simp [results, Try.results45, go_sem]) rfl ⟨rfl, by go_grown⟩
end Cw
