/- GeomRises answers true. -/
import Derived.Test.YtgigbkgdbhikmaaRiseLaw
import Derived.Test.YtgigbkgdbhikmaaFitsLaw
import Derived.Test.YtgigbkgdbhikmaaGeomEx
import Derived.Test.YtgigbkgdbhikmaaWireW3
namespace Cw
open Go Go.RowKit Go.IntWalk
open Go.Proofs

def L7 (f : Nat → Int) : Array Value := #[.int .i64 (f 0), .int .i64 (f 1), .int .i64 (f 2), .int .i64 (f 3), .int .i64 (f 4), .int .i64 (f 5), .int .i64 (f 6)]
def put7 (f : Nat → Int) (k : Nat) (v : Int) : Nat → Int := fun j => if j = k then v else f j
theorem L7_set (f : Nat → Int) (k : Nat) (v : Int) (h : k ≤ 6) : (L7 f).setIfInBounds k (.int .i64 v) = L7 (put7 f k v) := by
  rcases (show k = 0 ∨ k = 1 ∨ k = 2 ∨ k = 3 ∨ k = 4 ∨ k = 5 ∨ k = 6 by omega) with rfl | rfl | rfl | rfl | rfl | rfl | rfl <;> rfl
/-- What the list of the last numbers says. -/
def Ris (a b c : Int) (f : Nat → Int) (k : Nat) : Prop := ∀ j : Nat, j ≤ 6 → f j = -1 ∨ ∃ s : Nat, s < k ∧ we a b c s = 0 ∧ wk a b c s = j ∧ f j = wn a b c s
theorem ris_lt {a b c : Int} {f : Nat → Int} {k j : Nat} (h : Ris a b c f k) (hj : j ≤ 6) (he : we a b c k = 0) (hk : wk a b c k = j) : f j < wn a b c k := by
  have := wn_bd a b c k
  rcases h j hj with e | ⟨s, h1, h2, h3, h4⟩
  · omega
  · rw [h4]
    exact wn_rises he h2 (by omega) (by omega)
theorem ris_put {a b c : Int} {f : Nat → Int} {k j : Nat} (h : Ris a b c f k) (he : we a b c k = 0) (hk : wk a b c k = j) : Ris a b c (put7 f j (wn a b c k)) (k + 1) := by
  intro i hi
  by_cases e : i = j
  · subst e
    exact .inr ⟨k, by omega, he, hk, by simp [put7]⟩
  · rcases h i hi with e1 | ⟨s, h1, h2, h3, h4⟩
    · exact .inl (by simp [put7, e, e1])
    · exact .inr ⟨s, by omega, h2, h3, by simp [put7, e, h4]⟩

theorem heap_set_ne {w : World} {g h i : Nat} {v : Value} {x : Option Obj} (hne : h ≠ g) (hX : w.heap[h]? = x) : (w.setCell ⟨g, i, none⟩ v).heap[h]? = x := (Below.heap_setCell w ⟨g, i, none⟩ v h hne).trans hX
theorem heap_alloc_lt {w : World} {h : Nat} {o x : Obj} (hX : w.heap[h]? = some x) : (w.alloc o).heap[h]? = some x := (Below.heap_alloc w o h (blk_lt hX)).trans hX
theorem we_group {a b c : Int} (hg : Gok a b c) (k : Nat) (h1 : 1 ≤ k) (h2 : (k : Int) < a) : be a b c ((k : Int) - 1) (c - 1) = 0 ∧ me a b c k = 0 ∧ mapAt a b c k false = bs a b c ((k : Int) - 1) (c - 1) + 1 ∧ 0 ≤ bs a b c ((k : Int) - 1) (c - 1) ∧ bs a b c ((k : Int) - 1) (c - 1) ≤ 403 := by
  have hc := hg.2.2.2.2.1
  have hb1 := hg.2.2.1
  have h3 : gwithin a b c ((k : Int) - 1) a = 0 := within_zero hg (by omega) (by omega)
  have h4 : gwithin a b c (c - 1) c = 0 := within_zero hg (by omega) (by omega)
  have h5 : be a b c ((k : Int) - 1) (c - 1) = 0 := by rw [be, if_neg (by omega), h4]
  have h6 : me a b c k = 0 := within_zero hg (by omega) h2
  have h7 := @next_group a b c k
  have h8 := in_size hg (q := (k : Int) - 1) (r := 2 + b + (c - 1)) (by omega) (by omega) (by omega) (by omega)
  have h9 := (size_bd a b c)
  have h10 : bs a b c ((k : Int) - 1) (c - 1) = gfirst a b c ((k : Int) - 1) + 2 + b + (c - 1) := by rw [bs, if_neg (by omega)]
  refine ⟨h5, h6, ?_, by omega, by omega⟩
  rw [mapAt, if_neg (by omega), h10]
  simp
  omega

/-- What the walk carries: the box of the geometry, the list. -/
structure Box3 (w wr : World) (a b c : Int) : Prop where
  below : Below w.heap.size w wr
  blk : wr.heap[w.heap.size]? = some (.cells #[.int .i64 a, .int .i64 b, .int .i64 c] 32 (0, 0))
theorem Box3.new (w : World) (a b c : Int) : Box3 w (w.alloc (.cells #[.int .i64 a, .int .i64 b, .int .i64 c] 32)) a b c := ⟨below_alloc (Below.refl _ _) _, heap_alloc_new _ _⟩
theorem Box3.step {w w1 w2 : World} {a b c : Int} (h : Box3 w w1 a b c) (hb : Below w1.heap.size w1 w2) : Box3 w w2 a b c := ⟨below_step hb h.below.size h.below, (hb.block _ (blk_lt h.blk)).trans h.blk⟩
theorem Box3.box {w w1 : World} {a b c : Int} (h : Box3 w w1 a b c) : (∀ o, w1.cell? ⟨w.heap.size, o, none⟩ = #[Value.int .i64 a, .int .i64 b, .int .i64 c][o]?) ∧ w.heap.size < w1.heap.size := ⟨fun o => blk_cell h.blk o, blk_lt h.blk⟩
structure RisM (w wr : World) (gM : Nat) (a b c : Int) (f : Nat → Int) : Prop where
  base : Box3 w wr a b c
  arr : wr.heap[gM]? = some (.cells (L7 f) 46 (0, 0))
  lt : w.heap.size < gM
theorem RisM.step {w w1 w2 : World} {gM : Nat} {a b c : Int} {f : Nat → Int} (h : RisM w w1 gM a b c f) (hb : Below w1.heap.size w1 w2) : RisM w w2 gM a b c f :=
  ⟨h.base.step hb, (hb.block _ (blk_lt h.arr)).trans h.arr, h.lt⟩
theorem RisM.put {w w1 : World} {gM : Nat} {a b c : Int} {f : Nat → Int} (h : RisM w w1 gM a b c f) (k : Nat) (hk : k ≤ 6) (v : Int) : RisM w (w1.setCell ⟨gM, k, none⟩ (.int .i64 v)) gM a b c (put7 f k v) :=
  ⟨⟨below_setCell h.base.below (by have := h.lt; omega) _ _, heap_set_ne (by have := h.lt; omega) h.base.blk⟩, by rw [set_block h.arr k, L7_set f k v hk], h.lt⟩
theorem RisM.fill {w w1 : World} {gM : Nat} {a b c : Int} (k : Nat) (h : RisM w w1 gM a b c (fun j => if j < k then -1 else 0)) (hk : k ≤ 6) : RisM w (w1.setCell ⟨gM, k, none⟩ (.int .i64 (-1))) gM a b c (fun j => if j < k + 1 then -1 else 0) := by
  have e : put7 (fun j => if j < k then (-1 : Int) else 0) k (-1) = fun j => if j < k + 1 then -1 else 0 := by
    funext j
    simp only [put7]
    (repeat' split) <;> omega
  rw [← e]
  exact h.put k hk (-1)
theorem RisM.box {w w1 : World} {gM : Nat} {a b c : Int} {f : Nat → Int} (h : RisM w w1 gM a b c f) : (∀ o, w1.cell? ⟨w.heap.size, o, none⟩ = #[Value.int .i64 a, .int .i64 b, .int .i64 c][o]?) ∧ w.heap.size < w1.heap.size := h.base.box
theorem RisM.cell {w w1 : World} {gM : Nat} {a b c : Int} {f : Nat → Int} (h : RisM w w1 gM a b c f) (k : Nat) : w1.cell? ⟨gM, k, none⟩ = (L7 f)[k]? := blk_cell h.arr k
theorem RisM.free {w w1 : World} {gM : Nat} {a b c : Int} {f : Nat → Int} (h : RisM w w1 gM a b c f) (k : Nat) : w1.frozen? ⟨gM, k, none⟩ = false := blk_free h.arr k
theorem RisM.new {w w1 : World} {a b c : Int} (hR : Box3 w w1 a b c) : RisM w (w1.alloc (.cells #[.int .i64 0, .int .i64 0, .int .i64 0, .int .i64 0, .int .i64 0, .int .i64 0, .int .i64 0] 46)) w1.heap.size a b c (fun _ => 0) :=
  ⟨⟨below_alloc hR.below _, heap_alloc_lt hR.blk⟩, heap_alloc_new _ _, blk_lt hR.blk⟩

set_option maxRecDepth 100000 in
set_option maxHeartbeats 8000000 in
theorem geomRises_true (a b c : Int) (w : World) : Calls Try.prog 6 #[geo a b c] w fun e w' => e = .returned (.bool true) ∧ Below w.heap.size w w' := by
  have C1 := check_any a b c
  by_cases hg : Gok a b c
  · rw [show gcheck a b c = 0 by rw [gcheck, if_pos hg]] at C1
    have C0 := Lib.hid C1
    clear C1
    have hsz := size_bd a b c
    obtain ⟨n, hn⟩ := Int.eq_ofNat_of_zero_le hsz.1
    have S1 := size_any a b c
    rw [hn] at S1
    have S0 := Lib.hid S1
    have hn403 : n ≤ 403 := by omega
    have hwe : ∀ k : Nat, k < n → we a b c k = 0 := fun k hk => we_zero hg (by omega) (by omega)
    have HWE := Lib.hid hwe
    have HG := Lib.hid hg
    have ha := hg.1
    have ha4 := hg.2.1
    have hc1 := hg.2.2.2.2.1
    have hc64 := hg.2.2.2.2.2
    clear S1 hn hwe hsz hg
    go_enter Try.func6, Try.ntmps6
    go_wp2_with fail
    have hR := Box3.new w a b c
    generalize World.alloc w _ = w0 at *
    obtain ⟨hc, hz⟩ := hR.box
    go_wp2_with (first | (go_at_call 32; refine (works03 _).mono ?_; rintro e w1 ⟨rfl, hb⟩; have X := hR.step hb; clear hb hR hc hz; have hR := X; clear X; obtain ⟨hc, hz⟩ := hR.box) | (go_at_call 33; refine (C0.out _).mono ?_; rintro e w1 ⟨rfl, hb⟩; have X := hR.step hb; clear hb hR hc hz; have hR := X; clear X; obtain ⟨hc, hz⟩ := hR.box))
    have hM := RisM.new hR
    clear hR hc hz
    generalize World.alloc w1 _ = w2 at *
    generalize w1.heap.size = gM at *
    go_loopw [19] (fun i wr => ∃ k : Nat, k ≤ 7 ∧ i = .int .i64 k ∧ RisM w wr gM a b c (fun j => if j < k then -1 else 0)) (fun i _ => 7 - (intOf i).toNat)
    case atStart => exact ⟨0, by omega, rfl, hM⟩
    case round =>
      clear hM
      obtain ⟨k, hk, rfl, hR⟩ := hrel
      obtain ⟨hc, hz⟩ := hR.box
      rcases (show k = 0 ∨ k = 1 ∨ k = 2 ∨ k = 3 ∨ k = 4 ∨ k = 5 ∨ k = 6 ∨ k = 7 by omega) with rfl | rfl | rfl | rfl | rfl | rfl | rfl | rfl
      · skip
        have a0 := hR.cell 0
        have a9 := hR.free 0
        rw [show (L7 (fun j => if j < 0 then (-1 : Int) else 0))[0]? = some (.int .i64 0) from rfl] at a0
        go_wp2_with fail
        go_roundw
        case rel => exact ⟨0 + 1, by omega, rfl, RisM.fill 0 hR (by omega)⟩
        case measure => simp [intOf]
      · skip
        have a0 := hR.cell 1
        have a9 := hR.free 1
        rw [show (L7 (fun j => if j < 1 then (-1 : Int) else 0))[1]? = some (.int .i64 0) from rfl] at a0
        go_wp2_with fail
        go_roundw
        case rel => exact ⟨1 + 1, by omega, rfl, RisM.fill 1 hR (by omega)⟩
        case measure => simp [intOf]
      · skip
        have a0 := hR.cell 2
        have a9 := hR.free 2
        rw [show (L7 (fun j => if j < 2 then (-1 : Int) else 0))[2]? = some (.int .i64 0) from rfl] at a0
        go_wp2_with fail
        go_roundw
        case rel => exact ⟨2 + 1, by omega, rfl, RisM.fill 2 hR (by omega)⟩
        case measure => simp [intOf]
      · skip
        have a0 := hR.cell 3
        have a9 := hR.free 3
        rw [show (L7 (fun j => if j < 3 then (-1 : Int) else 0))[3]? = some (.int .i64 0) from rfl] at a0
        go_wp2_with fail
        go_roundw
        case rel => exact ⟨3 + 1, by omega, rfl, RisM.fill 3 hR (by omega)⟩
        case measure => simp [intOf]
      · skip
        have a0 := hR.cell 4
        have a9 := hR.free 4
        rw [show (L7 (fun j => if j < 4 then (-1 : Int) else 0))[4]? = some (.int .i64 0) from rfl] at a0
        go_wp2_with fail
        go_roundw
        case rel => exact ⟨4 + 1, by omega, rfl, RisM.fill 4 hR (by omega)⟩
        case measure => simp [intOf]
      · skip
        have a0 := hR.cell 5
        have a9 := hR.free 5
        rw [show (L7 (fun j => if j < 5 then (-1 : Int) else 0))[5]? = some (.int .i64 0) from rfl] at a0
        go_wp2_with fail
        go_roundw
        case rel => exact ⟨5 + 1, by omega, rfl, RisM.fill 5 hR (by omega)⟩
        case measure => simp [intOf]
      · skip
        have a0 := hR.cell 6
        have a9 := hR.free 6
        rw [show (L7 (fun j => if j < 6 then (-1 : Int) else 0))[6]? = some (.int .i64 0) from rfl] at a0
        go_wp2_with fail
        go_roundw
        case rel => exact ⟨6 + 1, by omega, rfl, RisM.fill 6 hR (by omega)⟩
        case measure => simp [intOf]
      · go_wp2_with (first | (go_at_call 34; refine (S0.out _).mono ?_; rintro e w1 ⟨rfl, hb⟩; have X := hR.step hb; clear hb hR hc hz; have hR := X; clear X; obtain ⟨hc, hz⟩ := hR.box))
        have hr0 : Ris a b c (fun j => if j < 7 then -1 else 0) 0 := fun j hj => .inl (by simp; omega)
        generalize (fun j : Nat => if j < 7 then (-1 : Int) else 0) = f0 at *
        have HR0 := Lib.hid hR
        clear hR hc hz
        go_loopw [27] (fun i wr => ∃ k : Nat, ∃ f, k ≤ n ∧ i = .int .i64 k ∧ Ris a b c f k ∧ RisM w wr gM a b c f) (fun i _ => n - (intOf i).toNat)
        case atStart => exact ⟨0, f0, by omega, rfl, hr0, HR0.out⟩
        case round =>
          clear HR0 hr0 f0
          obtain ⟨k, f, hk, rfl, hF, hR⟩ := hrel
          obtain ⟨hc, hz⟩ := hR.box
          by_cases hlt : k < n
          · have he := HWE.out k hlt
            have bd := wk_bd he
            have nb := wn_bd a b c k
            have WH1 := what_any a b c k
            rw [he] at WH1
            have hless := fun j (hj : j ≤ 6) h => ris_lt (j := j) hF hj he h
            have hput := fun j h => ris_put (j := j) hF he h
            generalize wk a b c k = κ at *
            generalize wn a b c k = ν at *
            have PUT := Lib.hid hput
            have WH := Lib.hid WH1
            clear hput WH1 hF
            rcases (show κ = 0 ∨ κ = 1 ∨ κ = 2 ∨ κ = 3 ∨ κ = 4 ∨ κ = 5 ∨ κ = 6 by omega) with rfl | rfl | rfl | rfl | rfl | rfl | rfl
            · skip
              have hl := hless 0 (by omega) rfl
              go_wp2_with (first | (go_at_call 35; refine (WH.out _).mono ?_; rintro e w1 ⟨rfl, hb⟩; have X := hR.step hb; clear hb hR hc hz; have hR := X; clear X; obtain ⟨hc, hz⟩ := hR.box; have a0 := hR.cell 0; have a9 := hR.free 0; rw [show (L7 f)[0]? = some (.int .i64 (f 0)) from rfl] at a0))
              go_roundw
              case rel => exact ⟨k + 1, put7 f 0 ν, by omega, by go_num, PUT.out 0 rfl, hR.put 0 (by omega) ν⟩
              case measure => simp [intOf]; omega
            · skip
              have hl := hless 1 (by omega) rfl
              go_wp2_with (first | (go_at_call 35; refine (WH.out _).mono ?_; rintro e w1 ⟨rfl, hb⟩; have X := hR.step hb; clear hb hR hc hz; have hR := X; clear X; obtain ⟨hc, hz⟩ := hR.box; have a0 := hR.cell 1; have a9 := hR.free 1; rw [show (L7 f)[1]? = some (.int .i64 (f 1)) from rfl] at a0))
              go_roundw
              case rel => exact ⟨k + 1, put7 f 1 ν, by omega, by go_num, PUT.out 1 rfl, hR.put 1 (by omega) ν⟩
              case measure => simp [intOf]; omega
            · skip
              have hl := hless 2 (by omega) rfl
              go_wp2_with (first | (go_at_call 35; refine (WH.out _).mono ?_; rintro e w1 ⟨rfl, hb⟩; have X := hR.step hb; clear hb hR hc hz; have hR := X; clear X; obtain ⟨hc, hz⟩ := hR.box; have a0 := hR.cell 2; have a9 := hR.free 2; rw [show (L7 f)[2]? = some (.int .i64 (f 2)) from rfl] at a0))
              go_roundw
              case rel => exact ⟨k + 1, put7 f 2 ν, by omega, by go_num, PUT.out 2 rfl, hR.put 2 (by omega) ν⟩
              case measure => simp [intOf]; omega
            · skip
              have hl := hless 3 (by omega) rfl
              go_wp2_with (first | (go_at_call 35; refine (WH.out _).mono ?_; rintro e w1 ⟨rfl, hb⟩; have X := hR.step hb; clear hb hR hc hz; have hR := X; clear X; obtain ⟨hc, hz⟩ := hR.box; have a0 := hR.cell 3; have a9 := hR.free 3; rw [show (L7 f)[3]? = some (.int .i64 (f 3)) from rfl] at a0))
              go_roundw
              case rel => exact ⟨k + 1, put7 f 3 ν, by omega, by go_num, PUT.out 3 rfl, hR.put 3 (by omega) ν⟩
              case measure => simp [intOf]; omega
            · skip
              have hl := hless 4 (by omega) rfl
              go_wp2_with (first | (go_at_call 35; refine (WH.out _).mono ?_; rintro e w1 ⟨rfl, hb⟩; have X := hR.step hb; clear hb hR hc hz; have hR := X; clear X; obtain ⟨hc, hz⟩ := hR.box; have a0 := hR.cell 4; have a9 := hR.free 4; rw [show (L7 f)[4]? = some (.int .i64 (f 4)) from rfl] at a0))
              go_roundw
              case rel => exact ⟨k + 1, put7 f 4 ν, by omega, by go_num, PUT.out 4 rfl, hR.put 4 (by omega) ν⟩
              case measure => simp [intOf]; omega
            · skip
              have hl := hless 5 (by omega) rfl
              go_wp2_with (first | (go_at_call 35; refine (WH.out _).mono ?_; rintro e w1 ⟨rfl, hb⟩; have X := hR.step hb; clear hb hR hc hz; have hR := X; clear X; obtain ⟨hc, hz⟩ := hR.box; have a0 := hR.cell 5; have a9 := hR.free 5; rw [show (L7 f)[5]? = some (.int .i64 (f 5)) from rfl] at a0))
              go_roundw
              case rel => exact ⟨k + 1, put7 f 5 ν, by omega, by go_num, PUT.out 5 rfl, hR.put 5 (by omega) ν⟩
              case measure => simp [intOf]; omega
            · skip
              have hl := hless 6 (by omega) rfl
              go_wp2_with (first | (go_at_call 35; refine (WH.out _).mono ?_; rintro e w1 ⟨rfl, hb⟩; have X := hR.step hb; clear hb hR hc hz; have hR := X; clear X; obtain ⟨hc, hz⟩ := hR.box; have a0 := hR.cell 6; have a9 := hR.free 6; rw [show (L7 f)[6]? = some (.int .i64 (f 6)) from rfl] at a0))
              go_roundw
              case rel => exact ⟨k + 1, put7 f 6 ν, by omega, by go_num, PUT.out 6 rfl, hR.put 6 (by omega) ν⟩
              case measure => simp [intOf]; omega
          · obtain rfl : k = n := by omega
            clear hF
            go_wp2_with fail
            have HR0 := Lib.hid hR
            clear hR hc hz
            go_loopw [9] (fun i wr => ∃ k : Nat, 1 ≤ k ∧ (k : Int) ≤ a ∧ i = .int .i64 k ∧ Box3 w wr a b c) (fun i _ => a.toNat - (intOf i).toNat)
            case atStart => exact ⟨1, by omega, by omega, rfl, HR0.out.base⟩
            case round =>
              clear HR0
              obtain ⟨j, hj1, hja, rfl, hR⟩ := hrel
              obtain ⟨hc, hz⟩ := hR.box
              by_cases hlt : (j : Int) < a
              · obtain ⟨e1, e2, e3, e4, e5⟩ := we_group HG.out j hj1 hlt
                have BL1 := block_any a b c ((j : Int) - 1) (c - 1)
                have MA1 := map_any a b c j false
                rw [e1] at BL1
                rw [e2, e3] at MA1
                generalize bs a b c ((j : Int) - 1) (c - 1) = x at *
                have BL := Lib.hid BL1
                have MA := Lib.hid MA1
                clear BL1 MA1 e1 e2 e3
                go_wp2_with (first | (go_at_call 36; refine (BL.out _).mono ?_; rintro e w1 ⟨rfl, hb⟩; have X := hR.step hb; clear hb hR hc hz; have hR := X; clear X; obtain ⟨hc, hz⟩ := hR.box) | (go_at_call 37; refine (MA.out _).mono ?_; rintro e w1 ⟨rfl, hb⟩; have X := hR.step hb; clear hb hR hc hz; have hR := X; clear X; obtain ⟨hc, hz⟩ := hR.box))
                go_roundw
                case rel => exact ⟨j + 1, by omega, by omega, by go_num, hR⟩
                case measure => simp [intOf]; omega
              · obtain rfl : (j : Int) = a := by omega
                go_wp2_with fail
                go_ret
                exact ⟨rfl, hR.below⟩
  · rw [show gcheck a b c = 4 by rw [gcheck, if_neg hg]] at C1
    have C0 := Lib.hid C1
    clear C1 hg
    go_enter Try.func6, Try.ntmps6
    go_wp2_with fail
    all_goals obtain ⟨hB, hc, hz⟩ := start_facts w #[.int .i64 a, .int .i64 b, .int .i64 c] 32
    all_goals generalize World.alloc w (.cells #[.int .i64 a, .int .i64 b, .int .i64 c] 32) = w0 at *
    go_wp2_with (first | (go_at_call 32; refine (works03 _).mono ?_; rintro e w1 ⟨rfl, hb⟩; have X := adv hB hb hc hz; clear hB hb hc hz; obtain ⟨hB, hc, hz⟩ := X) | (go_at_call 33; refine (C0.out _).mono ?_; rintro e w1 ⟨rfl, hb⟩; have X := adv hB hb hc hz; clear hB hb hc hz; obtain ⟨hB, hc, hz⟩ := X))
    go_ret
    exact ⟨rfl, hB⟩
end Cw
