/- GeomFits answers true. -/
import Derived.Test.YtgigbkgdbhikmaaFitsLaw2
import Derived.Test.YtgigbkgdbhikmaaRiseW
namespace Cw
open Go Go.RowKit Go.IntWalk
open Go.Proofs

theorem cnt_bd (a b c k : Int) : ∀ n : Nat, 0 ≤ cnt a b c k n ∧ cnt a b c k n ≤ n
  | 0 => by simp [cnt]
  | n + 1 => by
    have := cnt_bd a b c k n
    rw [cnt]
    split <;> omega
theorem L7_cnt {a b c : Int} {k : Nat} (j : Nat) (hj : j ≤ 6) (hk : wk a b c k = j) : (L7 (fun i => cnt a b c i k)).setIfInBounds j (.int .i64 (cnt a b c j k + 1)) = L7 (fun i => cnt a b c i (k + 1)) := by
  rcases (show j = 0 ∨ j = 1 ∨ j = 2 ∨ j = 3 ∨ j = 4 ∨ j = 5 ∨ j = 6 by omega) with rfl | rfl | rfl | rfl | rfl | rfl | rfl <;> simp [L7, cnt, hk]

theorem RisM.cnt {w w1 : World} {gM : Nat} {a b c : Int} {k : Nat} (h : RisM w w1 gM a b c (fun i => cnt a b c i k)) (j : Nat) (hj : j ≤ 6) (hk : wk a b c k = j) : RisM w (w1.setCell ⟨gM, j, none⟩ (.int .i64 (Cw.cnt a b c j k + 1))) gM a b c (fun i => Cw.cnt a b c i (k + 1)) :=
  ⟨⟨below_setCell h.base.below (by have := h.lt; omega) _ _, heap_set_ne (by have := h.lt; omega) h.base.blk⟩, by rw [set_block h.arr j, L7_cnt j hj hk], h.lt⟩

set_option maxRecDepth 100000 in
set_option maxHeartbeats 8000000 in
theorem geomFits_true (a b c : Int) (w : World) : Calls Try.prog 7 #[geo a b c] w fun e w' => e = .returned (.bool true) ∧ Below w.heap.size w w' := by
  have C1 := check_any a b c
  have S1 := size_any a b c
  by_cases hg : Gok a b c
  · rw [show gcheck a b c = 0 by rw [gcheck, if_pos hg]] at C1
    have C0 := Lib.hid C1
    have hsz := size_bd a b c
    obtain ⟨n, hn⟩ := Int.eq_ofNat_of_zero_le hsz.1
    rw [hn] at S1
    have S0 := Lib.hid S1
    have hn403 : n ≤ 403 := by omega
    have hwe : ∀ k : Nat, k < n → we a b c k = 0 := fun k hk => we_zero hg (by omega) (by omega)
    have HWE := Lib.hid hwe
    have HG := Lib.hid hg
    have HALL := Lib.hid (cnt_all hg n hn.symm)
    have ha := hg.1
    have ha4 := hg.2.1
    have hc1 := hg.2.2.2.2.1
    have hc64 := hg.2.2.2.2.2
    have hrg := regions_bd a b c
    have hac := prod_bd (k := a) (a := a + 1) (b := c) (m := 5) (n := 64) (by omega) (by omega) (by omega) (by omega) (by omega) (by omega) (by omega)
    clear S1 C1 hn hwe hsz hg
    go_enter Try.func7, Try.ntmps7
    go_wp2_with fail
    have hR := Box3.new w a b c
    generalize World.alloc w _ = w0 at *
    obtain ⟨hc, hz⟩ := hR.box
    go_wp2_with (first | (go_at_call 32; refine (works03 _).mono ?_; rintro e w1 ⟨rfl, hb⟩; have X := hR.step hb; clear hb hR hc hz; have hR := X; clear X; obtain ⟨hc, hz⟩ := hR.box) | (go_at_call 33; refine (C0.out _).mono ?_; rintro e w1 ⟨rfl, hb⟩; have X := hR.step hb; clear hb hR hc hz; have hR := X; clear X; obtain ⟨hc, hz⟩ := hR.box))
    have hM := RisM.new hR
    clear hR hc hz
    generalize World.alloc w1 _ = w2 at *
    generalize w1.heap.size = gM at *
    have hR := hM
    clear hM
    obtain ⟨hc, hz⟩ := hR.box
    go_wp2_with (first | (go_at_call 34; refine (S0.out _).mono ?_; rintro e w1 ⟨rfl, hb⟩; have X := hR.step hb; clear hb hR hc hz; have hR := X; clear X; obtain ⟨hc, hz⟩ := hR.box))
    have HR0 := Lib.hid hR
    clear hR hc hz
    go_loopw [23] (fun i wr => ∃ k : Nat, k ≤ n ∧ i = .int .i64 k ∧ RisM w wr gM a b c (fun i => cnt a b c i k)) (fun i _ => n - (intOf i).toNat)
    case atStart => exact ⟨0, by omega, rfl, HR0.out⟩
    case round =>
      clear HR0
      obtain ⟨k, hk, rfl, hR⟩ := hrel
      obtain ⟨hc, hz⟩ := hR.box
      by_cases hlt : k < n
      · have he := HWE.out k hlt
        have bd := wk_bd he
        have nb := wn_bd a b c k
        have WH1 := what_any a b c k
        rw [he] at WH1
        have PUT := Lib.hid (fun w1 (h : RisM w w1 gM a b c (fun i => cnt a b c i k)) j hj hk => RisM.cnt (w1 := w1) h j hj hk)
        have hmb := fun h => map_back he h
        have hib := fun h => inode_back he h
        have hbb := fun h => block_back he h
        have MB1 := map_any a b c (wn a b c k) (decide (wk a b c k = 4))
        have IB1 := inode_any a b c (wn a b c k)
        have PB1 := place_any a b c k
        have BB1 := block_any a b c (pg a b c k) (pp a b c k)
        have hcb := fun j => cnt_bd a b c j k
        generalize wn a b c k = ν at *
        generalize pg a b c k = q at *
        generalize pp a b c k = r at *
        generalize pe a b c k = pe0 at *
        generalize wk a b c k = κ at *
        have WH := Lib.hid WH1
        have MB := Lib.hid MB1
        have IB := Lib.hid IB1
        have PB := Lib.hid PB1
        have BB := Lib.hid BB1
        clear WH1 MB1 IB1 PB1 BB1
        rcases (show κ = 0 ∨ κ = 1 ∨ κ = 2 ∨ κ = 3 ∨ κ = 4 ∨ κ = 5 ∨ κ = 6 by omega) with rfl | rfl | rfl | rfl | rfl | rfl | rfl
        · clear hmb hib hbb MB IB PB BB
          have hcj := hcb 0
          go_wp2_with (first | (go_at_call 35; refine (WH.out _).mono ?_; rintro e w1 ⟨rfl, hb⟩; have X := hR.step hb; clear hb hR hc hz; have hN := PUT.out _ X 0 (by omega) (by rfl); have a0 := X.cell 0; have a9 := X.free 0; obtain ⟨hc1, hz1⟩ := X.box; clear X; rw [show (L7 (fun i => cnt a b c i k))[0]? = some (.int .i64 (cnt a b c 0 k)) from rfl] at a0; obtain ⟨hc, hz⟩ := hN.box) | fail)
          go_roundw
          case rel => exact ⟨k + 1, by omega, by go_num, hN⟩
          case measure => simp [intOf]; omega
        · clear hmb hib hbb MB IB PB BB
          have hcj := hcb 1
          go_wp2_with (first | (go_at_call 35; refine (WH.out _).mono ?_; rintro e w1 ⟨rfl, hb⟩; have X := hR.step hb; clear hb hR hc hz; have hN := PUT.out _ X 1 (by omega) (by rfl); have a0 := X.cell 1; have a9 := X.free 1; obtain ⟨hc1, hz1⟩ := X.box; clear X; rw [show (L7 (fun i => cnt a b c i k))[1]? = some (.int .i64 (cnt a b c 1 k)) from rfl] at a0; obtain ⟨hc, hz⟩ := hN.box) | fail)
          go_roundw
          case rel => exact ⟨k + 1, by omega, by go_num, hN⟩
          case measure => simp [intOf]; omega
        · clear hmb hib hbb MB IB PB BB
          have hcj := hcb 2
          go_wp2_with (first | (go_at_call 35; refine (WH.out _).mono ?_; rintro e w1 ⟨rfl, hb⟩; have X := hR.step hb; clear hb hR hc hz; have hN := PUT.out _ X 2 (by omega) (by rfl); have a0 := X.cell 2; have a9 := X.free 2; obtain ⟨hc1, hz1⟩ := X.box; clear X; rw [show (L7 (fun i => cnt a b c i k))[2]? = some (.int .i64 (cnt a b c 2 k)) from rfl] at a0; obtain ⟨hc, hz⟩ := hN.box) | fail)
          go_roundw
          case rel => exact ⟨k + 1, by omega, by go_num, hN⟩
          case measure => simp [intOf]; omega
        · obtain ⟨m1, m2⟩ := hmb (by omega)
          have MB1 := MB.out
          rw [m2, m1] at MB1
          have MB := Lib.hid MB1
          clear hmb hib hbb IB PB BB MB1 m1 m2
          have hcj := hcb 3
          go_wp2_with (first | (go_at_call 35; refine (WH.out _).mono ?_; rintro e w1 ⟨rfl, hb⟩; have X := hR.step hb; clear hb hR hc hz; have hN := PUT.out _ X 3 (by omega) (by rfl); have a0 := X.cell 3; have a9 := X.free 3; obtain ⟨hc1, hz1⟩ := X.box; clear X; rw [show (L7 (fun i => cnt a b c i k))[3]? = some (.int .i64 (cnt a b c 3 k)) from rfl] at a0; obtain ⟨hc, hz⟩ := hN.box) | (go_at_call 37; refine (MB.out _).mono ?_; rintro e w1 ⟨rfl, hb⟩; have X := hN.step hb; clear hb hN hc hz; have hN := X; clear X; obtain ⟨hc, hz⟩ := hN.box))
          go_roundw
          case rel => exact ⟨k + 1, by omega, by go_num, hN⟩
          case measure => simp [intOf]; omega
        · obtain ⟨m1, m2⟩ := hmb (by omega)
          have MB1 := MB.out
          rw [m2, m1] at MB1
          have MB := Lib.hid MB1
          clear hmb hib hbb IB PB BB MB1 m1 m2
          have hcj := hcb 4
          go_wp2_with (first | (go_at_call 35; refine (WH.out _).mono ?_; rintro e w1 ⟨rfl, hb⟩; have X := hR.step hb; clear hb hR hc hz; have hN := PUT.out _ X 4 (by omega) (by rfl); have a0 := X.cell 4; have a9 := X.free 4; obtain ⟨hc1, hz1⟩ := X.box; clear X; rw [show (L7 (fun i => cnt a b c i k))[4]? = some (.int .i64 (cnt a b c 4 k)) from rfl] at a0; obtain ⟨hc, hz⟩ := hN.box) | (go_at_call 37; refine (MB.out _).mono ?_; rintro e w1 ⟨rfl, hb⟩; have X := hN.step hb; clear hb hN hc hz; have hN := X; clear X; obtain ⟨hc, hz⟩ := hN.box))
          go_roundw
          case rel => exact ⟨k + 1, by omega, by go_num, hN⟩
          case measure => simp [intOf]; omega
        · obtain ⟨m1, m2⟩ := hib (by omega)
          have IB1 := IB.out
          rw [m2, m1] at IB1
          have IB := Lib.hid IB1
          clear hmb hib hbb MB PB BB IB1 m1 m2
          have hcj := hcb 5
          go_wp2_with (first | (go_at_call 35; refine (WH.out _).mono ?_; rintro e w1 ⟨rfl, hb⟩; have X := hR.step hb; clear hb hR hc hz; have hN := PUT.out _ X 5 (by omega) (by rfl); have a0 := X.cell 5; have a9 := X.free 5; obtain ⟨hc1, hz1⟩ := X.box; clear X; rw [show (L7 (fun i => cnt a b c i k))[5]? = some (.int .i64 (cnt a b c 5 k)) from rfl] at a0; obtain ⟨hc, hz⟩ := hN.box) | (go_at_call 38; refine (IB.out _).mono ?_; rintro e w1 ⟨rfl, hb⟩; have X := hN.step hb; clear hb hN hc hz; have hN := X; clear X; obtain ⟨hc, hz⟩ := hN.box))
          go_roundw
          case rel => exact ⟨k + 1, by omega, by go_num, hN⟩
          case measure => simp [intOf]; omega
        · obtain ⟨m1, m2, m3, m4, m5, m6, m7, m8⟩ := hbb (by omega)
          have PB1 := PB.out
          rw [m1] at PB1
          have PB := Lib.hid PB1
          have BB1 := BB.out
          rw [m3, m4] at BB1
          have BB := Lib.hid BB1
          clear hmb hib hbb MB IB PB1 BB1 m1 m3 m4
          have hqc := prod_bd (k := q) (a := a) (b := c) (m := 4) (n := 64) (by omega) (by omega) (by omega) (by omega) (by omega) (by omega) (by omega)
          have hcj := hcb 6
          go_wp2_with (first | (go_at_call 35; refine (WH.out _).mono ?_; rintro e w1 ⟨rfl, hb⟩; have X := hR.step hb; clear hb hR hc hz; have hN := PUT.out _ X 6 (by omega) (by rfl); have a0 := X.cell 6; have a9 := X.free 6; obtain ⟨hc1, hz1⟩ := X.box; clear X; rw [show (L7 (fun i => cnt a b c i k))[6]? = some (.int .i64 (cnt a b c 6 k)) from rfl] at a0; obtain ⟨hc, hz⟩ := hN.box) | (first | (go_at_call 39; refine (PB.out _).mono ?_; rintro e w1 ⟨rfl, hb⟩; have X := hN.step hb; clear hb hN hc hz; have hN := X; clear X; obtain ⟨hc, hz⟩ := hN.box) | (go_at_call 36; refine (BB.out _).mono ?_; rintro e w1 ⟨rfl, hb⟩; have X := hN.step hb; clear hb hN hc hz; have hN := X; clear X; obtain ⟨hc, hz⟩ := hN.box)))
          go_roundw
          case rel => exact ⟨k + 1, by omega, by go_num, hN⟩
          case measure => simp [intOf]; omega
      · obtain rfl : k = n := by omega
        have harr := hR.arr
        have hbx := hR.base.blk
        obtain ⟨z0, z1, z2, z3, z4, z5, z6⟩ := HALL.out
        rw [show L7 (fun i => cnt a b c i k) = #[.int .i64 (cnt a b c 0 k), .int .i64 (cnt a b c 1 k), .int .i64 (cnt a b c 2 k), .int .i64 (cnt a b c 3 k), .int .i64 (cnt a b c 4 k), .int .i64 (cnt a b c 5 k), .int .i64 (cnt a b c 6 k)] from rfl, z0, z1, z2, z3, z4, z5, z6] at harr
        have hib := inodes_bd a b c
        have RG := Lib.hid (regions_any a b c)
        have IN := Lib.hid (inodes_any a b c)
        have hB := hR.base.below
        generalize gregions a b c = R at *
        generalize ginodes a b c = I at *
        clear z0 z1 z2 z3 z4 z5 z6 HALL hR HWE HG
        go_wp2_with (first | (go_at_call 40; refine (RG.out _).mono ?_; rintro e w3 ⟨rfl, hb⟩; have hB3 := below_step hb hB.size hB; have harr3 := (hb.block _ (blk_lt harr)).trans harr; have hbx3 := (hb.block _ (blk_lt hbx)).trans hbx; clear hB harr hbx hc hz hb) | (refine region_held (by kernel_rfl) (by kernel_rfl) (fun τ hN F hF hG => ?_); have hca := fun n k => blk_cell (((hF n).block _ (blk_lt harr3)).trans harr3) k; have hcc := fun n k => blk_cell (((hF n).block _ (blk_lt hbx3)).trans hbx3) k; (repeat (go_big_quiet_step ((go_at_call 41; refine (IN.out _).mono ?_; rintro e w' ⟨rfl, hb⟩; exact ⟨rfl, hG _ ((hF _).trans (hb.mono (hF _).size))⟩)))); refine wpQuiet_nil ?_; intro n; have hB4 := below_step (hF n) hB3.size hB3; generalize F n = w4 at *; clear hF hG hca hcc hB3 harr3 hbx3))
        go_ret
        exact ⟨rfl, hB4⟩
  · rw [show gcheck a b c = 4 by rw [gcheck, if_neg hg]] at C1
    rw [show gsize a b c = 0 by rw [gsize, if_neg hg]] at S1
    have C0 := Lib.hid C1
    have S0 := Lib.hid S1
    clear C1 S1 hg
    go_enter Try.func7, Try.ntmps7
    go_wp2_with fail
    all_goals obtain ⟨hB, hc, hz⟩ := start_facts w #[.int .i64 a, .int .i64 b, .int .i64 c] 32
    all_goals generalize World.alloc w (.cells #[.int .i64 a, .int .i64 b, .int .i64 c] 32) = w0 at *
    go_wp2_with (first | (go_at_call 32; refine (works03 _).mono ?_; rintro e w1 ⟨rfl, hb⟩; have X := adv hB hb hc hz; clear hB hb hc hz; obtain ⟨hB, hc, hz⟩ := X) | (go_at_call 33; refine (C0.out _).mono ?_; rintro e w1 ⟨rfl, hb⟩; have X := adv hB hb hc hz; clear hB hb hc hz; obtain ⟨hB, hc, hz⟩ := X) | (go_at_call 34; refine (S0.out _).mono ?_; rintro e w1 ⟨rfl, hb⟩; have X := adv hB hb hc hz; clear hB hb hc hz; obtain ⟨hB, hc, hz⟩ := X))
    go_ret
    exact ⟨rfl, hB⟩
end Cw
