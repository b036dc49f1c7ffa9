/- The walks of the program's package inode: blocks; the patches of parts. -/
import Derived.Test.YtigaallhjlmhbaaInoSpec
import Derived.Test.YtigaallhjlmhbaaRiseW
namespace Cw
open Go Go.RowKit Go.IntWalk
open Go.Proofs

set_option maxRecDepth 100000 in
set_option maxHeartbeats 2000000 in
theorem iblocks_any (a b c : Int) (L : List Int) (hL : L.length ≤ 64) (g cap : Nat) (w : World) (hg : g < w.heap.size) (hrow : ∀ k (h : k < L.length), w.cell? ⟨g, k, none⟩ = some (.int .i64 (L[k]'h))) :
    Calls Try.prog 66 #[geo a b c, .slice (some ⟨g, 0, none⟩) L.length cap] w fun e w' => e = .returned (.bool (L.all (okb a b c))) ∧ Below w.heap.size w w' := by
  have hno := fun k h hp => all_no (p := okb a b c) L k h hp
  have hyes : (L.take L.length).all (okb a b c) = true → L.all (okb a b c) = true := by rw [List.take_length]; exact id
  generalize hv : L.all (okb a b c) = v at *
  have HNO := Lib.hid hno
  have HYES := Lib.hid hyes
  have HROW := Lib.hid hrow
  clear hno hyes hrow hv
  go_enter Try.func66, Try.ntmps66
  go_wp2_with fail
  have hR := Box3.new w a b c
  generalize World.alloc w _ = w0 at *
  go_loopw [12] (fun i wr => ∃ k : Nat, k ≤ L.length ∧ i = .int .i64 k ∧ (L.take k).all (okb a b c) = true ∧ Box3 w wr a b c) (fun i _ => L.length - (intOf i).toNat)
  case atStart => exact ⟨0, by omega, rfl, rfl, hR⟩
  case round =>
    clear hR
    obtain ⟨k, hk, rfl, hall, hR⟩ := hrel
    obtain ⟨hc, hz⟩ := hR.box
    by_cases hlt : k < L.length
    · have hx := (hR.below.cell (p := ⟨g, k, none⟩) hg).trans (HROW.out k hlt)
      have hstep := okb_take (p := okb a b c) L k hlt hall
      have hno := HNO.out k hlt
      generalize L[k]'hlt = x at *
      have WH := Lib.hid (what_any a b c x)
      have HS := Lib.hid hstep
      have HN := Lib.hid hno
      have hokb : okb a b c x = ((x == 0) || ((we a b c x == 0) && (wk a b c x == 6))) := rfl
      clear hstep hno hall
      generalize okb a b c x = o at *
      generalize we a b c x = e0 at *
      generalize wk a b c x = κ at *
      have hfin : o = true → ((L.take (k + 1)).all (okb a b c)) = true := HS.out
      cases h1 : (x == 0)
      · have n1 : (x != 0) = true := by rw [bne, h1]; rfl
        cases h2 : (e0 == 0)
        · have n2 : (e0 != 0) = true := by rw [bne, h2]; rfl
          rw [h1, h2] at hokb
          have hv := HN.out hokb
          clear hokb hfin
          go_wp2_with (first | (go_at_call 81; refine (WH.out _).mono ?_; rintro e w1 ⟨rfl, hb⟩; have X := hR.step hb; clear hb hR hc hz; have hR := X; clear X; obtain ⟨hc, hz⟩ := hR.box))
          go_ret
          exact ⟨ret_bool hv.symm, hR.below⟩
        · have n2 : (e0 != 0) = false := by rw [bne, h2]; rfl
          cases h3 : (κ == 6)
          · have n3 : (κ != 6) = true := by rw [bne, h3]; rfl
            rw [h1, h2, h3] at hokb
            have hv := HN.out hokb
            clear hokb hfin
            go_wp2_with (first | (go_at_call 81; refine (WH.out _).mono ?_; rintro e w1 ⟨rfl, hb⟩; have X := hR.step hb; clear hb hR hc hz; have hR := X; clear X; obtain ⟨hc, hz⟩ := hR.box))
            go_ret
            exact ⟨ret_bool hv.symm, hR.below⟩
          · have n3 : (κ != 6) = false := by rw [bne, h3]; rfl
            rw [h1, h2, h3] at hokb
            have hf := Lib.hid (hfin hokb)
            clear hokb hfin
            go_wp2_with (first | (go_at_call 81; refine (WH.out _).mono ?_; rintro e w1 ⟨rfl, hb⟩; have X := hR.step hb; clear hb hR hc hz; have hR := X; clear X; obtain ⟨hc, hz⟩ := hR.box))
            go_roundw
            case rel => exact ⟨k + 1, by omega, by go_num, hf.out, hR⟩
            case measure => simp [intOf]; omega
      · have n1 : (x != 0) = false := by rw [bne, h1]; rfl
        rw [h1] at hokb
        have hf := Lib.hid (hfin hokb)
        clear hokb hfin
        go_wp2_with (first | (go_at_call 81; refine (WH.out _).mono ?_; rintro e w1 ⟨rfl, hb⟩; have X := hR.step hb; clear hb hR hc hz; have hR := X; clear X; obtain ⟨hc, hz⟩ := hR.box))
        go_roundw
        case rel => exact ⟨k + 1, by omega, by go_num, hf.out, hR⟩
        case measure => simp [intOf]; omega
    · obtain rfl : k = L.length := by omega
      have hv := Lib.hid (HYES.out hall)
      clear hall
      go_wp2_with fail
      go_ret
      exact ⟨ret_bool hv.out.symm, hR.below⟩
end Cw
