/- The walks of the document's answer for the package wire: Check, Bytes, Encode, Decode. -/
import Derived.Test.YtekgkkohiindkaaWireW3
import Derived.Deep.RegionHeld3
import Derived.Deep.DrawnRows
import Derived.StillTailTactics
namespace Cw
open Go Go.RowKit Go.IntWalk
open Go.Proofs

theorem mno {m : Ms} (h : ¬ Ok m) : mcheck m = 210 := by
  rw [mcheck, if_neg]
  simpa [mok] using h
theorem myes {m : Ms} (h : Ok m) : mcheck m = 0 := by
  rw [mcheck, if_pos]
  simpa [mok] using h

set_option maxRecDepth 100000 in
set_option maxHeartbeats 4000000 in
theorem rwcheck_any (m : Ms) (w : World) : Calls Try.prog 43 #[mval m] w fun e w' => e = .returned (.int .i64 (mcheck m)) ∧ Below w.heap.size w w' := by
  have e1 : wends m = decide (0 ≤ m.f ∧ m.f ≤ 1 ∧ m.t = 1 - m.f) := rfl
  have hno := @mno m
  have hyes := @myes m
  have HO := Lib.hid (And.intro hno hyes)
  clear hno hyes
  generalize hv : wends m = v1 at *
  have E1 := Lib.hid e1
  clear e1 hv
  generalize mcheck m = res at *
  obtain ⟨k, f, t, r, s, e⟩ := m
  go_enter Try.func43, Try.ntmps43
  go_upto_region 1 with fail
  obtain ⟨hB, hc, hz⟩ := start_facts w #[.int .i64 k, .int .i64 f, .int .i64 t, .int .i64 r, .int .i64 s, .int .i64 e] 31
  generalize World.alloc w _ = w0 at *
  obtain ⟨c0, c1, c2, c3, c4, c5⟩ := six hc
  go_cut [3] (fun s3 wx => s3 = .bool v1 ∧ w0 = wx)
  case first =>
    have fin : ∀ b1 b2 b3 b4 : Bool, (f == 0) = b1 → (t == 1) = b2 → (f == 1) = b3 → (t == 0) = b4 → v1 = ((b1 && b2) || (b3 && b4)) := by
      rintro b1 b2 b3 b4 rfl rfl rfl rfl
      rw [E1.out, Bool.eq_iff_iff]
      simp <;> omega
    have FIN := Lib.hid fin
    clear fin
    cases h1 : (f == 0) <;> cases h2 : (t == 1) <;> cases h3 : (f == 1) <;> cases h4 : (t == 0)
    all_goals
      have hf := FIN.out _ _ _ _ h1 h2 h3 h4
      have HF := Lib.hid hf
      clear hf FIN
      go_wp2_with fail
      go_meet
      exact ⟨congrArg Value.bool HF.out.symm, rfl⟩
  case rest =>
    obtain ⟨rfl, rfl⟩ := hcut
    by_cases k1 : k < 1
    · have hres := HO.out.1 (fun h => by have := h.1; simp only at this; omega)
      have HRES := Lib.hid hres
      clear hres HO
      go_wp2_with fail
      go_ret
      exact ⟨ret_int HRES.out.symm, hB⟩
    by_cases k3 : 3 < k
    · have hres := HO.out.1 (fun h => by have := h.2.1; simp only at this; omega)
      have HRES := Lib.hid hres
      clear hres HO
      go_wp2_with fail
      go_ret
      exact ⟨ret_int HRES.out.symm, hB⟩
    cases v1
    · have hres := HO.out.1 (fun h => by obtain ⟨_, _, a, b, c, _⟩ := h; have := E1.out; simp at this; simp only at a b c; exact this a b c)
      have HRES := Lib.hid hres
      clear hres HO
      go_wp2_with fail
      go_ret
      exact ⟨ret_int HRES.out.symm, hB⟩
    have hE : 0 ≤ f ∧ f ≤ 1 ∧ t = 1 - f := by have := E1.out; simpa using this.symm
    have HE := Lib.hid hE
    clear hE
    by_cases e0 : e < 0
    · have hres := HO.out.1 (fun h => by obtain ⟨_, _, _, _, _, _, _, _, _, a, _⟩ := h; simp only at a; omega)
      have HRES := Lib.hid hres
      clear hres HO
      go_wp2_with fail
      go_ret
      exact ⟨ret_int HRES.out.symm, hB⟩
    by_cases e2 : 4294967295 < e
    · have hres := HO.out.1 (fun h => by obtain ⟨_, _, _, _, _, _, _, _, _, _, a, _⟩ := h; simp only at a; omega)
      have HRES := Lib.hid hres
      clear hres HO
      go_wp2_with fail
      go_ret
      exact ⟨ret_int HRES.out.symm, hB⟩
    by_cases r0 : r < 0
    · have hres := HO.out.1 (fun h => by obtain ⟨_, _, _, _, _, a, _⟩ := h; simp only at a; omega)
      have HRES := Lib.hid hres
      clear hres HO
      go_wp2_with fail
      go_ret
      exact ⟨ret_int HRES.out.symm, hB⟩
    by_cases r1 : 2048 ≤ r
    · have hres := HO.out.1 (fun h => by obtain ⟨_, _, _, _, _, _, a, _⟩ := h; simp only at a; omega)
      have HRES := Lib.hid hres
      clear hres HO
      go_wp2_with fail
      go_ret
      exact ⟨ret_int HRES.out.symm, hB⟩
    by_cases s0 : s < 0
    · have hres := HO.out.1 (fun h => by obtain ⟨_, _, _, _, _, _, _, a, _⟩ := h; simp only at a; omega)
      have HRES := Lib.hid hres
      clear hres HO
      go_wp2_with fail
      go_ret
      exact ⟨ret_int HRES.out.symm, hB⟩
    by_cases s1 : 16777215 < s
    · have hres := HO.out.1 (fun h => by obtain ⟨_, _, _, _, _, _, _, _, a, _⟩ := h; simp only at a; omega)
      have HRES := Lib.hid hres
      clear hres HO
      go_wp2_with fail
      go_ret
      exact ⟨ret_int HRES.out.symm, hB⟩
    cases h3 : (k == 3)
    · have hres := HO.out.2 ⟨by simp only; omega, by simp only; omega, HE.out.1, HE.out.2.1, HE.out.2.2, by simp only; omega, by simp only; omega, by simp only; omega, by simp only; omega, by simp only; omega, by simp only; omega, fun h => by simp only at h; simp [h] at h3⟩
      have HRES := Lib.hid hres
      clear hres HO
      go_wp2_with fail
      go_ret
      exact ⟨ret_int HRES.out.symm, hB⟩
    cases hr : (r == 0)
    · have nr : (r != 0) = true := by rw [bne, hr]; rfl
      have hres := HO.out.1 (fun h => by obtain ⟨_, _, _, _, _, _, _, _, _, _, _, a⟩ := h; have := (a (by simpa using h3)).1; simp only at this; simp [this] at hr)
      have HRES := Lib.hid hres
      clear hres HO
      go_wp2_with fail
      go_ret
      exact ⟨ret_int HRES.out.symm, hB⟩
    have nr : (r != 0) = false := by rw [bne, hr]; rfl
    cases hs : (s == 0)
    · have ns : (s != 0) = true := by rw [bne, hs]; rfl
      have hres := HO.out.1 (fun h => by obtain ⟨_, _, _, _, _, _, _, _, _, _, _, a⟩ := h; have := (a (by simpa using h3)).2; simp only at this; simp [this] at hs)
      have HRES := Lib.hid hres
      clear hres HO
      go_wp2_with fail
      go_ret
      exact ⟨ret_int HRES.out.symm, hB⟩
    have ns : (s != 0) = false := by rw [bne, hs]; rfl
    have hres := HO.out.2 ⟨by simp only; omega, by simp only; omega, HE.out.1, HE.out.2.1, HE.out.2.2, by simp only; omega, by simp only; omega, by simp only; omega, by simp only; omega, by simp only; omega, by simp only; omega, fun _ => ⟨by simpa using hr, by simpa using hs⟩⟩
    have HRES := Lib.hid hres
    clear hres HO
    go_wp2_with fail
    go_ret
    exact ⟨ret_int HRES.out.symm, hB⟩
end Cw
