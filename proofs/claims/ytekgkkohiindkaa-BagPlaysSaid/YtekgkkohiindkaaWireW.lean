/- The walks of the program's package wire: wide, Check, sum, Encode. -/
import Derived.Test.YtekgkkohiindkaaWireSpec
import Derived.Test.YtekgkkohiindkaaFieldW3
import Derived.Test.YtekgkkohiindkaaTwo
import Derived.Deep.DeepCutAuto
namespace Cw
open Go Go.RowKit Go.IntWalk
open Go.Proofs

abbrev mval (m : Ms) : Value := .agg #[.int .i64 m.k, .int .i64 m.f, .int .i64 m.t, .int .i64 m.r, .int .i64 m.s, .int .i64 m.e]
abbrev mcells (m : Ms) : Array Value := #[.int .i64 m.k, .int .i64 m.f, .int .i64 m.t, .int .i64 m.r, .int .i64 m.s, .int .i64 m.e]
theorem six {w : World} {g : Nat} {a b c d e f : Value} (h : ∀ o, w.cell? ⟨g, o, none⟩ = #[a, b, c, d, e, f][o]?) : w.cell? ⟨g, 0, none⟩ = some a ∧ w.cell? ⟨g, 1, none⟩ = some b ∧ w.cell? ⟨g, 2, none⟩ = some c ∧ w.cell? ⟨g, 3, none⟩ = some d ∧ w.cell? ⟨g, 4, none⟩ = some e ∧ w.cell? ⟨g, 5, none⟩ = some f :=
  ⟨h 0, h 1, h 2, h 3, h 4, h 5⟩

def wends (m : Ms) : Bool := decide (0 ≤ m.f ∧ m.f ≤ 1 ∧ m.t = 1 - m.f)
def wsizes (m : Ms) : Bool := decide (0 ≤ m.r ∧ m.r ≤ 2047 ∧ 0 ≤ m.s ∧ m.s ≤ 16777215 ∧ 0 ≤ m.e ∧ m.e ≤ 4294967295)
def wbare (m : Ms) : Bool := decide (m.k = 3 → m.r = 0 ∧ m.s = 0)
theorem ok_parts (m : Ms) : Ok m ↔ (1 ≤ m.k ∧ m.k ≤ 3) ∧ (0 ≤ m.f ∧ m.f ≤ 1 ∧ m.t = 1 - m.f) ∧ (0 ≤ m.r ∧ m.r ≤ 2047 ∧ 0 ≤ m.s ∧ m.s ≤ 16777215 ∧ 0 ≤ m.e ∧ m.e ≤ 4294967295) ∧ (m.k = 3 → m.r = 0 ∧ m.s = 0) :=
  ⟨fun ⟨a, b, c, d, e, f, g, h, i, j, k, l⟩ => ⟨⟨a, b⟩, ⟨c, d, e⟩, ⟨f, g, h, i, j, k⟩, l⟩, fun ⟨⟨a, b⟩, ⟨c, d, e⟩, ⟨f, g, h, i, j, k⟩, l⟩ => ⟨a, b, c, d, e, f, g, h, i, j, k, l⟩⟩
theorem mok_parts (m : Ms) : mok m = (decide (1 ≤ m.k ∧ m.k ≤ 3) && (wends m && (wsizes m && wbare m))) := by
  rw [Bool.eq_iff_iff, mok, wends, wsizes, wbare, Bool.and_eq_true, Bool.and_eq_true, Bool.and_eq_true, decide_eq_true_iff, decide_eq_true_iff, decide_eq_true_iff, decide_eq_true_iff, decide_eq_true_iff]
  exact ok_parts m

set_option maxRecDepth 100000 in
set_option maxHeartbeats 400000 in
theorem wwide_any (n : Int) (h0 : 0 ≤ n) (h1 : n ≤ 4) (w : World) : Calls Try.prog 67 #[.int .i64 n] w fun e w' => e = .returned (.int .i64 (if n ≤ 1 then 1 else if n = 2 then 2 else 4)) ∧ w = w' := by
  rcases (show n = 0 ∨ n = 1 ∨ n = 2 ∨ n = 3 ∨ n = 4 by omega) with rfl | rfl | rfl | rfl | rfl
  all_goals
    go_enter Try.func67, Try.ntmps67
    go_wp2
    go_ret
    exact ⟨rfl, rfl⟩

set_option maxRecDepth 100000 in
set_option maxHeartbeats 2000000 in
theorem wcheck_any (m : Ms) (w : World) : Calls Try.prog 12 #[mval m] w fun e w' => e = .returned (.int .i64 (mcheck m)) ∧ Below w.heap.size w w' := by
  have hm := mok_parts m
  have e1 : wends m = decide (0 ≤ m.f ∧ m.f ≤ 1 ∧ m.t = 1 - m.f) := rfl
  have e2 : wsizes m = decide (0 ≤ m.r ∧ m.r ≤ 2047 ∧ 0 ≤ m.s ∧ m.s ≤ 16777215 ∧ 0 ≤ m.e ∧ m.e ≤ 4294967295) := rfl
  have e3 : wbare m = decide (m.k = 3 → m.r = 0 ∧ m.s = 0) := rfl
  have hE : mcheck m = if mok m = true then 0 else 210 := rfl
  have E1 := Lib.hid e1
  have E2 := Lib.hid e2
  have E3 := Lib.hid e3
  have HM := Lib.hid (And.intro hm hE)
  generalize mcheck m = res at *
  generalize mok m = ok at *
  generalize wends m = v1 at *
  generalize wsizes m = v2 at *
  generalize wbare m = v3 at *
  clear hm e1 e2 e3 hE
  obtain ⟨k, f, t, r, s, e⟩ := m
  simp only at *
  go_enter Try.func12, Try.ntmps12
  go_upto_region 1 with fail
  obtain ⟨hB, hc, hz⟩ := start_facts w #[.int .i64 k, .int .i64 f, .int .i64 t, .int .i64 r, .int .i64 s, .int .i64 e] 31
  generalize World.alloc w _ = w0 at *
  obtain ⟨c0, c1, c2, c3, c4, c5⟩ := six hc
  go_cut [3] (fun s3 wx => s3 = .bool v1 ∧ w0 = wx)
  case first =>
    go_wp2_with fail
    all_goals (go_meet; refine ⟨congrArg Value.bool ?_, rfl⟩; rw [E1.out, Bool.eq_iff_iff]; simp <;> omega)
  case rest =>
    obtain ⟨rfl, rfl⟩ := hcut
    go_upto_region 2 with fail
    go_cut [4] (fun s4 wx => s4 = .bool v2 ∧ w0 = wx)
    case first =>
      go_wp2_with fail
      all_goals (go_meet; refine ⟨congrArg Value.bool ?_, rfl⟩; rw [E2.out, Bool.eq_iff_iff]; simp <;> omega)
    case rest =>
      obtain ⟨rfl, rfl⟩ := hcut
      go_upto_region 3 with fail
      go_cut [5] (fun s5 wx => s5 = .bool v3 ∧ w0 = wx)
      case first =>
        have fin : ∀ b1 b2 b3 : Bool, (k == 3) = b1 → (r == 0) = b2 → (s == 0) = b3 → v3 = (!b1 || (b2 && b3)) := by
          rintro b1 b2 b3 rfl rfl rfl
          rw [E3.out, Bool.eq_iff_iff]
          simp <;> omega
        have FIN := Lib.hid fin
        clear fin
        cases h3 : (k == 3)
        · have n3 : (k != 3) = true := by rw [bne, h3]; rfl
          go_wp2_with fail
          go_meet
          exact ⟨congrArg Value.bool (FIN.out _ _ _ h3 rfl rfl).symm, rfl⟩
        · have n3 : (k != 3) = false := by rw [bne, h3]; rfl
          cases hr : (r == 0)
          · go_wp2_with fail
            go_meet
            exact ⟨congrArg Value.bool (FIN.out _ _ _ h3 hr rfl).symm, rfl⟩
          · cases hs : (s == 0)
            · go_wp2_with fail
              go_meet
              exact ⟨congrArg Value.bool (FIN.out _ _ _ h3 hr hs).symm, rfl⟩
            · go_wp2_with fail
              go_meet
              exact ⟨congrArg Value.bool (FIN.out _ _ _ h3 hr hs).symm, rfl⟩
      case rest =>
        obtain ⟨rfl, rfl⟩ := hcut
        have hk : ∀ b : Bool, b = decide (1 ≤ k ∧ k ≤ 3) → res = if (b && (v1 && (v2 && v3))) = true then 0 else 210 := fun b hb => by rw [HM.out.2, HM.out.1, hb]
        have HK := Lib.hid hk
        clear hk E1 E2 E3 HM
        by_cases k1 : k < 1
        · have hr := Lib.hid (HK.out false (by simp; omega))
          clear HK
          go_wp2_with fail
          go_ret
          exact ⟨ret_int hr.out.symm, hB⟩
        · by_cases k3 : 3 < k
          · have hr := Lib.hid (HK.out false (by simp; omega))
            clear HK
            go_wp2_with fail
            go_ret
            exact ⟨ret_int hr.out.symm, hB⟩
          · have hr := Lib.hid (HK.out true (by simp; omega))
            clear HK
            cases v1
            · go_wp2_with fail
              go_ret
              exact ⟨ret_int hr.out.symm, hB⟩
            · cases v2
              · go_wp2_with fail
                go_ret
                exact ⟨ret_int hr.out.symm, hB⟩
              · cases v3
                · go_wp2_with fail
                  go_ret
                  exact ⟨ret_int hr.out.symm, hB⟩
                · go_wp2_with fail
                  go_ret
                  exact ⟨ret_int hr.out.symm, hB⟩
end Cw
