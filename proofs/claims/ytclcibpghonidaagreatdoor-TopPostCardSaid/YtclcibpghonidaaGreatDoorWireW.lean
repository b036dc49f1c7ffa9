/- What the package wire computes, as plain functions, and the plain laws of its statements. No program in sight. -/
import Derived.Test.YtclcibpghonidaaGreatDoorFieldW
import Derived.Deep.DeepCutAuto
namespace Cw
open Go Go.RowKit

structure Ms where
  k : Int
  f : Int
  t : Int
  r : Int
  s : Int
  e : Int
def Ok (m : Ms) : Prop := 1 ≤ m.k ∧ m.k ≤ 3 ∧ 0 ≤ m.f ∧ m.f ≤ 1 ∧ m.t = 1 - m.f ∧ 0 ≤ m.r ∧ m.r ≤ 2047 ∧ 0 ≤ m.s ∧ m.s ≤ 16777215 ∧ 0 ≤ m.e ∧ m.e ≤ 4294967295 ∧ (m.k = 3 → m.r = 0 ∧ m.s = 0)
instance (m : Ms) : Decidable (Ok m) := by unfold Ok; infer_instance
def mok (m : Ms) : Bool := decide (Ok m)
def mcheck (m : Ms) : Int := if mok m = true then 0 else 210
def mbody (m : Ms) : List UInt8 := le 1 m.k.toNat ++ (le 1 m.f.toNat ++ (le 2 m.r.toNat ++ (le 4 m.s.toNat ++ le 4 m.e.toNat)))
def bsum (l : List UInt8) : UInt8 := l.foldl (· + ·) 0
def mbytes (m : Ms) : List UInt8 := mbody m ++ [bsum (mbody m)]
def menc (m : Ms) : List UInt8 := if mok m = true then mbytes m else []
def mzero : Ms := ⟨0, 0, 0, 0, 0, 0⟩
def dm (l : List UInt8) : Ms := ⟨num (l.take 1), num ((l.drop 1).take 1), 1 - (num ((l.drop 1).take 1) : Int), num ((l.drop 2).take 2), num ((l.drop 4).take 4), num ((l.drop 8).take 4)⟩
def dok (l : List UInt8) : Bool := decide (l.length = 13 ∧ mok (dm l) = true ∧ mbytes (dm l) = l)
def mdec (l : List UInt8) : Ms := if dok l = true then dm l else mzero
def mdece (l : List UInt8) : Int := if dok l = true then 0 else 210

theorem le_one (x : Nat) : le 1 x = [UInt8.ofNat x] := by simp [le, List.range_succ]
theorem le_two (x : Nat) : le 2 x = [UInt8.ofNat x, UInt8.ofNat (x / 256)] := by simp [le, List.range_succ]
theorem le_four (x : Nat) : le 4 x = [UInt8.ofNat x, UInt8.ofNat (x / 256), UInt8.ofNat (x / 65536), UInt8.ofNat (x / 16777216)] := by simp [le, List.range_succ]
theorem mbody_length (m : Ms) : (mbody m).length = 12 := by simp [mbody, le_one, le_two, le_four]
theorem mbytes_length (m : Ms) : (mbytes m).length = 13 := by simp [mbytes, mbody_length]

theorem dm_mbytes (m : Ms) (h : mok m = true) : dm (mbytes m) = m := by
  obtain ⟨k, f, t, r, s, e⟩ := m
  have h1 : Ok ⟨k, f, t, r, s, e⟩ := by simpa [mok] using h
  simp only [Ok] at h1
  obtain ⟨h1, h2, h3, h4, h5, h6, h7, h8, h9, h10, h11, h12⟩ := h1
  obtain ⟨k, rfl⟩ := Int.eq_ofNat_of_zero_le (show 0 ≤ k by omega)
  obtain ⟨f, rfl⟩ := Int.eq_ofNat_of_zero_le h3
  obtain ⟨r, rfl⟩ := Int.eq_ofNat_of_zero_le h6
  obtain ⟨s, rfl⟩ := Int.eq_ofNat_of_zero_le h8
  obtain ⟨e, rfl⟩ := Int.eq_ofNat_of_zero_le h10
  simp only [dm, mbytes, mbody, le_one, le_two, le_four, Int.toNat_natCast, List.cons_append, List.nil_append, List.take_succ_cons, List.take_zero, List.drop_succ_cons, List.drop_zero, num, List.foldr_cons, List.foldr_nil, UInt8.toNat_ofNat', Ms.mk.injEq]
  omega

theorem dok_mbytes (m : Ms) (h : mok m = true) : dok (mbytes m) = true := by
  simp only [dok, decide_eq_true_eq, dm_mbytes m h, mbytes_length]
  exact ⟨trivial, h, trivial⟩

/-- A byte that is turned is seen by the sum. -/
theorem bsum_append (l m : List UInt8) : bsum (l ++ m) = bsum l + bsum m := by
  have key : ∀ (m : List UInt8) (a : UInt8), m.foldl (· + ·) a = a + m.foldl (· + ·) 0 := by
    intro m
    induction m with
    | nil => intro a; simp
    | cons x m ih => intro a; rw [List.foldl_cons, List.foldl_cons, ih (a + x), ih (0 + x)]; simp [UInt8.add_assoc]
  rw [bsum, List.foldl_append, key]
  rfl
end Cw
namespace Cw
open Go Go.RowKit Go.IntWalk
open Go.Proofs

abbrev mval (m : Ms) : Value := .agg #[.int .i64 m.k, .int .i64 m.f, .int .i64 m.t, .int .i64 m.r, .int .i64 m.s, .int .i64 m.e]
abbrev mcells (m : Ms) : Array Value := #[.int .i64 m.k, .int .i64 m.f, .int .i64 m.t, .int .i64 m.r, .int .i64 m.s, .int .i64 m.e]
theorem six {w : World} {g : Nat} {a b c d e f : Value} (h : ∀ o, w.cell? ⟨g, o, none⟩ = #[a, b, c, d, e, f][o]?) : w.cell? ⟨g, 0, none⟩ = some a ∧ w.cell? ⟨g, 1, none⟩ = some b ∧ w.cell? ⟨g, 2, none⟩ = some c ∧ w.cell? ⟨g, 3, none⟩ = some d ∧ w.cell? ⟨g, 4, none⟩ = some e ∧ w.cell? ⟨g, 5, none⟩ = some f :=
  ⟨h 0, h 1, h 2, h 3, h 4, h 5⟩

def wends (m : Ms) : Bool := decide (0 ≤ m.f ∧ m.f ≤ 1 ∧ m.t = 1 - m.f)
def wsizes (m : Ms) : Bool := decide (0 ≤ m.r ∧ m.r ≤ 2047 ∧ 0 ≤ m.s ∧ m.s ≤ 16777215 ∧ 0 ≤ m.e ∧ m.e ≤ 4294967295)
def wbare (m : Ms) : Bool := decide (m.k = 3 → m.r = 0 ∧ m.s = 0)
theorem ok_parts (m : Ms) : Ok m ↔ (1 ≤ m.k ∧ m.k ≤ 3) ∧ (0 ≤ m.f ∧ m.f ≤ 1 ∧ m.t = 1 - m.f) ∧ (0 ≤ m.r ∧ m.r ≤ 2047 ∧ 0 ≤ m.s ∧ m.s ≤ 16777215 ∧ 0 ≤ m.e ∧ m.e ≤ 4294967295) ∧ (m.k = 3 → m.r = 0 ∧ m.s = 0) :=
  ⟨fun ⟨a, b, c, d, e, f, g, h, i, j, k, l⟩ => ⟨⟨a, b⟩, ⟨c, d, e⟩, ⟨f, g, h, i, j, k⟩, l⟩, fun ⟨⟨a, b⟩, ⟨c, d, e⟩, ⟨f, g, h, i, j, k⟩, l⟩ => ⟨a, b, c, d, e, f, g, h, i, j, k, l⟩⟩
theorem mok_parts (m : Ms) : mok m = (decide (1 ≤ m.k ∧ m.k ≤ 3) && (wends m && (wsizes m && wbare m))) := by
  rw [Bool.eq_iff_iff, mok, wends, wsizes, wbare, Bool.and_eq_true, Bool.and_eq_true, Bool.and_eq_true, decide_eq_true_iff, decide_eq_true_iff, decide_eq_true_iff, decide_eq_true_iff, decide_eq_true_iff]
  exact ok_parts m

set_option maxRecDepth 100000 in
set_option maxHeartbeats 400000 in
theorem wwide_any (n : Int) (h0 : 0 ≤ n) (h1 : n ≤ 4) (w : World) : Calls Tryz.prog 33 #[.int .i64 n] w fun e w' => e = .returned (.int .i64 (if n ≤ 1 then 1 else if n = 2 then 2 else 4)) ∧ w = w' := by
  rcases (show n = 0 ∨ n = 1 ∨ n = 2 ∨ n = 3 ∨ n = 4 by omega) with rfl | rfl | rfl | rfl | rfl
  all_goals
    go_enter Tryz.func33, Tryz.ntmps33
    go_wp2
    go_ret
    exact ⟨rfl, rfl⟩

set_option maxRecDepth 100000 in
set_option maxHeartbeats 2000000 in
theorem wcheck_any (m : Ms) (w : World) : Calls Tryz.prog 31 #[mval m] w fun e w' => e = .returned (.int .i64 (mcheck m)) ∧ Below w.heap.size w w' := by
  have hm := mok_parts m
  have e1 : wends m = decide (0 ≤ m.f ∧ m.f ≤ 1 ∧ m.t = 1 - m.f) := rfl
  have e2 : wsizes m = decide (0 ≤ m.r ∧ m.r ≤ 2047 ∧ 0 ≤ m.s ∧ m.s ≤ 16777215 ∧ 0 ≤ m.e ∧ m.e ≤ 4294967295) := rfl
  have e3 : wbare m = decide (m.k = 3 → m.r = 0 ∧ m.s = 0) := rfl
  have hE : mcheck m = if mok m = true then 0 else 210 := rfl
  have E1 := Lib.hid e1
  have E2 := Lib.hid e2
  have E3 := Lib.hid e3
  have HM := Lib.hid (And.intro hm hE)
  generalize mcheck m = res at *
  generalize mok m = ok at *
  generalize wends m = v1 at *
  generalize wsizes m = v2 at *
  generalize wbare m = v3 at *
  clear hm e1 e2 e3 hE
  obtain ⟨k, f, t, r, s, e⟩ := m
  simp only at *
  go_enter Tryz.func31, Tryz.ntmps31
  go_upto_region 1 with fail
  obtain ⟨hB, hc, hz⟩ := start_facts w #[.int .i64 k, .int .i64 f, .int .i64 t, .int .i64 r, .int .i64 s, .int .i64 e] 31
  generalize World.alloc w _ = w0 at *
  obtain ⟨c0, c1, c2, c3, c4, c5⟩ := six hc
  go_cut [3] (fun s3 wx => s3 = .bool v1 ∧ w0 = wx)
  case first =>
    go_wp2_with fail
    all_goals (go_meet; refine ⟨congrArg Value.bool ?_, rfl⟩; rw [E1.out, Bool.eq_iff_iff]; simp <;> omega)
  case rest =>
    obtain ⟨rfl, rfl⟩ := hcut
    go_upto_region 2 with fail
    go_cut [4] (fun s4 wx => s4 = .bool v2 ∧ w0 = wx)
    case first =>
      go_wp2_with fail
      all_goals (go_meet; refine ⟨congrArg Value.bool ?_, rfl⟩; rw [E2.out, Bool.eq_iff_iff]; simp <;> omega)
    case rest =>
      obtain ⟨rfl, rfl⟩ := hcut
      go_upto_region 3 with fail
      go_cut [5] (fun s5 wx => s5 = .bool v3 ∧ w0 = wx)
      case first =>
        have fin : ∀ b1 b2 b3 : Bool, (k == 3) = b1 → (r == 0) = b2 → (s == 0) = b3 → v3 = (!b1 || (b2 && b3)) := by
          rintro b1 b2 b3 rfl rfl rfl
          rw [E3.out, Bool.eq_iff_iff]
          simp <;> omega
        have FIN := Lib.hid fin
        clear fin
        cases h3 : (k == 3)
        · have n3 : (k != 3) = true := by rw [bne, h3]; rfl
          go_wp2_with fail
          go_meet
          exact ⟨congrArg Value.bool (FIN.out _ _ _ h3 rfl rfl).symm, rfl⟩
        · have n3 : (k != 3) = false := by rw [bne, h3]; rfl
          cases hr : (r == 0)
          · go_wp2_with fail
            go_meet
            exact ⟨congrArg Value.bool (FIN.out _ _ _ h3 hr rfl).symm, rfl⟩
          · cases hs : (s == 0)
            · go_wp2_with fail
              go_meet
              exact ⟨congrArg Value.bool (FIN.out _ _ _ h3 hr hs).symm, rfl⟩
            · go_wp2_with fail
              go_meet
              exact ⟨congrArg Value.bool (FIN.out _ _ _ h3 hr hs).symm, rfl⟩
      case rest =>
        obtain ⟨rfl, rfl⟩ := hcut
        have hk : ∀ b : Bool, b = decide (1 ≤ k ∧ k ≤ 3) → res = if (b && (v1 && (v2 && v3))) = true then 0 else 210 := fun b hb => by rw [HM.out.2, HM.out.1, hb]
        have HK := Lib.hid hk
        clear hk E1 E2 E3 HM
        by_cases k1 : k < 1
        · have hr := Lib.hid (HK.out false (by simp; omega))
          clear HK
          go_wp2_with fail
          go_ret
          exact ⟨ret_int hr.out.symm, hB⟩
        · by_cases k3 : 3 < k
          · have hr := Lib.hid (HK.out false (by simp; omega))
            clear HK
            go_wp2_with fail
            go_ret
            exact ⟨ret_int hr.out.symm, hB⟩
          · have hr := Lib.hid (HK.out true (by simp; omega))
            clear HK
            cases v1
            · go_wp2_with fail
              go_ret
              exact ⟨ret_int hr.out.symm, hB⟩
            · cases v2
              · go_wp2_with fail
                go_ret
                exact ⟨ret_int hr.out.symm, hB⟩
              · cases v3
                · go_wp2_with fail
                  go_ret
                  exact ⟨ret_int hr.out.symm, hB⟩
                · go_wp2_with fail
                  go_ret
                  exact ⟨ret_int hr.out.symm, hB⟩
end Cw
namespace Cw
open Go Go.RowKit Go.IntWalk
open Go.Proofs

theorem bsum_take (l : List UInt8) (k : Nat) (h : k < l.length) : ((bsum (l.take (k + 1))).toNat : Int) = (((bsum (l.take k)).toNat : Int) + (l[k].toNat : Int)) % 256 := by
  rw [← List.take_append_getElem h, bsum_append]
  have e : bsum [l[k]] = l[k] := by simp [bsum]
  rw [e, UInt8.toNat_add]
  omega
theorem S_append (a b : List UInt8) : S a ++ S b = S (a ++ b) := by
  apply ByteArray.ext
  simp [S]
theorem strOf (s : ByteArray) : S s.data.toList = s := by simp [S]

set_option maxRecDepth 100000 in
set_option maxHeartbeats 1000000 in
theorem wsum_any (s : ByteArray) (hs : s.size ≤ 4294967296) (w : World) : Calls Tryz.prog 34 #[.string s] w fun e w' => e = .returned (.string (S [bsum s.data.toList])) ∧ Below w.heap.size w w' := by
  have hcb := Lib.run_convert_string_bytes (P := Tryz.prog) w 9 142 5 s Tryz.underlying9 Tryz.underlying142 Tryz.underlying5
  have hR := row_bytes w s 5
  have hB0 := below_bytes w s 5
  have hlt := hR.lt
  generalize grownCap w s.size 0 5 = c0 at *
  generalize Lib.bytesWorld w 5 s = w0 at *
  have hcv := fun (c0 : Int) => run_str_lit (P := Tryz.prog) 142 9 5 Tryz.underlying142 Tryz.underlying5 Tryz.underlying9 w0 [c0] 1
  simp only [List.map_cons, List.map_nil, List.length_cons, List.length_nil] at hcv
  have HR := Lib.hid hR
  clear hR
  go_enter Tryz.func34, Tryz.ntmps34
  go_wp2_with fail
  go_loop [3, 9] (fun n i => ∃ k : Nat, k ≤ s.size ∧ i = .int .i64 k ∧ n = .int .u8 (bsum (s.data.toList.take k)).toNat) (fun _ i => s.size - (RowKit.intOf i).toNat)
  case atStart => exact ⟨0, by omega, rfl, by simp [bsum]⟩
  case round =>
    obtain ⟨k, hk, rfl, rfl⟩ := hrel
    by_cases hlt : k < s.size
    · have hc := HR.out.cell k (.int .u8 (s.data.toList[k]'hlt).toNat) (by rw [bcells, List.getElem?_map, List.getElem?_eq_getElem hlt]; rfl)
      rw [lit_add] at hc
      have hst := bsum_take s.data.toList k hlt
      have b1 := (bsum (s.data.toList.take k)).toNat_lt
      have b2 := (s.data.toList[k]'hlt).toNat_lt
      have HS := Lib.hid hst
      clear hst
      generalize (bsum (s.data.toList.take k)).toNat = x at *
      generalize (s.data.toList[k]'hlt).toNat = y at *
      go_wp2_with fail
      go_round
      case rel => exact ⟨k + 1, by omega, by go_num, by rw [HS.out]⟩
      case measure => simp [RowKit.intOf]; omega
    · obtain rfl : k = s.size := by omega
      have e : s.data.toList.take s.size = s.data.toList := List.take_of_length_le (Nat.le_refl _)
      rw [e]
      have hcv' := hcv (bsum s.data.toList).toNat
      have e2 : UInt8.ofNat ((bsum s.data.toList).toNat : Int).toNat = bsum s.data.toList := by simp
      rw [e2] at hcv'
      clear hcv
      generalize hb : bsum s.data.toList = b at *
      have HB := Lib.hid hb
      clear hb
      go_wp2_with fail
      go_ret
      exact ⟨by rw [HB.out]; rfl, below_alloc hB0 _⟩

theorem put_fit (n x : Int) (h : n = 1 ∨ n = 2 ∨ n = 4) (h0 : 0 ≤ x) (h1 : x < 256 ^ n.toNat) (w : World) : Calls Tryz.prog 32 #[.int .i64 0, .int .i64 n, .int .i64 x] w fun e w' => e = .returned (.tuple #[.agg #[.int .i64 0, .string (S (le n.toNat x.toNat))], .int .i64 0]) ∧ Below w.heap.size w w' := by
  have hp : Pok 0 n x := ⟨h, by omega, by omega, h0, h1⟩
  have := put_any 0 n x w
  rw [show pute 0 n x = 0 by rw [pute, if_pos hp], show putoff 0 n x = 0 by rw [putoff, if_pos hp], show putb 0 n x = le n.toNat x.toNat by rw [putb, if_pos hp]] at this
  exact this

theorem put_n1 (x : Int) (h0 : 0 ≤ x) (h1 : x < 256) (w : World) : Calls Tryz.prog 32 #[.int .i64 0, .int .i64 1, .int .i64 x] w fun e w' => e = .returned (.tuple #[.agg #[.int .i64 0, .string (S (le 1 x.toNat))], .int .i64 0]) ∧ Below w.heap.size w w' := put_fit 1 x (by omega) h0 h1 w
theorem put_n2 (x : Int) (h0 : 0 ≤ x) (h1 : x < 65536) (w : World) : Calls Tryz.prog 32 #[.int .i64 0, .int .i64 2, .int .i64 x] w fun e w' => e = .returned (.tuple #[.agg #[.int .i64 0, .string (S (le 2 x.toNat))], .int .i64 0]) ∧ Below w.heap.size w w' := put_fit 2 x (by omega) h0 h1 w
theorem put_n4 (x : Int) (h0 : 0 ≤ x) (h1 : x < 4294967296) (w : World) : Calls Tryz.prog 32 #[.int .i64 0, .int .i64 4, .int .i64 x] w fun e w' => e = .returned (.tuple #[.agg #[.int .i64 0, .string (S (le 4 x.toNat))], .int .i64 0]) ∧ Below w.heap.size w w' := put_fit 4 x (by omega) h0 h1 w

/-- The first parts' bytes. -/
def mpre (m : Ms) : Nat → List UInt8
  | 0 => []
  | 1 => le 1 m.k.toNat
  | 2 => le 1 m.k.toNat ++ le 1 m.f.toNat
  | 3 => le 1 m.k.toNat ++ le 1 m.f.toNat ++ le 2 m.r.toNat
  | 4 => le 1 m.k.toNat ++ le 1 m.f.toNat ++ le 2 m.r.toNat ++ le 4 m.s.toNat
  | _ => mbody m
theorem five {w : World} {a b c d e : Value} {T : TypeId} : ∀ o, (w.alloc (.cells #[a, b, c, d, e] T)).cell? ⟨w.heap.size, o, none⟩ = #[a, b, c, d, e][o]? :=
  fun o => cell_of_row (w.alloc (.cells _ T)) w.heap.size o _ T (0, 0) (heap_alloc_new w _)

theorem mpre_bound (m : Ms) (h : mok m = true) : (0 ≤ m.k ∧ m.k < 256) ∧ (0 ≤ m.f ∧ m.f < 256) ∧ (0 ≤ m.r ∧ m.r < 65536) ∧ (0 ≤ m.s ∧ m.s < 4294967296) ∧ (0 ≤ m.e ∧ m.e < 4294967296) := by
  have h1 : Ok m := by simpa [mok] using h
  obtain ⟨h1, h2, h3, h4, h5, h6, h7, h8, h9, h10, h11, h12⟩ := h1
  omega

set_option maxRecDepth 100000 in
set_option maxHeartbeats 2000000 in
theorem wenc_ok (m : Ms) (h : mok m = true) (w : World) : Calls Tryz.prog 8 #[mval m] w fun e w' => e = .returned (.tuple #[.string (S (mbytes m)), .int .i64 0]) ∧ Below w.heap.size w w' := by
  have hck := wcheck_any m
  rw [show mcheck m = 0 by rw [mcheck, if_pos h]] at hck
  obtain ⟨⟨k0, k1⟩, ⟨f0, f1⟩, ⟨r0, r1⟩, ⟨s0, s1⟩, ⟨e0, e1⟩⟩ := mpre_bound m h
  have P0 := Lib.hid (put_n1 m.k k0 k1)
  have P1 := Lib.hid (put_n1 m.f f0 f1)
  have P2 := Lib.hid (put_n2 m.r r0 r1)
  have P3 := Lib.hid (put_n4 m.s s0 s1)
  have P4 := Lib.hid (put_n4 m.e e0 e1)
  have q0 := S_append [] (le 1 m.k.toNat)
  have q1 := S_append (mpre m 1) (le 1 m.f.toNat)
  have q2 := S_append (mpre m 2) (le 2 m.r.toNat)
  have q3 := S_append (mpre m 3) (le 4 m.s.toNat)
  have q4 := S_append (mpre m 4) (le 4 m.e.toNat)
  have q5 := S_append (mbody m) [bsum (mbody m)]
  have z4 : mpre m 4 ++ le 4 m.e.toNat = mbody m := by simp [mpre, mbody]
  rw [z4] at q4
  have HQ := Lib.hid (And.intro (show S (mpre m 0) ++ S (le 1 m.k.toNat) = S (mpre m 1) from q0) (And.intro (show S (mpre m 1) ++ S (le 1 m.f.toNat) = S (mpre m 2) from q1) (And.intro (show S (mpre m 2) ++ S (le 2 m.r.toNat) = S (mpre m 3) from q2) (And.intro (show S (mpre m 3) ++ S (le 4 m.s.toNat) = S (mpre m 4) from q3) (And.intro (show S (mpre m 4) ++ S (le 4 m.e.toNat) = S (mpre m 5) from q4) q5)))))
  have hsum := wsum_any (S (mbody m)) (by rw [S_size, mbody_length]; omega)
  rw [S_data] at hsum
  have HS := Lib.hid hsum
  have CK := Lib.hid hck
  have zl : ∀ j, (S (mpre m j)).size ≤ 64 := by
    intro j
    rw [S_size]
    match j with
    | 0 | 1 | 2 | 3 | 4 => simp [mpre, le_length]
    | j + 5 => rw [show mpre m (j + 5) = mbody m from rfl, mbody_length]; omega
  have ZL := Lib.hid zl
  have HF0 := Lib.hid (show S (mpre m 0) = ⟨#[]⟩ from rfl)
  have HF := Lib.hid (show mpre m 5 = mbody m from rfl)
  have W0 := fun w => wwide_any 0 (by omega) (by omega) w
  have W1 := fun w => wwide_any 1 (by omega) (by omega) w
  have W2 := fun w => wwide_any 2 (by omega) (by omega) w
  have W3 := fun w => wwide_any 3 (by omega) (by omega) w
  have W4 := fun w => wwide_any 4 (by omega) (by omega) w
  simp only [Int.reduceLE, Int.reduceEq, if_true, if_false] at W0 W1 W2 W3 W4
  have W0' := Lib.hid W0
  have W1' := Lib.hid W1
  have W2' := Lib.hid W2
  have W3' := Lib.hid W3
  have W4' := Lib.hid W4
  have z1 := fun x => le_length 1 x
  have zk : (S (le 1 m.k.toNat)).size ≤ 4 := by rw [S_size, le_length]; omega
  have zf : (S (le 1 m.f.toNat)).size ≤ 4 := by rw [S_size, le_length]; omega
  have zr : (S (le 2 m.r.toNat)).size ≤ 4 := by rw [S_size, le_length]; omega
  have zs : (S (le 4 m.s.toNat)).size ≤ 4 := by rw [S_size, le_length]; omega
  have ze : (S (le 4 m.e.toNat)).size ≤ 4 := by rw [S_size, le_length]; omega
  have zb : (S [bsum (mbody m)]).size ≤ 1 := by rw [S_size]; simp
  have zm : (S (mbody m)).size ≤ 64 := by rw [S_size, mbody_length]; omega
  clear hck hsum q0 q1 q2 q3 q4 q5 z4 zl k0 k1 f0 f1 r0 r1 s0 s1 e0 e1 W0 W1 W2 W3 W4 z1
  have HE := Lib.hid (show mbytes m = mbody m ++ [bsum (mbody m)] from rfl)
  generalize mpre m = F at *
  generalize mbytes m = mb at *
  generalize S [bsum (mbody m)] = sb at *
  generalize S (le 1 m.k.toNat) = sk at *
  generalize S (le 1 m.f.toNat) = sf at *
  generalize S (le 2 m.r.toNat) = sr at *
  generalize S (le 4 m.s.toNat) = ss at *
  generalize S (le 4 m.e.toNat) = se at *
  generalize mbody m = bo at *
  obtain ⟨k, f, t, r, s, e⟩ := m
  simp only at *
  go_enter Tryz.func8, Tryz.ntmps8
  go_wp2_with fail
  obtain ⟨hB, hc, hz⟩ := start_facts w #[.int .i64 k, .int .i64 f, .int .i64 t, .int .i64 r, .int .i64 s, .int .i64 e] 31
  generalize World.alloc w _ = w0 at *
  obtain ⟨c0, c1, c2, c3, c4, c5⟩ := six hc
  refine (CK.out _).mono ?_
  rintro e' w1 ⟨rfl, hb⟩
  have X := adv hB hb hc hz
  clear hB hb hc hz c0 c1 c2 c3 c4 c5
  obtain ⟨hB, hc, hz⟩ := X
  obtain ⟨c0, c1, c2, c3, c4, c5⟩ := six hc
  go_wp2_with fail
  have A := fun o => five (w := w1) (a := .int .i64 k) (b := .int .i64 f) (c := .int .i64 r) (d := .int .i64 s) (e := .int .i64 e) (T := 3) o
  have hB2 := below_alloc hB (.cells #[.int .i64 k, .int .i64 f, .int .i64 r, .int .i64 s, .int .i64 e] 3)
  have hg : w1.heap.size < (w1.alloc (.cells #[.int .i64 k, .int .i64 f, .int .i64 r, .int .i64 s, .int .i64 e] 3)).heap.size := by simp
  generalize World.alloc w1 _ = w2 at *
  have HA := Lib.hid A
  clear A hB hc hz c0 c1 c2 c3 c4 c5
  go_loopw [5, 27] (fun s i wr => ∃ j : Nat, j ≤ 5 ∧ i = .int .i64 j ∧ s = .string (S (F j)) ∧ Below w2.heap.size w2 wr) (fun _ i _ => 5 - (RowKit.intOf i).toNat)
  case atStart => exact ⟨0, by omega, rfl, by rw [HF0.out], Below.refl _ _⟩
  case round =>
    obtain ⟨j, hj, rfl, rfl, hBr⟩ := hrel
    have zj := ZL.out j
    have a0 := (hBr.cell (p := ⟨w1.heap.size, 0, none⟩) hg).trans (HA.out 0)
    have a1 := (hBr.cell (p := ⟨w1.heap.size, 1, none⟩) hg).trans (HA.out 1)
    have a2 := (hBr.cell (p := ⟨w1.heap.size, 2, none⟩) hg).trans (HA.out 2)
    have a3 := (hBr.cell (p := ⟨w1.heap.size, 3, none⟩) hg).trans (HA.out 3)
    have a4 := (hBr.cell (p := ⟨w1.heap.size, 4, none⟩) hg).trans (HA.out 4)
    rcases (show j = 0 ∨ j = 1 ∨ j = 2 ∨ j = 3 ∨ j = 4 ∨ j = 5 by omega) with rfl | rfl | rfl | rfl | rfl | rfl
    · skip
      go_wp2_with (first | (go_at_call 33; refine (W0'.out _).mono ?_; rintro e' w3 ⟨rfl, rfl⟩) | (go_at_call 32; refine (P0.out _).mono ?_; rintro e' w4 ⟨rfl, hb⟩; have hB3 := below_step hb hBr.size hBr; clear hb a0 a1 a2 a3 a4))
      go_roundw
      case rel => exact ⟨1, by omega, rfl, by rw [HQ.out.1], below_alloc hB3 _⟩
      case measure => simp [RowKit.intOf]
    · skip
      go_wp2_with (first | (go_at_call 33; refine (W1'.out _).mono ?_; rintro e' w3 ⟨rfl, rfl⟩) | (go_at_call 32; refine (P1.out _).mono ?_; rintro e' w4 ⟨rfl, hb⟩; have hB3 := below_step hb hBr.size hBr; clear hb a0 a1 a2 a3 a4))
      go_roundw
      case rel => exact ⟨2, by omega, rfl, by rw [HQ.out.2.1], below_alloc hB3 _⟩
      case measure => simp [RowKit.intOf]
    · skip
      go_wp2_with (first | (go_at_call 33; refine (W2'.out _).mono ?_; rintro e' w3 ⟨rfl, rfl⟩) | (go_at_call 32; refine (P2.out _).mono ?_; rintro e' w4 ⟨rfl, hb⟩; have hB3 := below_step hb hBr.size hBr; clear hb a0 a1 a2 a3 a4))
      go_roundw
      case rel => exact ⟨3, by omega, rfl, by rw [HQ.out.2.2.1], below_alloc hB3 _⟩
      case measure => simp [RowKit.intOf]
    · skip
      go_wp2_with (first | (go_at_call 33; refine (W3'.out _).mono ?_; rintro e' w3 ⟨rfl, rfl⟩) | (go_at_call 32; refine (P3.out _).mono ?_; rintro e' w4 ⟨rfl, hb⟩; have hB3 := below_step hb hBr.size hBr; clear hb a0 a1 a2 a3 a4))
      go_roundw
      case rel => exact ⟨4, by omega, rfl, by rw [HQ.out.2.2.2.1], below_alloc hB3 _⟩
      case measure => simp [RowKit.intOf]
    · skip
      go_wp2_with (first | (go_at_call 33; refine (W4'.out _).mono ?_; rintro e' w3 ⟨rfl, rfl⟩) | (go_at_call 32; refine (P4.out _).mono ?_; rintro e' w4 ⟨rfl, hb⟩; have hB3 := below_step hb hBr.size hBr; clear hb a0 a1 a2 a3 a4))
      go_roundw
      case rel => exact ⟨5, by omega, rfl, by rw [HQ.out.2.2.2.2.1], below_alloc hB3 _⟩
      case measure => simp [RowKit.intOf]
    · rw [HF.out]
      have hB3 := below_step hBr hB2.size hB2
      go_wp2_with (go_at_call 34; refine (HS.out _).mono ?_; rintro e' w3 ⟨rfl, hb⟩; have hB4 := below_step hb hB3.size hB3)
      go_ret2
      exact ⟨by rw [HE.out, ← HQ.out.2.2.2.2.2]; rfl, hB4⟩
end Cw
namespace Cw
open Go Go.RowKit Go.IntWalk
open Go.Proofs

theorem get_ok (s : ByteArray) (off n : Int) (hs : s.size = 64) (hn : n = 1 ∨ n = 2 ∨ n = 4) (h0 : 0 ≤ off) (h1 : off ≤ 64 - n) (w : World) : Calls Tryz.prog 54 #[.string s, .int .i64 off, .int .i64 n] w fun e w' => e = .returned (.tuple #[.int .i64 (numAt s off.toNat n.toNat : Nat), .int .i64 0]) ∧ Below w.heap.size w w' := by
  have h := get_any s off n (by omega) w
  have e1 : gete s.size off n = 0 := by
    rw [gete, if_neg (by omega), if_pos]
    exact ⟨by simpa [fwide] using hn, by simp [finside]; omega⟩
  rw [getn, if_pos e1, e1] at h
  exact h

end Cw
namespace Cw
open Go Go.RowKit Go.IntWalk
open Go.Proofs

theorem wenc_any (m : Ms) (w : World) : Calls Tryz.prog 8 #[mval m] w fun e w' => e = .returned (.tuple #[.string (S (menc m)), .int .i64 (mcheck m)]) ∧ Below w.heap.size w w' := by
  by_cases h : mok m = true
  · rw [menc, mcheck, if_pos h, if_pos h]
    exact wenc_ok m h w
  · rw [menc, mcheck, if_neg h, if_neg h]
    have hck := wcheck_any m
    rw [show mcheck m = 210 by rw [mcheck, if_neg h]] at hck
    have CK := Lib.hid hck
    clear hck h
    obtain ⟨k, f, t, r, s, e⟩ := m
    go_enter Tryz.func8, Tryz.ntmps8
    go_wp2_with fail
    obtain ⟨hB, hc, hz⟩ := start_facts w #[.int .i64 k, .int .i64 f, .int .i64 t, .int .i64 r, .int .i64 s, .int .i64 e] 31
    generalize World.alloc w _ = w0 at *
    refine (CK.out _).mono ?_
    rintro e' w1 ⟨rfl, hb⟩
    have hB1 := below_step hb hB.size hB
    go_wp2_with fail
    go_ret2
    exact ⟨rfl, hB1⟩

/-- The bytes ahead of the others. -/
theorem one_front (s : List UInt8) (t : ByteArray) : one s (0, t) = t.data.toList ++ s.drop t.size := by
  have e : t.data.toList.length = t.size := rfl
  simp [one, over]
theorem numAt_front (s : List UInt8) (t : ByteArray) (o n : Nat) (h : o + n ≤ t.size) : numAt (S (one s (0, t))) o n = num ((t.data.toList.drop o).take n) := by
  have e : t.data.toList.length = t.size := rfl
  rw [numAt, S_data, one_front, List.drop_append_of_le_length (by omega), List.take_append_of_le_length (by rw [List.length_drop]; omega)]

theorem str_ne {a b : ByteArray} (h : a ≠ b) : (a.toList == b.toList) = false := by
  rw [ByteArray.toList_eq, ByteArray.toList_eq]
  simp only [beq_eq_false_iff_ne]
  exact fun e => h (ByteArray.ext (Array.toList_inj.1 e))

/-- A block's cells, one of them stored anew. -/
theorem set_block {w : World} {g : Nat} {cs : Array Value} {T : TypeId} (h : w.heap[g]? = some (.cells cs T (0, 0))) (i : Nat) (v : Value) : (w.setCell ⟨g, i, none⟩ v).heap[g]? = some (.cells (cs.setIfInBounds i v) T (0, 0)) := by
  rw [setCell_eq_setRow w g i cs T (0, 0) v h]
  exact setRow_heap w g _ _ T _ h
theorem blk_cell {w : World} {g : Nat} {cs : Array Value} {T : TypeId} (h : w.heap[g]? = some (.cells cs T (0, 0))) (o : Nat) : w.cell? ⟨g, o, none⟩ = cs[o]? := cell_of_row w g o cs T (0, 0) h
theorem blk_free {w : World} {g : Nat} {cs : Array Value} {T : TypeId} (h : w.heap[g]? = some (.cells cs T (0, 0))) (o : Nat) : w.frozen? ⟨g, o, none⟩ = false := by simp [World.frozen?, h]
theorem set_cell {w : World} {g : Nat} {cs : Array Value} {T : TypeId} (h : w.heap[g]? = some (.cells cs T (0, 0))) (i : Nat) (hi : i < cs.size) (v : Value) : (w.setCell ⟨g, i, none⟩ v).cell? ⟨g, i, none⟩ = some v := by
  rw [blk_cell (set_block h i v)]
  simp [hi]
theorem stored6 {w : World} {g : Nat} {T : TypeId} {x0 x1 x2 x3 x4 x5 : Value} (h : w.heap[g]? = some (.cells #[x0, x1, x2, x3, x4, x5] T (0, 0))) (a b c d e f : Value) :
    (w.setCell ⟨g, 0, none⟩ a).cell? ⟨g, 0, none⟩ = some a ∧ ((w.setCell ⟨g, 0, none⟩ a).setCell ⟨g, 1, none⟩ b).cell? ⟨g, 1, none⟩ = some b ∧ (((w.setCell ⟨g, 0, none⟩ a).setCell ⟨g, 1, none⟩ b).setCell ⟨g, 2, none⟩ c).cell? ⟨g, 2, none⟩ = some c ∧
    ((((w.setCell ⟨g, 0, none⟩ a).setCell ⟨g, 1, none⟩ b).setCell ⟨g, 2, none⟩ c).setCell ⟨g, 3, none⟩ d).cell? ⟨g, 3, none⟩ = some d ∧
    (((((w.setCell ⟨g, 0, none⟩ a).setCell ⟨g, 1, none⟩ b).setCell ⟨g, 2, none⟩ c).setCell ⟨g, 3, none⟩ d).setCell ⟨g, 4, none⟩ e).cell? ⟨g, 4, none⟩ = some e ∧
    ((((((w.setCell ⟨g, 0, none⟩ a).setCell ⟨g, 1, none⟩ b).setCell ⟨g, 2, none⟩ c).setCell ⟨g, 3, none⟩ d).setCell ⟨g, 4, none⟩ e).setCell ⟨g, 5, none⟩ f).cell? ⟨g, 5, none⟩ = some f := by
  have h1 := set_block h 0 a
  have h2 := set_block h1 1 b
  have h3 := set_block h2 2 c
  have h4 := set_block h3 3 d
  have h5 := set_block h4 4 e
  exact ⟨set_cell h 0 (by simp) a, set_cell h1 1 (by simp) b, set_cell h2 2 (by simp) c, set_cell h3 3 (by simp) d, set_cell h4 4 (by simp) e, set_cell h5 5 (by simp) f⟩
theorem blk_lt {w : World} {g : Nat} {o : Obj} (h : w.heap[g]? = some o) : g < w.heap.size := by
  rcases Nat.lt_or_ge g w.heap.size with h' | h'
  · exact h'
  · rw [Array.getElem?_eq_none h'] at h; cases h

/-- The parts that are got. -/
def vp (l : List UInt8) : Nat → Nat
  | 0 => num (l.take 1)
  | 1 => num ((l.drop 1).take 1)
  | 2 => num ((l.drop 2).take 2)
  | 3 => num ((l.drop 4).take 4)
  | _ => num ((l.drop 8).take 4)
def wat : Nat → Int
  | 0 => 0 | 1 => 1 | 2 => 2 | 3 => 4 | 4 => 8 | _ => 12
def arr (v : Nat → Nat) (j : Nat) : Array Value := #[.int .i64 (if 0 < j then v 0 else 0 : Nat), .int .i64 (if 1 < j then v 1 else 0 : Nat), .int .i64 (if 2 < j then v 2 else 0 : Nat), .int .i64 (if 3 < j then v 3 else 0 : Nat), .int .i64 (if 4 < j then v 4 else 0 : Nat)]
theorem arr_set (v : Nat → Nat) (j : Nat) (h : j < 5) : (arr v j).setIfInBounds j (.int .i64 (v j)) = arr v (j + 1) := by
  rcases (show j = 0 ∨ j = 1 ∨ j = 2 ∨ j = 3 ∨ j = 4 by omega) with rfl | rfl | rfl | rfl | rfl <;> rfl

set_option maxRecDepth 100000 in
set_option maxHeartbeats 2000000 in
theorem wdec_any (s : ByteArray) (hs : s.size ≤ 9223372036854775807) (w : World) : Calls Tryz.prog 35 #[.string s] w fun e w' => e = .returned (.tuple #[mval (mdec s.data.toList), .int .i64 (mdece s.data.toList)]) ∧ Below w.heap.size w w' := by
  have hlen : s.data.toList.length = s.size := rfl
  by_cases hz : s.size = 13
  · have e13 : ((s.size : Int) != 13) = false := by rw [hz]; rfl
    have hok : okp ((0 : Int), s) = true := by simp [okp, finside, hz]
    have zb : (S (List.replicate 64 (0 : UInt8))).size = 64 := by rw [S_size]; simp
    have HP0 := fun (w : World) => patched_any (S (List.replicate 64 0)) _ [((0 : Int), s)] (by simp only [List.mem_singleton]; rintro p rfl; exact hs) (by omega) _ (sl_one w ((0 : Int), s) 86)
    obtain ⟨f1, f2⟩ := pt_ok (S (List.replicate 64 0)) [((0 : Int), s)] zb (by simp) (by simp [hok])
    rw [f1, f2, show patchAll (S (List.replicate 64 0)).data.toList [((0 : Int), s)] = one (List.replicate 64 0) ((0 : Int), s) by rw [S_data]; rfl] at HP0
    have zu : (S (one (List.replicate 64 0) ((0 : Int), s))).size = 64 := by rw [S_size]; exact one_length _ _ (by simp) hok
    have G0 : ∀ w, Calls Tryz.prog 54 #[.string (S (one (List.replicate 64 0) ((0 : Int), s))), .int .i64 0, .int .i64 1] w fun e w' => e = .returned (.tuple #[.int .i64 (vp s.data.toList 0), .int .i64 0]) ∧ Below w.heap.size w w' := fun w => by
      have h := get_ok _ 0 1 zu (by omega) (by omega) (by omega) w
      rw [show numAt (S (one (List.replicate 64 0) ((0 : Int), s))) (Int.toNat 0) (Int.toNat 1) = vp s.data.toList 0 from numAt_front _ _ 0 1 (by omega)] at h
      exact h
    have G1 : ∀ w, Calls Tryz.prog 54 #[.string (S (one (List.replicate 64 0) ((0 : Int), s))), .int .i64 1, .int .i64 1] w fun e w' => e = .returned (.tuple #[.int .i64 (vp s.data.toList 1), .int .i64 0]) ∧ Below w.heap.size w w' := fun w => by
      have h := get_ok _ 1 1 zu (by omega) (by omega) (by omega) w
      rw [show numAt (S (one (List.replicate 64 0) ((0 : Int), s))) (Int.toNat 1) (Int.toNat 1) = vp s.data.toList 1 from numAt_front _ _ 1 1 (by omega)] at h
      exact h
    have G2 : ∀ w, Calls Tryz.prog 54 #[.string (S (one (List.replicate 64 0) ((0 : Int), s))), .int .i64 2, .int .i64 2] w fun e w' => e = .returned (.tuple #[.int .i64 (vp s.data.toList 2), .int .i64 0]) ∧ Below w.heap.size w w' := fun w => by
      have h := get_ok _ 2 2 zu (by omega) (by omega) (by omega) w
      rw [show numAt (S (one (List.replicate 64 0) ((0 : Int), s))) (Int.toNat 2) (Int.toNat 2) = vp s.data.toList 2 from numAt_front _ _ 2 2 (by omega)] at h
      exact h
    have G3 : ∀ w, Calls Tryz.prog 54 #[.string (S (one (List.replicate 64 0) ((0 : Int), s))), .int .i64 4, .int .i64 4] w fun e w' => e = .returned (.tuple #[.int .i64 (vp s.data.toList 3), .int .i64 0]) ∧ Below w.heap.size w w' := fun w => by
      have h := get_ok _ 4 4 zu (by omega) (by omega) (by omega) w
      rw [show numAt (S (one (List.replicate 64 0) ((0 : Int), s))) (Int.toNat 4) (Int.toNat 4) = vp s.data.toList 3 from numAt_front _ _ 4 4 (by omega)] at h
      exact h
    have G4 : ∀ w, Calls Tryz.prog 54 #[.string (S (one (List.replicate 64 0) ((0 : Int), s))), .int .i64 8, .int .i64 4] w fun e w' => e = .returned (.tuple #[.int .i64 (vp s.data.toList 4), .int .i64 0]) ∧ Below w.heap.size w w' := fun w => by
      have h := get_ok _ 8 4 zu (by omega) (by omega) (by omega) w
      rw [show numAt (S (one (List.replicate 64 0) ((0 : Int), s))) (Int.toNat 8) (Int.toNat 4) = vp s.data.toList 4 from numAt_front _ _ 8 4 (by omega)] at h
      exact h
    have HE0 : ∀ w, Calls Tryz.prog 8 #[.agg #[.int .i64 (vp s.data.toList 0), .int .i64 (vp s.data.toList 1), .int .i64 (1 - (vp s.data.toList 1 : Int)), .int .i64 (vp s.data.toList 2), .int .i64 (vp s.data.toList 3), .int .i64 (vp s.data.toList 4)]] w fun e w' => e = .returned (.tuple #[.string (S (menc (dm s.data.toList))), .int .i64 (mcheck (dm s.data.toList))]) ∧ Below w.heap.size w w' := fun w => wenc_any (dm s.data.toList) w
    have hm : mval (dm s.data.toList) = .agg #[.int .i64 (vp s.data.toList 0), .int .i64 (vp s.data.toList 1), .int .i64 (1 - (vp s.data.toList 1 : Int)), .int .i64 (vp s.data.toList 2), .int .i64 (vp s.data.toList 3), .int .i64 (vp s.data.toList 4)] := rfl
    have v1 : vp s.data.toList 1 < 256 := by
      refine Nat.lt_of_lt_of_le (num_lt _) ?_
      have : ((s.data.toList.drop 1).take 1).length ≤ 1 := by rw [List.length_take]; omega
      exact Nat.le_trans (Nat.pow_le_pow_right (by decide) this) (by decide)
    have hcase : (dok s.data.toList = true ∧ mcheck (dm s.data.toList) = 0 ∧ S (menc (dm s.data.toList)) = s) ∨ (dok s.data.toList = false ∧ mcheck (dm s.data.toList) = 210) ∨ (dok s.data.toList = false ∧ mcheck (dm s.data.toList) = 0 ∧ S (menc (dm s.data.toList)) ≠ s) := by
      by_cases h1 : mok (dm s.data.toList) = true
      · rw [mcheck, menc, if_pos h1, if_pos h1]
        by_cases h2 : mbytes (dm s.data.toList) = s.data.toList
        · exact .inl ⟨by simp only [dok, decide_eq_true_eq]; exact ⟨by omega, h1, h2⟩, rfl, by rw [h2]; exact strOf s⟩
        · refine .inr (.inr ⟨by simp only [dok, decide_eq_false_iff_not]; exact fun h => h2 h.2.2, rfl, fun h => h2 ?_⟩)
          simpa only [S_data] using congrArg (fun x : ByteArray => x.data.toList) h
      · exact .inr (.inl ⟨by simp only [dok, decide_eq_false_iff_not]; exact fun h => h1 h.2.1, by rw [mcheck, if_neg h1]⟩)
    have hR : mdec s.data.toList = (if dok s.data.toList = true then dm s.data.toList else mzero) ∧ mdece s.data.toList = (if dok s.data.toList = true then 0 else 210) := ⟨rfl, rfl⟩
    have HP := Lib.hid HP0
    have G0' := Lib.hid G0
    have G1' := Lib.hid G1
    have G2' := Lib.hid G2
    have G3' := Lib.hid G3
    have G4' := Lib.hid G4
    have HE := Lib.hid HE0
    have HM := Lib.hid hm
    have HC := Lib.hid hcase
    have HR := Lib.hid hR
    have BL := Lib.hid blank_any
    have W0 := fun w => wwide_any 0 (by omega) (by omega) w
    have W1 := fun w => wwide_any 1 (by omega) (by omega) w
    have W2 := fun w => wwide_any 2 (by omega) (by omega) w
    have W3 := fun w => wwide_any 3 (by omega) (by omega) w
    have W4 := fun w => wwide_any 4 (by omega) (by omega) w
    simp only [Int.reduceLE, Int.reduceEq, if_true, if_false] at W0 W1 W2 W3 W4
    have W0' := Lib.hid W0
    have W1' := Lib.hid W1
    have W2' := Lib.hid W2
    have W3' := Lib.hid W3
    have W4' := Lib.hid W4
    clear HP0 G0 G1 G2 G3 G4 HE0 hm hcase hR W0 W1 W2 W3 W4 hok zb f1 f2 zu hz hlen
    generalize S (one (List.replicate 64 0) ((0 : Int), s)) = u at *
    generalize S (List.replicate 64 (0 : UInt8)) = bl at *
    generalize mdec s.data.toList = r1 at *
    generalize mdece s.data.toList = r2 at *
    generalize dok s.data.toList = dk at *
    generalize S (menc (dm s.data.toList)) = en at *
    generalize mcheck (dm s.data.toList) = ck at *
    generalize dm s.data.toList = ms at *
    generalize vp s.data.toList = v at *
    simp only at HP
    go_enter Tryz.func35, Tryz.ntmps35
    go_wp2_with fail
    have hM : ((w.alloc (.cells #[.int .i64 0, .int .i64 0, .int .i64 0, .int .i64 0, .int .i64 0, .int .i64 0] 31)).alloc (.cells (arr v 0) 143)).heap[w.heap.size]? = some (.cells #[.int .i64 0, .int .i64 0, .int .i64 0, .int .i64 0, .int .i64 0, .int .i64 0] 31 (0, 0)) := (Below.heap_alloc _ _ _ (by simp)).trans (heap_alloc_new w _)
    have hA : ((w.alloc (.cells #[.int .i64 0, .int .i64 0, .int .i64 0, .int .i64 0, .int .i64 0, .int .i64 0] 31)).alloc (.cells (arr v 0) 143)).heap[w.heap.size + 1]? = some (.cells (arr v 0) 143 (0, 0)) := by
      have := heap_alloc_new (w.alloc (.cells #[.int .i64 0, .int .i64 0, .int .i64 0, .int .i64 0, .int .i64 0, .int .i64 0] 31)) (.cells (arr v 0) 143)
      rwa [World.size_alloc] at this
    have hB := below_alloc (below_alloc (Below.refl w.heap.size w) (.cells #[.int .i64 0, .int .i64 0, .int .i64 0, .int .i64 0, .int .i64 0, .int .i64 0] 31)) (.cells (arr v 0) 143)
    rw [show arr v 0 = #[.int .i64 0, .int .i64 0, .int .i64 0, .int .i64 0, .int .i64 0] from rfl] at hM hA hB
    generalize World.alloc (World.alloc w _) _ = w0 at *
    refine (BL.out _).mono ?_
    rintro e' w1 ⟨rfl, hb⟩
    have hA1 := (hb.block _ (blk_lt hA)).trans hA
    have hM1 := (hb.block _ (blk_lt hM)).trans hM
    have hB1 := below_step hb hB.size hB
    clear hb hA hM hB
    go_wp2_with fail
    have hA2 := (Below.heap_alloc w1 (.cells #[.int .i64 0, .string s] 86) _ (blk_lt hA1)).trans hA1
    have hM2 := (Below.heap_alloc w1 (.cells #[.int .i64 0, .string s] 86) _ (blk_lt hM1)).trans hM1
    have hB2 := below_alloc hB1 (.cells #[.int .i64 0, .string s] 86)
    refine (HP.out _).mono ?_
    rintro e' w2 ⟨rfl, hb⟩
    have hA := (hb.block _ (blk_lt hA2)).trans hA2
    have hM := (hb.block _ (blk_lt hM2)).trans hM2
    have hB := below_step hb hB2.size hB2
    rw [show #[Value.int .i64 0, .int .i64 0, .int .i64 0, .int .i64 0, .int .i64 0] = arr v 0 from rfl] at hA
    clear hb hA2 hM2 hB2 hA1 hM1 hB1
    go_wp2_with fail
    go_loopw [5, 24] (fun at' i wr => ∃ j : Nat, j ≤ 5 ∧ i = .int .i64 j ∧ at' = .int .i64 (wat j) ∧ Below w.heap.size w wr ∧ wr.heap[w.heap.size + 1]? = some (.cells (arr v j) 143 (0, 0)) ∧ wr.heap[w.heap.size]? = some (.cells #[.int .i64 0, .int .i64 0, .int .i64 0, .int .i64 0, .int .i64 0, .int .i64 0] 31 (0, 0))) (fun _ i _ => 5 - (RowKit.intOf i).toNat)
    case atStart => exact ⟨0, by omega, rfl, rfl, hB, hA, hM⟩
    case round =>
      clear hA hM hB
      obtain ⟨j, hj, rfl, rfl, hB2, hA, hM⟩ := hrel
      rcases (show j = 0 ∨ j = 1 ∨ j = 2 ∨ j = 3 ∨ j = 4 ∨ j = 5 by omega) with rfl | rfl | rfl | rfl | rfl | rfl
      · have a0 := blk_cell hA 0
        rw [show wat 0 = 0 from rfl]
        go_wp2_with (first | (go_at_call 33; refine (W0'.out _).mono ?_; rintro e' w3 ⟨rfl, rfl⟩) | (go_at_call 54; refine (G0'.out _).mono ?_; rintro e' w4 ⟨rfl, hb⟩; have hA' := (hb.block _ (blk_lt hA)).trans hA; have hM' := (hb.block _ (blk_lt hM)).trans hM; have hB3 := below_step hb hB2.size hB2; clear hb a0 hA hM hB2; have a0 := blk_cell hA' 0; have a9 := blk_free hA' 0; rw [show (arr v 0)[0]? = some (.int .i64 0) from rfl] at a0))
        go_roundw
        case rel => exact ⟨1, by omega, rfl, rfl, below_setCell hB3 (by omega) _ _, by rw [← arr_set v 0 (by omega)]; exact set_block hA' 0 _, (Below.heap_setCell _ _ _ _ (by simp)).trans hM'⟩
        case measure => simp [RowKit.intOf]
      · have a0 := blk_cell hA 1
        rw [show wat 1 = 1 from rfl]
        go_wp2_with (first | (go_at_call 33; refine (W1'.out _).mono ?_; rintro e' w3 ⟨rfl, rfl⟩) | (go_at_call 54; refine (G1'.out _).mono ?_; rintro e' w4 ⟨rfl, hb⟩; have hA' := (hb.block _ (blk_lt hA)).trans hA; have hM' := (hb.block _ (blk_lt hM)).trans hM; have hB3 := below_step hb hB2.size hB2; clear hb a0 hA hM hB2; have a0 := blk_cell hA' 1; have a9 := blk_free hA' 1; rw [show (arr v 1)[1]? = some (.int .i64 0) from rfl] at a0))
        go_roundw
        case rel => exact ⟨2, by omega, rfl, rfl, below_setCell hB3 (by omega) _ _, by rw [← arr_set v 1 (by omega)]; exact set_block hA' 1 _, (Below.heap_setCell _ _ _ _ (by simp)).trans hM'⟩
        case measure => simp [RowKit.intOf]
      · have a0 := blk_cell hA 2
        rw [show wat 2 = 2 from rfl]
        go_wp2_with (first | (go_at_call 33; refine (W2'.out _).mono ?_; rintro e' w3 ⟨rfl, rfl⟩) | (go_at_call 54; refine (G2'.out _).mono ?_; rintro e' w4 ⟨rfl, hb⟩; have hA' := (hb.block _ (blk_lt hA)).trans hA; have hM' := (hb.block _ (blk_lt hM)).trans hM; have hB3 := below_step hb hB2.size hB2; clear hb a0 hA hM hB2; have a0 := blk_cell hA' 2; have a9 := blk_free hA' 2; rw [show (arr v 2)[2]? = some (.int .i64 0) from rfl] at a0))
        go_roundw
        case rel => exact ⟨3, by omega, rfl, rfl, below_setCell hB3 (by omega) _ _, by rw [← arr_set v 2 (by omega)]; exact set_block hA' 2 _, (Below.heap_setCell _ _ _ _ (by simp)).trans hM'⟩
        case measure => simp [RowKit.intOf]
      · have a0 := blk_cell hA 3
        rw [show wat 3 = 4 from rfl]
        go_wp2_with (first | (go_at_call 33; refine (W3'.out _).mono ?_; rintro e' w3 ⟨rfl, rfl⟩) | (go_at_call 54; refine (G3'.out _).mono ?_; rintro e' w4 ⟨rfl, hb⟩; have hA' := (hb.block _ (blk_lt hA)).trans hA; have hM' := (hb.block _ (blk_lt hM)).trans hM; have hB3 := below_step hb hB2.size hB2; clear hb a0 hA hM hB2; have a0 := blk_cell hA' 3; have a9 := blk_free hA' 3; rw [show (arr v 3)[3]? = some (.int .i64 0) from rfl] at a0))
        go_roundw
        case rel => exact ⟨4, by omega, rfl, rfl, below_setCell hB3 (by omega) _ _, by rw [← arr_set v 3 (by omega)]; exact set_block hA' 3 _, (Below.heap_setCell _ _ _ _ (by simp)).trans hM'⟩
        case measure => simp [RowKit.intOf]
      · have a0 := blk_cell hA 4
        rw [show wat 4 = 8 from rfl]
        go_wp2_with (first | (go_at_call 33; refine (W4'.out _).mono ?_; rintro e' w3 ⟨rfl, rfl⟩) | (go_at_call 54; refine (G4'.out _).mono ?_; rintro e' w4 ⟨rfl, hb⟩; have hA' := (hb.block _ (blk_lt hA)).trans hA; have hM' := (hb.block _ (blk_lt hM)).trans hM; have hB3 := below_step hb hB2.size hB2; clear hb a0 hA hM hB2; have a0 := blk_cell hA' 4; have a9 := blk_free hA' 4; rw [show (arr v 4)[4]? = some (.int .i64 0) from rfl] at a0))
        go_roundw
        case rel => exact ⟨5, by omega, rfl, rfl, below_setCell hB3 (by omega) _ _, by rw [← arr_set v 4 (by omega)]; exact set_block hA' 4 _, (Below.heap_setCell _ _ _ _ (by simp)).trans hM'⟩
        case measure => simp [RowKit.intOf]
      · rw [show arr v 5 = #[.int .i64 (v 0), .int .i64 (v 1), .int .i64 (v 2), .int .i64 (v 3), .int .i64 (v 4)] from rfl] at hA
        have a0 := blk_cell hA 0
        have a1 := blk_cell hA 1
        have a2 := blk_cell hA 2
        have a3 := blk_cell hA 3
        have a4 := blk_cell hA 4
        go_wp2_with fail
        have hM1 := (Below.heap_alloc wr (.cells #[.int .i64 (v 0), .int .i64 (v 1), .int .i64 (1 - (v 1 : Int)), .int .i64 (v 2), .int .i64 (v 3), .int .i64 (v 4)] 31) _ (blk_lt hM)).trans hM
        have hN1 := heap_alloc_new wr (.cells #[.int .i64 (v 0), .int .i64 (v 1), .int .i64 (1 - (v 1 : Int)), .int .i64 (v 2), .int .i64 (v 3), .int .i64 (v 4)] 31)
        have hB1 := below_alloc hB2 (.cells #[.int .i64 (v 0), .int .i64 (v 1), .int .i64 (1 - (v 1 : Int)), .int .i64 (v 2), .int .i64 (v 3), .int .i64 (v 4)] 31)
        refine (HE.out _).mono ?_
        rintro e' w5 ⟨rfl, hb⟩
        have hM' := (hb.block _ (blk_lt hM1)).trans hM1
        have hN := (hb.block _ (blk_lt hN1)).trans hN1
        have hB := below_step hb hB1.size hB1
        clear hb hM1 hN1 hB1 a0 a1 a2 a3 a4 hA hM hB2
        have n0 := blk_cell hN 0
        have n1 := blk_cell hN 1
        have n2 := blk_cell hN 2
        have n3 := blk_cell hN 3
        have n4 := blk_cell hN 4
        have n5 := blk_cell hN 5
        have m0 := blk_cell hM' 0
        have m1 := blk_cell hM' 1
        have m2 := blk_cell hM' 2
        have m3 := blk_cell hM' 3
        have m4 := blk_cell hM' 4
        have m5 := blk_cell hM' 5
        have k0 := blk_free hM' 0
        have k1 := blk_free hM' 1
        have k2 := blk_free hM' 2
        have k3 := blk_free hM' 3
        have k4 := blk_free hM' 4
        have k5 := blk_free hM' 5
        rcases HC.out with ⟨rfl, rfl, rfl⟩ | ⟨rfl, rfl⟩ | ⟨rfl, rfl, hne⟩
        · go_wp2_with fail
          refine bodyPost_ret (v := .tuple #[.agg #[.int .i64 (v 0), .int .i64 (v 1), .int .i64 (1 - (v 1 : Int)), .int .i64 (v 2), .int .i64 (v 3), .int .i64 (v 4)], .int .i64 0]) (by have X := stored6 hM' (.int .i64 (v 0)) (.int .i64 (v 1)) (.int .i64 (1 - (v 1 : Int))) (.int .i64 (v 2)) (.int .i64 (v 3)) (.int .i64 (v 4)); simp [results, Tryz.results35, go_sem, X]) rfl ⟨by rw [HR.out.1, HR.out.2, ← HM.out]; rfl, ?_⟩
          exact below_setCell (below_setCell (below_setCell (below_setCell (below_setCell (below_setCell hB (Nat.le_refl _) _ _) (Nat.le_refl _) _ _) (Nat.le_refl _) _ _) (Nat.le_refl _) _ _) (Nat.le_refl _) _ _) (Nat.le_refl _) _ _
        · go_wp2_with fail
          refine bodyPost_ret (v := .tuple #[.agg #[.int .i64 0, .int .i64 0, .int .i64 0, .int .i64 0, .int .i64 0, .int .i64 0], .int .i64 210]) (by have X := stored6 hM' (.int .i64 0) (.int .i64 0) (.int .i64 0) (.int .i64 0) (.int .i64 0) (.int .i64 0); simp [results, Tryz.results35, go_sem, X]) rfl ⟨by rw [HR.out.1, HR.out.2]; rfl, ?_⟩
          exact below_setCell (below_setCell (below_setCell (below_setCell (below_setCell (below_setCell hB (Nat.le_refl _) _ _) (Nat.le_refl _) _ _) (Nat.le_refl _) _ _) (Nat.le_refl _) _ _) (Nat.le_refl _) _ _) (Nat.le_refl _) _ _
        · have hs2 := str_ne hne
          clear hne
          go_wp2_with fail
          refine bodyPost_ret (v := .tuple #[.agg #[.int .i64 0, .int .i64 0, .int .i64 0, .int .i64 0, .int .i64 0, .int .i64 0], .int .i64 210]) (by have X := stored6 hM' (.int .i64 0) (.int .i64 0) (.int .i64 0) (.int .i64 0) (.int .i64 0) (.int .i64 0); simp [results, Tryz.results35, go_sem, X]) rfl ⟨by rw [HR.out.1, HR.out.2]; rfl, ?_⟩
          exact below_setCell (below_setCell (below_setCell (below_setCell (below_setCell (below_setCell hB (Nat.le_refl _) _ _) (Nat.le_refl _) _ _) (Nat.le_refl _) _ _) (Nat.le_refl _) _ _) (Nat.le_refl _) _ _) (Nat.le_refl _) _ _
  · have hd : dok s.data.toList = false := by rw [dok]; simp only [decide_eq_false_iff_not]; omega
    have e1 : mdec s.data.toList = mzero := by rw [mdec, hd]; rfl
    have e2 : mdece s.data.toList = 210 := by rw [mdece, hd]; rfl
    rw [e1, e2]
    have hb : ((s.size : Int) != 13) = true := by simp; omega
    clear hz hd e1 e2 hlen
    go_enter Tryz.func35, Tryz.ntmps35
    go_wp2_with fail
    refine bodyPost_ret (v := .tuple #[.agg #[.int .i64 0, .int .i64 0, .int .i64 0, .int .i64 0, .int .i64 0, .int .i64 0], .int .i64 210]) (by simp [results, Tryz.results35, go_sem]) rfl ⟨rfl, by go_grown⟩
end Cw
