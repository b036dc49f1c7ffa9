/- Chapter 2: FaultKeeps walked. -/
import Derived.Test.YthcnjfhfbighkaaDoorFltG
namespace Cw
open Go Vc
open Go.Proofs
set_option maxRecDepth 100000
section
variable {c : Int} {l : List (ByteArray × Int)}
set_option maxRecDepth 100000 in
set_option maxHeartbeats 16000000 in
theorem faultKeeps_h (zl : l.length ≤ 100000000000000) : FnH Tryd.prog 6 [.c (iT c), .c (.nm 0)] (lawH l) 2 ⟨.t (.c (.b true)), [], [], []⟩ := by
  refine fnR (fn := Tryd.f6) 112 rfl rfl rfl (args' := [.c (iT c), .c (.nm 0)]) (H' := lawH l) (nx' := 2) (memL _) rfl rfl rfl rfl fun w => ?_
  have hwk := fun (H : HL) (nx : Nat) (h1 : lookH H 1 = some (false, .ab gP)) => fworks_h (nx := nx) h1
  refine rn [(9, .spec ⟨.t (.c (.b true)), [], [], []⟩), (10, .dec false), (12, .spec ⟨.t (.c (.nm 2)), [(true, .ab (errX c []))], [], []⟩)] rfl (by (repeat' (first | exact trivial | exact rfl | exact trivial | exact fun _ => trivial | first | exact hwk _ _ rfl | exact ofX | rfl | decide | refine And.intro ?_ ?_))) ?_
  refine At.loop (X := (i : Nat) ×' (s : List (ByteArray × Int)) ×' (i ≤ l.length ∧ i ≤ 20 ∧ (c = 0 → s = []) ∧ (c ≠ 0 → s.length = min i 16))) 3 (fun x => l.length - x.1)
    (fun x => [(0, .t (.c (iT c))), (1, .t (.c (.nm 0))), (5, .t (.c (.nm 2))), (6, .t (.c (iT (x.1 : Nat))))])
    (fun x => [(0, some (false, .rd 2 l.length (stS l))), (1, some (false, .ab gP)), (2, some (true, .ab (errX c x.2.1)))])
    ⟨0, [], by omega, by omega, fun _ => rfl, fun _ => rfl⟩ [] (fun x => wf rfl rfl) (by repeat' (first | exact trivial | exact rfl | refine And.intro ?_ ?_)) (by repeat' (first | exact trivial | exact rfl | refine And.intro ?_ ?_)) rfl fun x => ?_
  obtain ⟨i, s, hi1, hi2, hc0, hc1⟩ := x
  have hsl : s.length ≤ 16 := by
    by_cases hc : c = 0
    · rw [hc0 hc]; simp
    · have := hc1 hc; omega
  have w3 : IntKind.i64.wrap ((i : Int) + 1) = ((i + 1 : Nat) : Int) := by rw [wsm (by omega) (by omega)]; omega
  refine rn [] rfl (by repeat' (first | exact trivial | exact rfl | refine And.intro ?_ ?_)) ?_
  refine ⟨fun h => ?_, fun h => ?_⟩
  · have hlt : i < l.length := by have : (i : Int) < (l.length : Int) := of_decide_eq_true (Bool.and_eq_true_iff.1 h).1; omega
    have h20 : i < 20 := by have : (i : Int) < 20 := of_decide_eq_true (Bool.and_eq_true_iff.1 h).2; omega
    clear h
    have r0 := stS_0 hlt
    have r1 := stS_1 hlt
    have b0 : (0 : Int) ≤ (i : Int) := by omega
    have b1 : (i : Int) < (l.length : Int) := by omega
    have b2 : (i : Int).toNat * 2 < (stS l).length := by rw [stS_len]; omega
    have hst := fun (H : HL) (nx : Nat) (h3 : lookH H 2 = some (true, .ab (errX c s))) (h1 : lookH H 1 = some (false, .ab gP)) => stepsX (nx := nx) h3 h1 (by decide) (by omega)
    have hw := fun (H : HL) (nx : Nat) (h3 : lookH H 2 = some (true, .ab (errX c s))) (h1 : lookH H 1 = some (false, .ab gP)) => wrapX (nx := nx) l[i].1 l[i].2 h3 h1 (by decide) (by omega)
    have g1 : (c != c) = false := by simp
    have e1 : (!decide (c = 0) && (c == c)) = (c != 0) := by
      by_cases hc : c = 0
      · simp [hc]
      · have : (c != 0) = true := by simpa using hc
        simp [hc, this]
    have g2 : polB false ((c != 0) == (c != 0)) = false := by cases (c != 0) <;> rfl
    by_cases hy : c = 0 ∨ 16 ≤ s.length
    · rw [show nxtS c s (l[i].1, l[i].2) = s from if_pos hy] at hw
      have hst2 := fun (H : HL) (nx : Nat) (h3 : lookH H 4 = some (true, .ab (errX c s))) (h1 : lookH H 1 = some (false, .ab gP)) => stepsX (nx := nx) h3 h1 (by decide) (by omega)
      have hcd := fun (H : HL) (nx : Nat) (h3 : lookH H 4 = some (true, .ab (errX c s))) (h1 : lookH H 1 = some (false, .ab gP)) => codeX (nx := nx) h3 h1 (by decide)
      have his := fun (H : HL) (nx : Nat) (h3 : lookH H 4 = some (true, .ab (errX c s))) (h1 : lookH H 1 = some (false, .ab gP)) => isX (nx := nx) (d := c) h3 h1 (by decide)
      rw [e1] at his
      have g3 : ((s.length : Int) != (s.length : Int)) = false := by simp
      have hn1 : c ≠ 0 → s.length = min (i + 1) 16 := fun h => by have := hc1 h; have := hy.resolve_left h; omega
      by_cases hc : c = 0
      · have g4 : (c == 0) = true := by simp [hc]
        refine rn [(24, .spec ⟨.t (.c (.nm 3)), [(true, .own 46 2 s.length (stS s))], [], []⟩), (29, .ld [.s l[i].1]), (34, .ld [iT l[i].2]), (30036, .dec true), (36, .spec ⟨.t (.c (.nm 4)), [(true, .ab (errX c s))], [(2, none)], []⟩), (38, .spec ⟨.t (.c (.nm 5)), [(true, .own 46 2 s.length (stS s))], [], []⟩),
          (40, .spec ⟨.t (.c (iT c)), [], [], []⟩), (43, .dec false), (46, .spec ⟨.t (.c (.b (c != 0))), [], [], []⟩), (50, .dec false), (53, .dec true), (56, .dec true), (61, .dec false)] rfl
          (by (repeat' (first | exact trivial | exact rfl | exact trivial | exact fun _ => trivial | first | exact r0 | exact r1 | exact ⟨r0, trivial⟩ | exact ⟨r1, trivial⟩ | exact b0 | exact b1 | exact b2 | exact hst _ _ rfl rfl | exact hst2 _ _ rfl rfl | exact hw _ _ rfl rfl | exact hcd _ _ rfl rfl | exact his _ _ rfl rfl | exact g1 | exact g2 | exact g3 | exact g4 | rfl | decide | refine And.intro ?_ ?_))) ?_
        exact roundEnd ⟨i + 1, s, by omega, by omega, hc0, hn1⟩ [(2, 4)] (by show l.length - (i + 1) < l.length - i; omega) (by (repeat' (first | exact trivial | exact rfl | exact w3 | exact fun _ => w3 | refine And.intro ?_ ?_))) (by repeat' (first | exact trivial | exact rfl | refine And.intro ?_ ?_)) rfl
      · have g4 : (c == 0) = false := by simpa using hc
        have g5 : decide ((16 : Int) ≤ (i : Int)) = true := by have := hc1 hc; have := hy.resolve_left hc; simp; omega
        refine rn [(24, .spec ⟨.t (.c (.nm 3)), [(true, .own 46 2 s.length (stS s))], [], []⟩), (29, .ld [.s l[i].1]), (34, .ld [iT l[i].2]), (30036, .dec true), (36, .spec ⟨.t (.c (.nm 4)), [(true, .ab (errX c s))], [(2, none)], []⟩), (38, .spec ⟨.t (.c (.nm 5)), [(true, .own 46 2 s.length (stS s))], [], []⟩),
          (40, .spec ⟨.t (.c (iT c)), [], [], []⟩), (43, .dec false), (46, .spec ⟨.t (.c (.b (c != 0))), [], [], []⟩), (50, .dec false), (53, .dec false), (56, .dec true), (61, .dec false)] rfl
          (by (repeat' (first | exact trivial | exact rfl | exact trivial | exact fun _ => trivial | first | exact r0 | exact r1 | exact ⟨r0, trivial⟩ | exact ⟨r1, trivial⟩ | exact b0 | exact b1 | exact b2 | exact hst _ _ rfl rfl | exact hst2 _ _ rfl rfl | exact hw _ _ rfl rfl | exact hcd _ _ rfl rfl | exact his _ _ rfl rfl | exact g1 | exact g2 | exact g3 | exact g4 | exact g5 | rfl | decide | refine And.intro ?_ ?_))) ?_
        exact roundEnd ⟨i + 1, s, by omega, by omega, hc0, hn1⟩ [(2, 4)] (by show l.length - (i + 1) < l.length - i; omega) (by (repeat' (first | exact trivial | exact rfl | exact w3 | exact fun _ => w3 | refine And.intro ?_ ?_))) (by repeat' (first | exact trivial | exact rfl | refine And.intro ?_ ?_)) rfl
    · rw [show nxtS c s (l[i].1, l[i].2) = (l[i].1, l[i].2) :: s from if_neg hy] at hw
      have hc : c ≠ 0 := fun h => hy (.inl h)
      have hsi : s.length = i := by have := hc1 hc; omega
      have hst2 := fun (H : HL) (nx : Nat) (h3 : lookH H 4 = some (true, .ab (errX c ((l[i].1, l[i].2) :: s)))) (h1 : lookH H 1 = some (false, .ab gP)) => stepsX (nx := nx) h3 h1 (by decide) (by simp; omega)
      have hcd := fun (H : HL) (nx : Nat) (h3 : lookH H 4 = some (true, .ab (errX c ((l[i].1, l[i].2) :: s)))) (h1 : lookH H 1 = some (false, .ab gP)) => codeX (nx := nx) h3 h1 (by decide)
      have his := fun (H : HL) (nx : Nat) (h3 : lookH H 4 = some (true, .ab (errX c ((l[i].1, l[i].2) :: s)))) (h1 : lookH H 1 = some (false, .ab gP)) => isX (nx := nx) (d := c) h3 h1 (by decide)
      rw [e1] at his
      have g4 : (c == 0) = false := by simpa using hc
      have g5 : decide ((16 : Int) ≤ (i : Int)) = false := by simp; omega
      have g6 : (((s.length + 1 : Nat) : Int) != IntKind.i64.wrap ((i : Int) + 1)) = false := by rw [w3, hsi]; simp
      have g7 : (!(l[i].1.toList == l[i].1.toList)) = false := by simp
      have g8 : (l[i].2 != l[i].2) = false := by simp
      have q0 : (stS ((l[i].1, l[i].2) :: s))[(0 : Int).toNat * 2]? = some (.string l[i].1) := stS_0 (s := (l[i].1, l[i].2) :: s) (j := 0) (by simp)
      have q1 : (stS ((l[i].1, l[i].2) :: s))[(0 : Int).toNat * 2 + 1]? = some (.int .i64 l[i].2) := stS_1 (s := (l[i].1, l[i].2) :: s) (j := 0) (by simp)
      have b3 : (0 : Int) < ((s.length + 1 : Nat) : Int) := by omega
      have b4 : (0 : Int).toNat * 2 < (stS ((l[i].1, l[i].2) :: s)).length := by rw [stS_len]; simp
      have hn1 : c ≠ 0 → ((l[i].1, l[i].2) :: s).length = min (i + 1) 16 := fun h => by simp; omega
      by_cases hpos : 0 < i
      · have g9 : decide ((0 : Int) < (i : Int)) = true := by simp; omega
        have u1 : IntKind.i64.wrap ((i : Int) - 1) = ((i - 1 : Nat) : Int) := by rw [wsm (by omega) (by omega)]; omega
        have hk1 : i - 1 < s.length := by omega
        have hk2 : i < ((l[i].1, l[i].2) :: s).length := by simp; omega
        have a1 := stS_rd hk2
        have he : ((l[i].1, l[i].2) :: s)[i] = s[i - 1] := by rw [List.getElem_cons, dif_neg (by omega)]
        rw [he] at a1
        have a2 : Vc.rowAt (stS s) ((IntKind.i64.wrap ((i : Int) - 1)).toNat * 2) [.s s[i - 1].1, iT s[i - 1].2] := by rw [u1]; exact stS_rd hk1
        have d0 : (0 : Int) ≤ IntKind.i64.wrap ((i : Int) - 1) := by rw [u1]; omega
        have d1 : IntKind.i64.wrap ((i : Int) - 1) < (s.length : Int) := by rw [u1]; omega
        have d2 : (i : Int) < ((s.length + 1 : Nat) : Int) := by omega
        have d3 : (i : Int).toNat * 2 < (stS ((l[i].1, l[i].2) :: s)).length := by rw [stS_len]; simp; omega
        have d4 : (IntKind.i64.wrap ((i : Int) - 1)).toNat * 2 < (stS s).length := by rw [u1, stS_len]; omega
        have p1 : polB false (s[i - 1].1 == s[i - 1].1 && (s[i - 1].2 == s[i - 1].2 && true)) = false := by rw [bq]; simp [polB]
        refine rn [(24, .spec ⟨.t (.c (.nm 3)), [(true, .own 46 2 s.length (stS s))], [], []⟩), (29, .ld [.s l[i].1]), (34, .ld [iT l[i].2]), (30036, .dec true), (36, .spec ⟨.t (.c (.nm 4)), [(true, .ab (errX c ((l[i].1, l[i].2) :: s)))], [(2, none)], []⟩), (38, .spec ⟨.t (.c (.nm 5)), [(true, .own 46 2 (s.length + 1) (stS ((l[i].1, l[i].2) :: s)))], [], []⟩),
          (40, .spec ⟨.t (.c (iT c)), [], [], []⟩), (43, .dec false), (46, .spec ⟨.t (.c (.b (c != 0))), [], [], []⟩), (50, .dec false), (53, .dec false), (56, .dec false), (67, .dec false), (71, .ld [.s l[i].1]), (76, .ld [.s l[i].1]), (79, .dec false), (83, .ld [iT l[i].2]), (88, .ld [iT l[i].2]), (91, .dec false), (94, .dec true), (98, .ld [.s s[i - 1].1, iT s[i - 1].2]), (103, .ld [.s s[i - 1].1, iT s[i - 1].2]), (106, .dec false)] rfl
          (by (repeat' (first | exact trivial | exact rfl | exact trivial | exact fun _ => trivial | first | exact r0 | exact r1 | exact ⟨r0, trivial⟩ | exact ⟨r1, trivial⟩ | exact q0 | exact q1 | exact ⟨q0, trivial⟩ | exact ⟨q1, trivial⟩ | exact a1 | exact a2 | exact b0 | exact b1 | exact b2 | exact b3 | exact b4 | exact d0 | exact d1 | exact d2 | exact d3 | exact d4 | exact hst _ _ rfl rfl | exact hst2 _ _ rfl rfl | exact hw _ _ rfl rfl | exact hcd _ _ rfl rfl | exact his _ _ rfl rfl | exact g1 | exact g2 | exact g4 | exact g5 | exact g6 | exact g7 | exact g8 | exact g9 | exact p1 | rfl | decide | refine And.intro ?_ ?_))) ?_
        exact roundEnd ⟨i + 1, (l[i].1, l[i].2) :: s, by omega, by omega, fun h => absurd h hc, hn1⟩ [(2, 4)] (by show l.length - (i + 1) < l.length - i; omega) (by (repeat' (first | exact trivial | exact rfl | exact w3 | exact fun _ => w3 | refine And.intro ?_ ?_))) (by repeat' (first | exact trivial | exact rfl | refine And.intro ?_ ?_)) rfl
      · have g9 : decide ((0 : Int) < (i : Int)) = false := by simp; omega
        refine rn [(24, .spec ⟨.t (.c (.nm 3)), [(true, .own 46 2 s.length (stS s))], [], []⟩), (29, .ld [.s l[i].1]), (34, .ld [iT l[i].2]), (30036, .dec true), (36, .spec ⟨.t (.c (.nm 4)), [(true, .ab (errX c ((l[i].1, l[i].2) :: s)))], [(2, none)], []⟩), (38, .spec ⟨.t (.c (.nm 5)), [(true, .own 46 2 (s.length + 1) (stS ((l[i].1, l[i].2) :: s)))], [], []⟩),
          (40, .spec ⟨.t (.c (iT c)), [], [], []⟩), (43, .dec false), (46, .spec ⟨.t (.c (.b (c != 0))), [], [], []⟩), (50, .dec false), (53, .dec false), (56, .dec false), (67, .dec false), (71, .ld [.s l[i].1]), (76, .ld [.s l[i].1]), (79, .dec false), (83, .ld [iT l[i].2]), (88, .ld [iT l[i].2]), (91, .dec false), (94, .dec false), (106, .dec false)] rfl
          (by (repeat' (first | exact trivial | exact rfl | exact trivial | exact fun _ => trivial | first | exact r0 | exact r1 | exact ⟨r0, trivial⟩ | exact ⟨r1, trivial⟩ | exact q0 | exact q1 | exact ⟨q0, trivial⟩ | exact ⟨q1, trivial⟩ | exact b0 | exact b1 | exact b2 | exact b3 | exact b4 | exact hst _ _ rfl rfl | exact hst2 _ _ rfl rfl | exact hw _ _ rfl rfl | exact hcd _ _ rfl rfl | exact his _ _ rfl rfl | exact g1 | exact g2 | exact g4 | exact g5 | exact g6 | exact g7 | exact g8 | exact g9 | rfl | decide | refine And.intro ?_ ?_))) ?_
        exact roundEnd ⟨i + 1, (l[i].1, l[i].2) :: s, by omega, by omega, fun h => absurd h hc, hn1⟩ [(2, 4)] (by show l.length - (i + 1) < l.length - i; omega) (by (repeat' (first | exact trivial | exact rfl | exact w3 | exact fun _ => w3 | refine And.intro ?_ ?_))) (by repeat' (first | exact trivial | exact rfl | refine And.intro ?_ ?_)) rfl
  · obtain ⟨z, hz⟩ : ∃ z, decide (c = 0) = z := ⟨_, rfl⟩
    have g1 : polB true (z == (c == 0)) = true := by
      rw [show (c == 0) = decide (c = 0) from rfl, hz]
      cases z <;> rfl
    refine rn [] rfl (by repeat' (first | exact trivial | exact rfl | refine And.intro ?_ ?_)) (roundExit rfl ?_)
    refine rnA [(108, .spec ⟨.t (.c (.b z)), [], [], []⟩)] rfl (by (repeat' (first | exact trivial | exact rfl | exact trivial | exact fun _ => trivial | first | exact spec_en hz rfl (at_nm rfl rfl) | rfl | decide | refine And.intro ?_ ?_))) ?_
    exact ret0 tysOk rfl (by (repeat' (first | exact trivial | exact rfl | exact trivial | exact fun _ => trivial | exact g1 | refine And.intro ?_ ?_))) rfl
end
theorem threeS (c : Int) (l : List (ByteArray × Int)) (x : ByteArray) (f : FuncId) (A : Option Addr) (cp : Nat) (w : World) (h1 : Vc.Rds w A l.length cp 2 (stS l)) (hg : w.cell? ⟨0, 0, none⟩ = some hdlV)
    (hf : FnH Tryd.prog f [.c (iT c), .c (.nm 0), .c (.s x)] (lawH l) 2 ⟨.t (.c (.b true)), [], [], []⟩) :
    Calls Tryd.prog f #[.int .i64 c, .slice A l.length cp, .string x] w fun e w' => e = .returned (.bool true) ∧ RowKit.Below w.heap.size w w' := by
  obtain ⟨e, M, v0⟩ := memg h1 hg
  have := fnh_law hf rfl rfl M
  rw [show ([.c (iT c), .c (.nm 0), .c (.s x)] : List TV).map (TV.den e) = [.int .i64 c, e.val 0, .string x] by simp [TV.den, CV.den], v0] at this
  exact this
theorem threeI (c : Int) (l : List (ByteArray × Int)) (x : Int) (f : FuncId) (A : Option Addr) (cp : Nat) (w : World) (h1 : Vc.Rds w A l.length cp 2 (stS l)) (hg : w.cell? ⟨0, 0, none⟩ = some hdlV)
    (hf : FnH Tryd.prog f [.c (iT c), .c (.nm 0), .c (iT x)] (lawH l) 2 ⟨.t (.c (.b true)), [], [], []⟩) :
    Calls Tryd.prog f #[.int .i64 c, .slice A l.length cp, .int .i64 x] w fun e w' => e = .returned (.bool true) ∧ RowKit.Below w.heap.size w w' := by
  obtain ⟨e, M, v0⟩ := memg h1 hg
  have := fnh_law hf rfl rfl M
  rw [show ([.c (iT c), .c (.nm 0), .c (iT x)] : List TV).map (TV.den e) = [.int .i64 c, e.val 0, .int .i64 x] by simp [TV.den, CV.den], v0] at this
  exact this
theorem two (c : Int) (l : List (ByteArray × Int)) (f : FuncId) (A : Option Addr) (cp : Nat) (w : World) (h1 : Vc.Rds w A l.length cp 2 (stS l)) (hg : w.cell? ⟨0, 0, none⟩ = some hdlV)
    (hf : FnH Tryd.prog f [.c (iT c), .c (.nm 0)] (lawH l) 2 ⟨.t (.c (.b true)), [], [], []⟩) :
    Calls Tryd.prog f #[.int .i64 c, .slice A l.length cp] w fun e w' => e = .returned (.bool true) ∧ RowKit.Below w.heap.size w w' := by
  obtain ⟨e, M, v0⟩ := memg h1 hg
  have := fnh_law hf rfl rfl M
  rw [show ([.c (iT c), .c (.nm 0)] : List TV).map (TV.den e) = [.int .i64 c, e.val 0] by simp [TV.den, CV.den], v0] at this
  exact this
end Cw
