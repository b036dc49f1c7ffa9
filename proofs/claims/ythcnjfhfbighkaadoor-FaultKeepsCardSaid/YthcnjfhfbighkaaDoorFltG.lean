/- Chapter 2: the four laws walked. -/
import Derived.Test.YthcnjfhfbighkaaDoorFltF
namespace Cw
open Go Vc
open Go.Proofs
set_option maxRecDepth 100000
/-- A slice that is read, and the variable of errors.As. -/
theorem memg {w : World} {A : Option Addr} {n c s : Nat} {xs : List Value} (h : Vc.Rds w A n c s xs) (hg : w.cell? ⟨0, 0, none⟩ = some hdlV) : ∃ e : Env, MemOk [(0, some (false, .rd s n xs)), (1, some (false, .ab gP))] e w ∧ e.val 0 = .slice A n c := by
  have h0 : 0 < w.heap.size := by
    rcases Nat.eq_zero_or_pos w.heap.size with h | h
    · simp [World.cell?, h] at hg
    · exact h
  refine ⟨⟨fun _ => 0, fun _ => .slice A n c, fun m g => if m = 0 then ∃ a, A = some a ∧ 0 < xs.length ∧ g = a.block else g = 0, fun _ => rfl⟩, ⟨fun m b o hm => ?_, fun m o k c' q hm hk => ?_⟩, rfl⟩
  · rw [lookH_cons] at hm
    split at hm
    · rename_i hn
      cases hm
      subst hn
      exact ⟨⟨A, c, rfl, h, fun a ha h0 => ⟨a, ha, h0, rfl⟩⟩, fun g ⟨a, ha, h0, hg⟩ => hg ▸ rds_lt h a ha h0⟩
    · rw [lookH_cons] at hm
      split at hm
      · rename_i hn
        cases hm
        subst hn
        exact ⟨⟨⟨rfl, hg⟩, gP_st⟩, fun g hg => (show g = 0 from hg) ▸ h0⟩
      · cases hm
  · rw [lookH_cons] at hm
    split at hm
    · cases hm
    · rw [lookH_cons] at hm
      split at hm
      · cases hm
      · cases hm
def lawH (l : List (ByteArray × Int)) : HL := [(0, some (false, .rd 2 l.length (stS l))), (1, some (false, .ab gP))]
section
variable {c : Int} {l : List (ByteArray × Int)} {H : HL} {nx : Nat}
theorem memL (vs : List TV) : ∀ e w, MemOk (lawH l) e w → ∃ e', Mem (fun _ => False) (lawH l) e' w ∧ vs.map (TV.den e) = vs.map (TV.den e') :=
  fun e w M => ⟨e, ⟨fun n b o h => ⟨(M.ob n b o h).1, fun g hg => ⟨(M.ob n b o h).2 g hg, fun hb => by
    subst hb
    rw [lawH, lookH_cons] at h
    split at h
    · cases h
    · rw [lookH_cons] at h
      split at h
      · cases h
      · cases h⟩⟩, fun n o m c q h h' => M.dj n o m c q h h'⟩, rfl⟩
theorem isNil (d : Int) : FnH Tryd.prog 14 [.c (.raw .nilIface), .c (iT d)] H nx ⟨.t (.c (.b false)), [], [], []⟩ := by
  refine fnR (fn := Tryd.f14) 19 rfl rfl rfl (args' := [.c (.raw .nilIface), .c (iT d)]) (H' := [(0, none)]) (nx' := 1) (fun e w M => ⟨e, memV e w, rfl⟩) rfl rfl rfl rfl fun w => ?_
  refine rn [(6, .spec ⟨.t (.c (.b false)), [], [], []⟩), (7, .dec false)] rfl (by (repeat' (first | exact trivial | exact rfl | exact trivial | exact fun _ => trivial | first | exact spec_enn (c := 0) (r := true) rfl rfl (at_raw (c := 0) (l := []) rfl fun _ => rfl) | rfl | decide | refine And.intro ?_ ?_))) ?_
  exact ret0 tysOk rfl (by repeat' (first | exact trivial | exact rfl | refine And.intro ?_ ?_)) rfl
set_option maxRecDepth 100000 in
set_option maxHeartbeats 8000000 in
theorem faultWraps_h (op : ByteArray) (zl : l.length ≤ 100000000000000) : FnH Tryd.prog 3 [.c (iT c), .c (.nm 0), .c (.s op)] (lawH l) 2 ⟨.t (.c (.b true)), [], [], []⟩ := by
  refine fnR (fn := Tryd.f3) 54 rfl rfl rfl (args' := [.c (iT c), .c (.nm 0), .c (.s op)]) (H' := lawH l) (nx' := 2) (memL _) rfl rfl rfl rfl fun w => ?_
  have hmd := fun (H : HL) (nx : Nat) (h0 : lookH H 0 = some (false, .rd 2 l.length (stS l))) (h1 : lookH H 1 = some (false, .ab gP)) => made02 (c := c) (nx := nx) l zl h0 h1
  have hsl : (mkS c (l.take 20)).length ≤ 20 := by
    have := mkS_len c (l.take 20)
    rw [List.length_take] at this
    omega
  generalize mkS c (l.take 20) = s at *
  obtain ⟨ra, rb, hab⟩ : ∃ ra rb, fstS op s = (ra, rb) := ⟨_, _, rfl⟩
  have hf := fun (H : HL) (nx : Nat) (h0 : lookH H 2 = some (true, .ab (errX c s))) (h1 : lookH H 1 = some (false, .ab gP)) => firstP (nx := nx) op hab h0 h1 (by omega)
  have hrf := fun (H : HL) (nx : Nat) (h3 : lookH H 3 = some (true, .own 50 2 s.length (stS s))) => rfirstP (c := c) (z := decide (c = 0)) (nx := nx) op hab h3 (by omega)
  have hsm := fun (H : HL) (nx : Nat) (h0 : lookH H 2 = some (true, .ab (errX c s))) (h1 : lookH H 1 = some (false, .ab gP)) (h3 : lookH H 3 = some (true, .own 50 2 s.length (stS s))) => same02 (nx := nx) h0 h1 h3 (by omega)
  have hwk := fun (H : HL) (nx : Nat) (h1 : lookH H 1 = some (false, .ab gP)) => fworks_h (nx := nx) h1
  have g1 : (ra == ra) = true := by simp
  have g2 : polB true (rb == rb) = true := by cases rb <;> rfl
  refine rn [(16, .spec ⟨.tup [.c (.nm 2), .agg [.b (decide (c = 0)), iT c, .nm 3]], [(true, .ab (errX c s)), (true, .own 50 2 s.length (stS s))], [], []⟩), (22, .spec ⟨.tup [.c (iT ra), .c (.b rb)], [], [], []⟩), (28, .spec ⟨.tup [.c (iT ra), .c (.b rb)], [], [], []⟩),
    (31, .dec true), (34, .spec ⟨.t (.c (.b true)), [], [], []⟩), (36, .dec true), (39, .spec ⟨.t (.c (.b true)), [], [], []⟩), (41, .dec true), (46, .dec true), (51, .dec true), (52, .spec ⟨.t (.c (.b true)), [], [], []⟩)] rfl
    (by (repeat' (first | exact trivial | exact rfl | exact trivial | exact fun _ => trivial | first | exact hmd _ _ rfl rfl | exact hf _ _ rfl rfl | exact hrf _ _ rfl | exact hsm _ _ rfl rfl rfl | exact hwk _ _ rfl | exact g1 | exact g2 | rfl | decide | refine And.intro ?_ ?_))) ?_
  exact ret0 tysOk rfl (by repeat' (first | exact trivial | exact rfl | refine And.intro ?_ ?_)) rfl
set_option maxRecDepth 100000 in
set_option maxHeartbeats 8000000 in
theorem faultAsks_h (d : Int) (zl : l.length ≤ 100000000000000) : FnH Tryd.prog 5 [.c (iT c), .c (.nm 0), .c (iT d)] (lawH l) 2 ⟨.t (.c (.b true)), [], [], []⟩ := by
  refine fnR (fn := Tryd.f5) 45 rfl rfl rfl (args' := [.c (iT c), .c (.nm 0), .c (iT d)]) (H' := lawH l) (nx' := 2) (memL _) rfl rfl rfl rfl fun w => ?_
  have hmd := fun (H : HL) (nx : Nat) (h0 : lookH H 0 = some (false, .rd 2 l.length (stS l))) (h1 : lookH H 1 = some (false, .ab gP)) => made02 (c := c) (nx := nx) l zl h0 h1
  generalize mkS c (l.take 20) = s at *
  have hi := fun (H : HL) (nx : Nat) (q : Int) (h0 : lookH H 2 = some (true, .ab (errX c s))) (h1 : lookH H 1 = some (false, .ab gP)) => isX (nx := nx) (d := q) h0 h1 (by decide)
  have hid := fun (H : HL) (nx : Nat) h0 h1 => hi H nx d h0 h1
  have hic := fun (H : HL) (nx : Nat) h0 h1 => hi H nx c h0 h1
  have hwk := fun (H : HL) (nx : Nat) (h1 : lookH H 1 = some (false, .ab gP)) => fworks_h (nx := nx) h1
  have hnl := fun (H : HL) (nx : Nat) => isNil (H := H) (nx := nx) d
  by_cases hc : c = 0
  · rw [show (!decide (c = 0) && (c == d)) = false by simp [hc]] at hid
    rw [show (!decide (c = 0) && (c == c)) = false by simp [hc]] at hic
    rw [decide_eq_true hc] at hmd
    refine rn [(12, .spec ⟨.tup [.c (.nm 2), .agg [.b true, iT c, .nm 3]], [(true, .ab (errX c s)), (true, .own 50 2 s.length (stS s))], [], []⟩), (30017, .dec true), (17, .spec ⟨.t (.c (.b false)), [], [], []⟩), (21, .dec false), (28, .dec true), (30031, .dec true), (31, .spec ⟨.t (.c (.b false)), [], [], []⟩), (37, .dec true), (39, .spec ⟨.t (.c (.b false)), [], [], []⟩), (42, .dec true), (30043, .dec true), (43, .spec ⟨.t (.c (.b true)), [], [], []⟩)] rfl
      (by (repeat' (first | exact trivial | exact rfl | exact trivial | exact fun _ => trivial | first | exact hmd _ _ rfl rfl | exact hid _ _ rfl rfl | exact hic _ _ rfl rfl | exact hnl _ _ | exact hwk _ _ rfl | rfl | decide | refine And.intro ?_ ?_))) ?_
    exact ret0 tysOk rfl (by repeat' (first | exact trivial | exact rfl | refine And.intro ?_ ?_)) rfl
  · rw [show (!decide (c = 0) && (c == d)) = (c == d) by simp [hc]] at hid
    rw [show (!decide (c = 0) && (c == c)) = true by simp [hc]] at hic
    rw [decide_eq_false hc] at hmd
    have g1 : polB true ((c == d) == (c == d)) = true := by cases (c == d) <;> rfl
    refine rn [(12, .spec ⟨.tup [.c (.nm 2), .agg [.b false, iT c, .nm 3]], [(true, .ab (errX c s)), (true, .own 50 2 s.length (stS s))], [], []⟩), (30017, .dec true), (17, .spec ⟨.t (.c (.b (c == d))), [], [], []⟩), (21, .dec true), (28, .dec true), (30031, .dec true), (31, .spec ⟨.t (.c (.b true)), [], [], []⟩), (37, .dec true), (39, .spec ⟨.t (.c (.b false)), [], [], []⟩), (42, .dec true), (30043, .dec true), (43, .spec ⟨.t (.c (.b true)), [], [], []⟩)] rfl
      (by (repeat' (first | exact trivial | exact rfl | exact trivial | exact fun _ => trivial | first | exact hmd _ _ rfl rfl | exact hid _ _ rfl rfl | exact hic _ _ rfl rfl | exact hnl _ _ | exact hwk _ _ rfl | exact g1 | rfl | decide | refine And.intro ?_ ?_))) ?_
    exact ret0 tysOk rfl (by repeat' (first | exact trivial | exact rfl | refine And.intro ?_ ?_)) rfl
theorem mkS_zero (l : List (ByteArray × Int)) : mkS 0 l = [] := by
  have : ∀ l : List (ByteArray × Int), l.foldl (nxtS 0) [] = [] := by
    intro l
    induction l with
    | nil => rfl
    | cons x l ih => exact ih
  exact this l
set_option maxRecDepth 100000 in
set_option maxHeartbeats 8000000 in
theorem faultFirsts_h (op : ByteArray) (zl : l.length ≤ 100000000000000) : FnH Tryd.prog 4 [.c (iT c), .c (.nm 0), .c (.s op)] (lawH l) 2 ⟨.t (.c (.b true)), [], [], []⟩ := by
  refine fnR (fn := Tryd.f4) 69 rfl rfl rfl (args' := [.c (iT c), .c (.nm 0), .c (.s op)]) (H' := lawH l) (nx' := 2) (memL _) rfl rfl rfl rfl fun w => ?_
  have hwk := fun (H : HL) (nx : Nat) (h1 : lookH H 1 = some (false, .ab gP)) => fworks_h (nx := nx) h1
  refine rn [(13, .spec ⟨.t (.c (.b true)), [], [], []⟩), (14, .dec false), (16, .spec ⟨.t (.c (.nm 2)), [(true, .ab (errX c []))], [], []⟩)] rfl (by (repeat' (first | exact trivial | exact rfl | exact trivial | exact fun _ => trivial | first | exact hwk _ _ rfl | exact ofX | rfl | decide | refine And.intro ?_ ?_))) ?_
  refine At.loop (X := (i : Nat) ×' (s : List (ByteArray × Int)) ×' (ra : Int) ×' (rb : Bool) ×' (i ≤ l.length ∧ i ≤ 16 ∧ s.length ≤ i ∧ (c = 0 → s = []) ∧ fstS op s = (ra, rb))) 3 (fun x => l.length - x.1)
    (fun x => [(0, .t (.c (iT c))), (1, .t (.c (.nm 0))), (2, .t (.c (.s op))), (7, .t (.c (.nm 2))), (8, .t (.c (iT x.2.2.1))), (9, .t (.c (.b x.2.2.2.1))), (10, .t (.c (iT (x.1 : Nat))))])
    (fun x => [(0, some (false, .rd 2 l.length (stS l))), (1, some (false, .ab gP)), (2, some (true, .ab (errX c x.2.1)))])
    ⟨0, [], 0, false, by omega, by omega, by simp, fun _ => rfl, rfl⟩ [] (fun x => wf rfl rfl) (by repeat' (first | exact trivial | exact rfl | refine And.intro ?_ ?_)) (by repeat' (first | exact trivial | exact rfl | refine And.intro ?_ ?_)) rfl fun x => ?_
  obtain ⟨i, s, ra, rb, hi1, hi2, hsl, hc0, hab⟩ := x
  have w3 : IntKind.i64.wrap ((i : Int) + 1) = ((i + 1 : Nat) : Int) := by rw [wsm (by omega) (by omega)]; omega
  refine rn [] rfl (by repeat' (first | exact trivial | exact rfl | refine And.intro ?_ ?_)) ?_
  refine ⟨fun h => ?_, fun h => ?_⟩
  · have hlt : i < l.length := by have : (i : Int) < (l.length : Int) := of_decide_eq_true (Bool.and_eq_true_iff.1 h).1; omega
    have h16 : i < 16 := by have : (i : Int) < 16 := of_decide_eq_true (Bool.and_eq_true_iff.1 h).2; omega
    clear h
    have r0 := stS_0 hlt
    have r1 := stS_1 hlt
    have b0 : (0 : Int) ≤ (i : Int) := by omega
    have b1 : (i : Int) < (l.length : Int) := by omega
    have b2 : (i : Int).toNat * 2 < (stS l).length := by rw [stS_len]; omega
    have hw := fun (H : HL) (nx : Nat) (h3 : lookH H 2 = some (true, .ab (errX c s))) (h1 : lookH H 1 = some (false, .ab gP)) => wrapX (nx := nx) l[i].1 l[i].2 h3 h1 (by decide) (by omega)
    by_cases hc : c = 0
    · rw [show nxtS c s (l[i].1, l[i].2) = s from if_pos (.inl hc)] at hw
      have g0 : (c != 0) = false := by simp [hc]
      cases he : (l[i].1.toList == op.toList) with
      | true =>
        refine rn [(31, .ld [.s l[i].1]), (36, .ld [iT l[i].2]), (30038, .dec true), (38, .spec ⟨.t (.c (.nm 3)), [(true, .ab (errX c s))], [(2, none)], []⟩), (43, .ld [.s l[i].1]), (46, .dec true), (49, .dec false)] rfl
          (by (repeat' (first | exact trivial | exact rfl | exact trivial | exact fun _ => trivial | first | exact r0 | exact r1 | exact ⟨r0, trivial⟩ | exact ⟨r1, trivial⟩ | exact b0 | exact b1 | exact b2 | exact hw _ _ rfl rfl | exact he | exact g0 | rfl | decide | refine And.intro ?_ ?_))) ?_
        exact roundEnd ⟨i + 1, s, ra, rb, by omega, by omega, by omega, hc0, hab⟩ [(2, 3)] (by show l.length - (i + 1) < l.length - i; omega) (by (repeat' (first | exact trivial | exact rfl | exact w3 | exact fun _ => w3 | refine And.intro ?_ ?_))) (by repeat' (first | exact trivial | exact rfl | refine And.intro ?_ ?_)) rfl
      | false =>
        refine rn [(31, .ld [.s l[i].1]), (36, .ld [iT l[i].2]), (30038, .dec true), (38, .spec ⟨.t (.c (.nm 3)), [(true, .ab (errX c s))], [(2, none)], []⟩), (43, .ld [.s l[i].1]), (46, .dec false), (49, .dec false)] rfl
          (by (repeat' (first | exact trivial | exact rfl | exact trivial | exact fun _ => trivial | first | exact r0 | exact r1 | exact ⟨r0, trivial⟩ | exact ⟨r1, trivial⟩ | exact b0 | exact b1 | exact b2 | exact hw _ _ rfl rfl | exact he | exact g0 | rfl | decide | refine And.intro ?_ ?_))) ?_
        exact roundEnd ⟨i + 1, s, ra, rb, by omega, by omega, by omega, hc0, hab⟩ [(2, 3)] (by show l.length - (i + 1) < l.length - i; omega) (by (repeat' (first | exact trivial | exact rfl | exact w3 | exact fun _ => w3 | refine And.intro ?_ ?_))) (by repeat' (first | exact trivial | exact rfl | refine And.intro ?_ ?_)) rfl
    · rw [show nxtS c s (l[i].1, l[i].2) = (l[i].1, l[i].2) :: s from if_neg (by omega)] at hw
      have g0 : (c != 0) = true := by simpa using hc
      by_cases heq : l[i].1 = op
      · have he : (l[i].1.toList == op.toList) = true := by rw [bt_iff]; exact decide_eq_true heq
        refine rn [(31, .ld [.s l[i].1]), (36, .ld [iT l[i].2]), (30038, .dec true), (38, .spec ⟨.t (.c (.nm 3)), [(true, .ab (errX c ((l[i].1, l[i].2) :: s)))], [(2, none)], []⟩), (43, .ld [.s l[i].1]), (46, .dec true), (49, .dec true), (54, .ld [iT l[i].2])] rfl
          (by (repeat' (first | exact trivial | exact rfl | exact trivial | exact fun _ => trivial | first | exact r0 | exact r1 | exact ⟨r0, trivial⟩ | exact ⟨r1, trivial⟩ | exact b0 | exact b1 | exact b2 | exact hw _ _ rfl rfl | exact he | exact g0 | rfl | decide | refine And.intro ?_ ?_))) ?_
        exact roundEnd ⟨i + 1, (l[i].1, l[i].2) :: s, l[i].2, true, by omega, by omega, by simp; omega, fun h => absurd h hc, if_pos heq⟩ [(2, 3)] (by show l.length - (i + 1) < l.length - i; omega) (by (repeat' (first | exact trivial | exact rfl | exact w3 | exact fun _ => w3 | refine And.intro ?_ ?_))) (by repeat' (first | exact trivial | exact rfl | refine And.intro ?_ ?_)) rfl
      · have he : (l[i].1.toList == op.toList) = false := by rw [bt_iff]; exact decide_eq_false heq
        refine rn [(31, .ld [.s l[i].1]), (36, .ld [iT l[i].2]), (30038, .dec true), (38, .spec ⟨.t (.c (.nm 3)), [(true, .ab (errX c ((l[i].1, l[i].2) :: s)))], [(2, none)], []⟩), (43, .ld [.s l[i].1]), (46, .dec false), (49, .dec false)] rfl
          (by (repeat' (first | exact trivial | exact rfl | exact trivial | exact fun _ => trivial | first | exact r0 | exact r1 | exact ⟨r0, trivial⟩ | exact ⟨r1, trivial⟩ | exact b0 | exact b1 | exact b2 | exact hw _ _ rfl rfl | exact he | exact g0 | rfl | decide | refine And.intro ?_ ?_))) ?_
        exact roundEnd ⟨i + 1, (l[i].1, l[i].2) :: s, ra, rb, by omega, by omega, by simp; omega, fun h => absurd h hc, (if_neg heq).trans hab⟩ [(2, 3)] (by show l.length - (i + 1) < l.length - i; omega) (by (repeat' (first | exact trivial | exact rfl | exact w3 | exact fun _ => w3 | refine And.intro ?_ ?_))) (by repeat' (first | exact trivial | exact rfl | refine And.intro ?_ ?_)) rfl
  · have hf := fun (H : HL) (nx : Nat) (h0 : lookH H 2 = some (true, .ab (errX c s))) (h1 : lookH H 1 = some (false, .ab gP)) => firstP (nx := nx) op hab h0 h1 (by omega)
    have g1 : (ra == ra) = true := by simp
    have g2 : polB true (rb == rb) = true := by cases rb <;> rfl
    refine rn [] rfl (by repeat' (first | exact trivial | exact rfl | refine And.intro ?_ ?_)) (roundExit rfl ?_)
    refine rnA [(58, .spec ⟨.tup [.c (iT ra), .c (.b rb)], [], [], []⟩), (64, .dec true)] rfl (by (repeat' (first | exact trivial | exact rfl | exact trivial | exact fun _ => trivial | first | exact hf _ _ rfl rfl | exact g1 | rfl | decide | refine And.intro ?_ ?_))) ?_
    exact ret0 tysOk rfl (by (repeat' (first | exact trivial | exact rfl | exact trivial | exact fun _ => trivial | exact g2 | refine And.intro ?_ ?_))) rfl
end
end Cw
