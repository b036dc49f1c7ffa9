/- The statement SoftBegins: the walk. -/
import Derived.Test.YtapmgndnjgoimaaGreatSoft
namespace Cw
open Go Vc
open Go.Proofs
set_option maxRecDepth 100000
def mv2 (m : Int × Int) : List Value := [.int .i64 m.1, .int .i64 m.2]
def mcells2 (ms : List (Int × Int)) : List Value := fcs mv2 ms
theorem mcells2_len (ms : List (Int × Int)) : (mcells2 ms).length = ms.length * 2 := fcs_length (f := mv2) (c := 2) (fun _ => rfl) ms
theorem mcells2_rd {ms : List (Int × Int)} {i : Nat} (h : i < ms.length) : Vc.rowAt (mcells2 ms) ((i : Int).toNat * 2) [iT ms[i].1, iT ms[i].2] :=
  have g := fun (j : Nat) (u : Value) (hu : (mv2 ms[i])[j]? = some u) => fcs_at (f := mv2) (c := 2) (fun _ => rfl) h hu
  ⟨g 0 _ rfl, g 1 _ rfl, trivial⟩
/-- What stays from change to change. -/
structure BgI (ls : List SC) (i : Nat) (x : SS) (A : List (List Int × Option Addr × Nat)) : Prop where
  le : i ≤ ls.length ∧ i ≤ 30
  ok : SOk x
  bg : BgOk ls x.R
  len : x.R.length = i
  al : A.length = i
  b5 : ∀ (j : Nat) (h1 : j < A.length) (h2 : j < ls.length), A[j].1 = b5T j ls[j].back
  last : x.last ≤ 2 * (i : Int)
theorem BgI.nil (ls : List SC) : BgI ls 0 ⟨[], [], 0⟩ [] := ⟨by omega, SfOk.nil, BgOk.nil, rfl, rfl, fun j h => by simp at h, by decide⟩
theorem BgI.step {ls : List SC} {i : Nat} {x y : SS} {A : List (List Int × Option Addr × Nat)} (h : BgI ls i x A) (hi : i < ls.length) (h30 : i < 30) (hy : SOk y) (hb : BgOk ls y.R) (hl : y.R.length = i + 1) (A1 : Option Addr) (m1 : Nat) (hla : y.last ≤ 2 * (i : Int) + 2) : BgI ls (i + 1) y (A ++ [(b5T i ls[i].back, A1, m1)]) := by
  have hal := h.al
  refine ⟨by omega, hy, hb, hl, by simp [h.al], fun j h1 h2 => ?_, by omega⟩
  by_cases hj : j < A.length
  · rw [List.getElem_append_left hj]; exact h.b5 j hj h2
  · have : j = A.length := by simp at h1; omega
    subst this
    simp only [List.getElem_concat_length]
    subst hal
    rfl
set_option maxRecDepth 100000 in
set_option maxHeartbeats 16000000 in
theorem softBegins_h (ls : List SC) (ms : List (Int × Int)) (zl : ls.length ≤ 100000000000000) (zm : ms.length ≤ 100000000000000) (zb : ∀ a ∈ ls, a.back.length ≤ 17592186043904) :
    FnH Tryz.prog 3 [.c (.nm 0), .c (.nm 1)] [(0, some (false, .rd 4 ls.length (scells ls))), (1, some (false, .rd 2 ms.length (mcells2 ms))), (2, some (false, .ab (frzP (ls.map SC.w))))] 3 ⟨.t (.c (.b true)), [], [], []⟩ := by
  refine fnR (fn := Tryz.f3) 136 rfl rfl rfl (args' := [.c (.nm 0), .c (.nm 1)]) (H' := [(0, some (false, .rd 4 ls.length (scells ls))), (1, some (false, .rd 2 ms.length (mcells2 ms))), (2, some (false, .ab (frzP (ls.map SC.w))))]) (nx' := 3) (fun e w M => ⟨_, mem_rd (fun n => n) (H' := [(0, some (false, .rd 4 ls.length (scells ls))), (1, some (false, .rd 2 ms.length (mcells2 ms))), (2, some (false, .ab (frzP (ls.map SC.w))))]) ⟨⟨false, rfl⟩, ⟨false, rfl⟩, ⟨false, rfl⟩, trivial⟩ M, rfl⟩) rfl rfl rfl rfl fun w => ?_
  refine rn [(19, .spec ⟨.tup [.c (.nm 3), .c (iT 0)], [(true, .ab (dkX 1))], [], []⟩), (23, .spec ⟨.t (.c (.b false)), [], [], []⟩), (28, .dec false), (29, .spec ⟨.t (.c (.b true)), [], [], []⟩), (31, .dec false), (20004, .dec true)] rfl (by (repeat' (first | exact trivial | exact rfl | exact newS 1 | exact fun _ => newS 1 | first | exact nilDkX rfl rfl rfl rfl | exact softWorks_h | rfl | refine And.intro ?_ ?_))) ?_
  refine At.ex (φ := fun bk => dkP ⟨[], [], 0⟩ 1 bk) 3 rfl (fun _ => absP_stable _ _) fun bk => ?_
  have hN := fun (H : HL) (nx : Nat) (h1 : lookH H 3 = some (true, .ab (dkP ⟨[], [], 0⟩ 1 bk))) => softNew (nx := nx) h1 (.inr rfl)
  refine rn [(34, .spec ⟨.tup [.c (.nm 4), .c (iT 0)], [(true, .ab (sfX 1 bk))], [(3, some (.ab (dkP ⟨[], [], 0⟩ 1 bk)))], []⟩), (38, .spec ⟨.t (.c (.b false)), [], [], []⟩), (42, .dec false)] rfl (by (repeat' (first | exact trivial | exact rfl | exact trivial | exact fun _ => trivial | first | exact hN _ _ rfl | exact nilSf rfl rfl rfl rfl | rfl | refine And.intro ?_ ?_))) ?_
  refine At.ex (φ := fun p : Nat × Nat => sfB [] [] 1 p.1 p.2 bk) 4 rfl (fun p => sfB_st _ _ _ _ _ _) fun p => ?_
  obtain ⟨b, bd⟩ := p
  refine At.nil 8 33 1 rfl ?_
  refine At.newE (frzP []) (.pointer none) (frzP_stable _) rfl (fun w p hp => by cases hp) ?_
  refine At.loop (X := (i : Nat) ×' (x : SS) ×' (A : List (List Int × Option Addr × Nat)) ×' BgI ls i x A) 7 (fun x => ls.length - x.1)
    (fun x => [(0, .t (.c (.nm 0))), (1, .t (.c (.nm 1))), (5, .t (.c (.nm 3))), (7, .t (.c (.nm 4))), (8, .t (.c (.nm 5))), (9, .t (.c (iT (x.1 : Nat))))])
    (fun x => [(0, some (false, .rd 4 ls.length (scells ls))), (1, some (false, .rd 2 ms.length (mcells2 ms))), (2, some (false, .ab (frzP (ls.map SC.w)))), (3, some (true, .ab (dkP x.2.1 1 bk))), (4, some (true, .ab (sfB x.2.1.R x.2.1.fly 1 b bd bk))), (5, some (true, .own 33 1 x.2.2.1.length (fcs ahQ x.2.2.1))), (6, some (true, .ab (frzP x.2.2.1)))]) ⟨0, ⟨[], [], 0⟩, [], BgI.nil ls⟩ [] (fun x => wf rfl rfl) (by repeat' (first | exact trivial | exact rfl | refine And.intro ?_ ?_)) (by repeat' (first | exact trivial | exact rfl | refine And.intro ?_ ?_)) rfl fun x => ?_
  obtain ⟨i, x, A, hI⟩ := x
  have hile := hI.le
  have w3 : IntKind.i64.wrap ((i : Int) + 1) = ((i + 1 : Nat) : Int) := by rw [wrap_sm (by omega) (by omega)]; omega
  cases hc : decide ((i : Int) < (ls.length : Nat)) && decide ((i : Int) < 30) with
  | true =>
    have hlt : i < ls.length := by have := of_decide_eq_true (Bool.and_eq_true_iff.1 hc).1; omega
    have h30 : i < 30 := by have := of_decide_eq_true (Bool.and_eq_true_iff.1 hc).2; omega
    obtain ⟨r0, r1, r2, r3⟩ := scells_at hlt
    have b0 : (0 : Int) ≤ (i : Int) := by omega
    have b1 : (i : Int) < (ls.length : Int) := by omega
    have c5 : (i : Int).toNat * 4 < (scells ls).length := by rw [scells_len]; omega
    refine rn [(50, .dec true), (57, .ld [.raw (.slice ls[i].A ls[i].back.length ls[i].m)])] rfl (by (repeat' (first | exact trivial | exact rfl | exact trivial | exact fun _ => trivial | first | exact hc | exact r3 | exact ⟨r3, trivial⟩ | exact b0 | exact b1 | exact c5 | decide | refine And.intro ?_ ?_))) ?_
    refine At.nil 10 3 1 rfl ?_
    refine At.rawF (xs := ls[i].back) (A := ls[i].A) (m := ls[i].m) 57 2 rfl (List.mem_map.2 ⟨ls[i], List.getElem_mem hlt, rfl⟩) rfl ?_
    have zbi := zb _ (List.getElem_mem hlt)
    refine At.loop (X := (k : Nat) ×' (k ≤ ls[i].back.length)) 9 (fun x => ls[i].back.length - x.1)
      (fun y => [(0, .t (.c (.nm 0))), (1, .t (.c (.nm 1))), (5, .t (.c (.nm 3))), (7, .t (.c (.nm 4))), (8, .t (.c (.nm 5))), (9, .t (.c (iT (i : Nat)))), (10, .t (.c (.nm 7))), (57, .t (.c (.nm 8))), (58, .t (.c (iT (ls[i].back.length : Nat)))), (59, .t (.c (iT (y.1 : Nat))))])
      (fun y => [(0, some (false, .rd 4 ls.length (scells ls))), (1, some (false, .rd 2 ms.length (mcells2 ms))), (2, some (false, .ab (frzP (ls.map SC.w)))), (3, some (true, .ab (dkP x 1 bk))), (4, some (true, .ab (sfB x.R x.fly 1 b bd bk))), (5, some (true, .own 33 1 A.length (fcs ahQ A))), (6, some (true, .ab (frzP A))), (7, some (true, .own 3 1 (b5T i (ls[i].back.take y.1)).length (ivs (b5T i (ls[i].back.take y.1))))), (8, some (false, .rd 1 ls[i].back.length (ivs ls[i].back)))]) ⟨0, by omega⟩ [] (fun x => wf rfl rfl) (by repeat' (first | exact trivial | exact rfl | refine And.intro ?_ ?_)) (by repeat' (first | exact trivial | exact rfl | refine And.intro ?_ ?_)) rfl fun y => ?_
    obtain ⟨k, hk⟩ := y
    have w4 : IntKind.i64.wrap ((k : Int) + 1) = ((k + 1 : Nat) : Int) := by rw [wrap_sm (by omega) (by omega)]; omega
    refine rn [] rfl (by repeat' (first | exact trivial | exact rfl | refine And.intro ?_ ?_)) ?_
    refine ⟨fun h1 => ?_, fun h1 => ?_⟩
    · have hkl : k < ls[i].back.length := by have : (k : Int) < (ls[i].back.length : Int) := of_decide_eq_true h1; omega
      clear h1
      have e1 : (ivs ls[i].back)[(k : Int).toNat * 1]? = some (.int .i64 ls[i].back[k]) := by simpa using ivs_at hkl
      have d0 : (0 : Int) ≤ (k : Int) := by omega
      have d1 : (k : Int) < (ls[i].back.length : Int) := by omega
      have a5 := among0 ls[i].back[k] 5 (by decide) (by decide)
      have n0 := Int.emod_nonneg ls[i].back[k] (show (5 : Int) ≠ 0 by decide)
      have n5 := Int.emod_lt_of_pos ls[i].back[k] (show (0 : Int) < 5 by decide)
      have w5 : IntKind.i64.wrap ((i : Int) - ls[i].back[k] % 5) = (i : Int) - ls[i].back[k] % 5 := wrap_sm (by omega) (by omega)
      have ht : ls[i].back.take (k + 1) = ls[i].back.take k ++ [ls[i].back[k]] := List.take_succ_eq_append_getElem hkl
      have hsn := b5T_snoc i (ls[i].back.take k) ls[i].back[k]
      rw [← ht] at hsn
      have hle := b5T_le i (ls[i].back.take k)
      rw [List.length_take] at hle
      generalize hbb : ls[i].back[k] = bb at *
      generalize b5T i (ls[i].back.take k) = w0 at *
      have m1 : w0.length + 1 ≤ maxLen := by simp only [maxLen]; omega
      have m2 : (w0.length + 1) * 8 ≤ 140737488355328 := by omega
      cases hcb : decide ((i : Int) - bb % 5 ≥ 1) with
      | true =>
        rw [if_pos hcb] at hsn
        have g1 : decide (IntKind.i64.wrap ((i : Int) - bb % 5) ≥ 1) = true := by rw [w5]; exact hcb
        refine rn [(62, .ld [iT bb]), (65, .ret (.t (.c (iT (bb % 5))))), (68, .dec true)] rfl (by (repeat' (first | exact trivial | exact rfl | exact trivial | exact fun _ => trivial | first | exact e1 | exact ⟨e1, trivial⟩ | exact d0 | exact d1 | exact a5 | exact g1 | exact m1 | exact m2 | decide | refine And.intro ?_ ?_))) ?_
        refine roundEnd ⟨k + 1, by omega⟩ [(7, 10)] (by show ls[i].back.length - (k + 1) < ls[i].back.length - k; omega) (by (repeat' (first | exact trivial | exact rfl | exact w4 | exact fun _ => w4 | refine And.intro ?_ ?_))) ?_ rfl
        rw [hsn]
        repeat' (first | exact trivial | exact rfl | refine And.intro ?_ ?_)
        · simp
        · rw [ivsApp, app_eq, w5]; rfl
      | false =>
        rw [if_neg (by rw [hcb]; decide)] at hsn
        have g1 : decide (IntKind.i64.wrap ((i : Int) - bb % 5) ≥ 1) = false := by rw [w5]; exact hcb
        refine rn [(62, .ld [iT bb]), (65, .ret (.t (.c (iT (bb % 5))))), (68, .dec false)] rfl (by (repeat' (first | exact trivial | exact rfl | exact trivial | exact fun _ => trivial | first | exact e1 | exact ⟨e1, trivial⟩ | exact d0 | exact d1 | exact a5 | exact g1 | decide | refine And.intro ?_ ?_))) ?_
        refine roundEnd ⟨k + 1, by omega⟩ [] (by show ls[i].back.length - (k + 1) < ls[i].back.length - k; omega) (by (repeat' (first | exact trivial | exact rfl | exact w4 | exact fun _ => w4 | refine And.intro ?_ ?_))) ?_ rfl
        rw [hsn]
        repeat' (first | exact trivial | exact rfl | refine And.intro ?_ ?_)
    · have hke : k = ls[i].back.length := by have : ¬ (k : Int) < (ls[i].back.length : Int) := of_decide_eq_false h1; omega
      have htk : ls[i].back.take k = ls[i].back := by rw [hke, List.take_length]
      refine rn [] rfl (by repeat' (first | exact trivial | exact rfl | refine And.intro ?_ ?_)) (roundExit rfl ?_)
      rw [htk]
      have a6 := among0 ls[i].at' 6 (by decide) (by decide)
      have n0 := Int.emod_nonneg ls[i].at' (show (6 : Int) ≠ 0 by decide)
      have n6 := Int.emod_lt_of_pos ls[i].at' (show (0 : Int) < 6 by decide)
      have hk6 : IntKind.i64.wrap (2 + ls[i].at' % 6) = 2 + ls[i].at' % 6 := wrap_sm (by omega) (by omega)
      have hlen := hI.len
      have hal := hI.al
      have hb5 := fun n (hn : n ∈ b5T i ls[i].back) => b5T_mem (n := i) ls[i].back hn
      have hb5l := b5T_le i ls[i].back
      have hy1 : IntKind.u8.wrap (IntKind.i64.wrap (1 + (i : Int))) = (i : Int) + 1 := by rw [wrap_sm (by omega) (by omega), IntKind.wrap_u8]; omega
      have hadd := fun (H : HL) (nx : Nat) (h4 : lookH H 4 = some (true, .ab (sfB x.R x.fly 1 b bd bk))) (h3 : lookH H 3 = some (true, .ab (dkP x 1 bk))) (h7 : lookH H 7 = some (true, .own 3 1 (b5T i ls[i].back).length (ivs (b5T i ls[i].back)))) =>
        softAdd (nx := nx) (R := x.R) (fly := x.fly) (last := x.last) h4 h3 (by decide) (by decide) hI.ok (by omega) (k := 2 + ls[i].at' % 6) (o := (i : Int)) (y := (i : Int) + 1) h7 (by decide) (by omega) (by omega) (fun n hn => by rw [hlen]; exact hb5 n hn) (by omega)
      have hbg := hI.bg.add (by omega) (by omega)
      have hok := (SfOk.plus (node := 1) hI.ok (k := 2 + ls[i].at' % 6) (o := (i : Int)) (b := (i : Int) + 1) (xs := b5T i ls[i].back) (by omega) (by omega) (fun n hn => by rw [hlen]; exact hb5 n hn)).1
      simp only [hlen] at hbg
      rw [hlen] at hadd
      have hR1l : (x.R ++ [sfC x.R (2 + ls[i].at' % 6) (i : Int) ((i : Int) + 1) (b5T i ls[i].back)]).length = i + 1 := by simp [hlen]
      have hx1 : (⟨x.R ++ [sfC x.R (2 + ls[i].at' % 6) (i : Int) ((i : Int) + 1) (b5T i ls[i].back)], x.fly, x.last⟩ : SS).last ≤ 2 * (i : Int) := hI.last
      generalize hx1' : x.R ++ [sfC x.R (2 + ls[i].at' % 6) (i : Int) ((i : Int) + 1) (b5T i ls[i].back)] = R1 at *
      rw [show bt1 ((i : Int) + 1) = bt1 (IntKind.u8.wrap (IntKind.i64.wrap (1 + (i : Int)))) by rw [hy1], ← hk6] at hadd
      have hst := fun (y : SS) (a1 : SOk y) (a2 : BgOk ls y.R) (a3 : y.R.length = i + 1) (A1 : Option Addr) (m1 : Nat) (a4 : y.last ≤ 2 * (i : Int) + 2) => hI.step hlt h30 a1 a2 a3 A1 m1 a4
      have hb5A := hI.b5
      generalize b5T i ls[i].back = xs at *
      have g98 : (((i : Int) + 1) != IntKind.i64.wrap ((i : Int) + 1)) = false := by rw [w3]; simp
      refine rnA [(87, .ld [iT ls[i].at']), (88, .ret (.t (.c (iT (ls[i].at' % 6))))), (30092, .dec true), (92, .spec ⟨.tup [.c (iT ((i : Int) + 1)), .c (iT 0)], [], [(4, some (.ab (sfB R1 x.fly 1 b bd bk))), (3, some (.ab (dkP ⟨R1, x.fly, x.last⟩ 1 bk)))], []⟩), (99, .dec false), (102, .dec false), (20023, .dec true)] rfl
        (by (repeat' (first | exact trivial | exact rfl | exact trivial | exact fun _ => trivial | first | exact r0 | exact ⟨r0, trivial⟩ | exact b0 | exact b1 | exact c5 | exact a6 | exact hadd _ _ rfl rfl rfl | exact g98 | rfl | decide | refine And.intro ?_ ?_))) ?_
      refine At.freeze 10 7 rfl rfl fun A1 m1 => ?_
      refine At.joinF 7 6 rfl rfl (by decide) ?_
      have k3 : A.length + 1 ≤ maxLen := by simp only [maxLen]; omega
      have k4 : (A.length + 1) * 24 ≤ 140737488355328 := by omega
      refine rn [] rfl (by (repeat' (first | exact trivial | exact rfl | exact trivial | exact fun _ => trivial | first | exact k3 | exact k4 | rfl | decide | refine And.intro ?_ ?_))) ?_
      have hq3 : A.length + 1 = (A ++ [(xs, A1, m1)]).length := by simp
      have hq4 : app (fcs ahQ A) (List.map (CV.den Vc.e0) [.raw (.slice A1 xs.length m1)]) = fcs ahQ (A ++ [(xs, A1, m1)]) := by
        rw [app_eq]
        exact (fcs_app ahQ A (xs, A1, m1)).symm
      have w2i : IntKind.i64.wrap (2 * (i : Int)) = ((2 * i : Nat) : Int) := by rw [wrap_sm (by omega) (by omega)]; omega
      refine At.loop (X := (j : Nat) ×' (y : SS) ×' (SOk y ∧ BgOk ls y.R ∧ y.R.length = i + 1 ∧ y.last ≤ 2 * (i : Int) + (j : Int) ∧ j ≤ 2)) 7 (fun x => 2 - x.1)
        (fun y => [(0, .t (.c (.nm 0))), (1, .t (.c (.nm 1))), (5, .t (.c (.nm 3))), (7, .t (.c (.nm 4))), (8, .t (.c (.nm 5))), (9, .t (.c (iT (i : Nat)))), (17, .t (.c (iT ((2 * i + y.1 : Nat) : Int))))])
        (fun y => [(0, some (false, .rd 4 ls.length (scells ls))), (1, some (false, .rd 2 ms.length (mcells2 ms))), (2, some (false, .ab (frzP (ls.map SC.w)))), (3, some (true, .ab (dkP y.2.1 1 bk))), (4, some (true, .ab (sfB y.2.1.R y.2.1.fly 1 b bd bk))), (5, some (true, .own 33 1 (A ++ [(xs, A1, m1)]).length (fcs ahQ (A ++ [(xs, A1, m1)])))), (6, some (true, .ab (frzP (A ++ [(xs, A1, m1)]))))]) ⟨0, ⟨R1, x.fly, x.last⟩, hok, hbg, hR1l, by omega, by omega⟩ [(5, 12)] (fun x => wf rfl rfl) (by (repeat' (first | exact trivial | exact rfl | exact trivial | exact fun _ => trivial | first | exact w2i | rfl | refine And.intro ?_ ?_))) (by (repeat' (first | exact trivial | exact rfl | exact trivial | exact fun _ => trivial | first | exact hq3 | exact hq4 | rfl | refine And.intro ?_ ?_))) rfl fun y => ?_
      obtain ⟨j, y, y1, y2, y3, y4, y5⟩ := y
      obtain ⟨yR, yf, yl⟩ := y
      simp only at y2 y3 y4
      have w6 : IntKind.i64.wrap (IntKind.i64.wrap (2 * (i : Int)) + 2) = ((2 * i + 2 : Nat) : Int) := by rw [w2i, wrap_sm (by omega) (by omega)]; omega
      have w7 : IntKind.i64.wrap (((2 * i + j : Nat) : Int) + 1) = ((2 * i + (j + 1) : Nat) : Int) := by rw [wrap_sm (by omega) (by omega)]; omega
      cases hcj : decide (((2 * i + j : Nat) : Int) < IntKind.i64.wrap (IntKind.i64.wrap (2 * (i : Int)) + 2)) && decide (((2 * i + j : Nat) : Int) < (ms.length : Nat)) with
      | true =>
        have hj2 : j < 2 := by have := of_decide_eq_true (Bool.and_eq_true_iff.1 hcj).1; rw [w6] at this; omega
        have hjm : 2 * i + j < ms.length := by have := of_decide_eq_true (Bool.and_eq_true_iff.1 hcj).2; omega
        have q1 := mcells2_rd hjm
        have d0 : (0 : Int) ≤ ((2 * i + j : Nat) : Int) := by omega
        have d1 : ((2 * i + j : Nat) : Int) < (ms.length : Int) := by omega
        have d2 : ((2 * i + j : Nat) : Int).toNat * 2 < (mcells2 ms).length := by rw [mcells2_len]; omega
        have hmv := fun (H : HL) (nx : Nat) (h4 : lookH H 4 = some (true, .ab (sfB yR yf 1 b bd bk))) (h3 : lookH H 3 = some (true, .ab (dkP ⟨yR, yf, yl⟩ 1 bk))) => moved_h (nx := nx) h4 h3 (by decide) y1 (by omega) (by omega) (.inr rfl) ms[2 * i + j].1 ms[2 * i + j].2 rfl
        have z1 := SOk.mv y1 ms[2 * i + j].1 ms[2 * i + j].2
        have z2 := BgOk.mv (x := ⟨yR, yf, yl⟩) y2 ms[2 * i + j].1 ms[2 * i + j].2
        have z3 := mvS_len ⟨yR, yf, yl⟩ ms[2 * i + j].1 ms[2 * i + j].2
        have z4 := mvS_last ⟨yR, yf, yl⟩ ms[2 * i + j].1 ms[2 * i + j].2
        simp only at z3 z4
        generalize mvS ⟨yR, yf, yl⟩ ms[2 * i + j].1 ms[2 * i + j].2 = y' at *
        refine rn [(119, .dec true), (127, .ld [iT ms[2 * i + j].1, iT ms[2 * i + j].2]), (128, .spec ⟨.t (.c (.b true)), [], [(4, some (.ab (sfB y'.R y'.fly 1 b bd bk))), (3, some (.ab (dkP y' 1 bk)))], []⟩), (129, .dec false)] rfl (by (repeat' (first | exact trivial | exact rfl | exact trivial | exact fun _ => trivial | first | exact hcj | exact q1 | exact d0 | exact d1 | exact d2 | exact hmv _ _ rfl rfl | rfl | decide | refine And.intro ?_ ?_))) ?_
        exact roundEnd ⟨j + 1, y', z1, z2, by omega, by omega, by omega⟩ [] (by show 2 - (j + 1) < 2 - j; omega) (by (repeat' (first | exact trivial | exact rfl | exact w7 | exact fun _ => w7 | exact w7 | refine And.intro ?_ ?_))) (by repeat' (first | exact trivial | exact rfl | refine And.intro ?_ ?_)) rfl
      | false =>
        have hbe := fun (H : HL) (nx : Nat) (h4 : lookH H 4 = some (true, .ab (sfB yR yf 1 b bd bk))) (h3 : lookH H 3 = some (true, .ab (dkP ⟨yR, yf, yl⟩ 1 bk))) (h0 : lookH H 0 = some (false, .rd 4 ls.length (scells ls))) (h5 : lookH H 5 = some (true, .own 33 1 (A ++ [(xs, A1, m1)]).length (fcs ahQ (A ++ [(xs, A1, m1)])))) (h6 : lookH H 6 = some (true, .ab (frzP (A ++ [(xs, A1, m1)])))) =>
          beginning_h (nx := nx) h4 h3 h0 h5 h6 (by decide) rfl rfl rfl y1 y2 (by simp [y3, hal]) (fun y hy => hy) (hst ⟨yR, yf, yl⟩ y1 y2 y3 A1 m1 (by show yl ≤ _; omega)).b5 zb
        refine rn [(119, .dec false)] rfl (by (repeat' (first | exact trivial | exact rfl | exact trivial | exact fun _ => trivial | exact hcj | refine And.intro ?_ ?_))) (roundExit rfl ?_)
        refine rnA [(30134, .dec true), (134, .spec ⟨.t (.c (.b true)), [], [(4, some (.ab (sfB yR yf 1 b bd bk))), (3, some (.ab (dkP ⟨yR, yf, yl⟩ 1 bk)))], []⟩), (135, .dec false)] rfl (by (repeat' (first | exact trivial | exact rfl | exact trivial | exact fun _ => trivial | first | exact hbe _ _ rfl rfl rfl rfl rfl | rfl | refine And.intro ?_ ?_))) ?_
        exact roundEnd ⟨i + 1, ⟨yR, yf, yl⟩, A ++ [(xs, A1, m1)], hst ⟨yR, yf, yl⟩ y1 y2 y3 A1 m1 (by show yl ≤ _; omega)⟩ [] (by show ls.length - (i + 1) < ls.length - i; omega) (by (repeat' (first | exact trivial | exact rfl | exact w3 | exact fun _ => w3 | refine And.intro ?_ ?_))) (by repeat' (first | exact trivial | exact rfl | refine And.intro ?_ ?_)) rfl
  | false =>
    refine rn [(50, .dec false)] rfl (by (repeat' (first | exact trivial | exact rfl | exact trivial | exact fun _ => trivial | exact hc | refine And.intro ?_ ?_))) (roundExit rfl ?_)
    refine rnA [] rfl (by repeat' (first | exact trivial | exact rfl | refine And.intro ?_ ?_)) ?_
    exact ret0 tysOk rfl (by repeat' (first | exact trivial | exact rfl | refine And.intro ?_ ?_)) rfl
end Cw
namespace Cw
open Go Vc
open Go.Proofs
set_option maxRecDepth 100000
theorem rdsS_lt {w : World} {A : Option Addr} {n c s : Nat} {xs : List Value} (h : Vc.Rds w A n c s xs) (a : Addr) (ha : A = some a) (h0 : 0 < xs.length) : a.block < w.heap.size := by
  obtain ⟨_, _, _, _, h5⟩ := h
  obtain ⟨a', h6, h7⟩ := h5 0 xs[0] (by simp [h0])
  rw [ha] at h6
  cases h6
  have hb : (a.add 0).block = a.block := addr_blk a 0
  rcases Nat.lt_or_ge a.block w.heap.size with h | h
  · exact h
  · exfalso
    unfold World.cell? at h7
    rw [hb, Array.getElem?_eq_none h] at h7
    cases h7
theorem memS2 {w : World} {A1 A2 : Option Addr} {n1 c1 s1 n2 c2 s2 : Nat} {xs1 xs2 : List Value} {Wl : List (List Int × Option Addr × Nat)} (h1 : Vc.Rds w A1 n1 c1 s1 xs1) (h2 : Vc.Rds w A2 n2 c2 s2 xs2) (hf : ∀ y ∈ Wl, Vc.Rds w y.2.1 y.1.length y.2.2 1 (ivs y.1)) :
    ∃ e : Env, MemOk [(0, some (false, .rd s1 n1 xs1)), (1, some (false, .rd s2 n2 xs2)), (2, some (false, .ab (frzP Wl)))] e w ∧ e.val 0 = .slice A1 n1 c1 ∧ e.val 1 = .slice A2 n2 c2 := by
  refine ⟨⟨fun _ => 0, fun q => if q = 0 then .slice A1 n1 c1 else .slice A2 n2 c2, fun q g => if q = 0 then ∃ a, A1 = some a ∧ 0 < xs1.length ∧ g = a.block else if q = 1 then ∃ a, A2 = some a ∧ 0 < xs2.length ∧ g = a.block else ∃ y ∈ Wl, ∃ p, y.2.1 = some p ∧ 0 < y.1.length ∧ g = p.block, fun q => by
      show (if q = 0 then Value.slice A1 n1 c1 else Value.slice A2 n2 c2).oneCell' = true
      split <;> rfl⟩, ⟨fun m b o hm' => ?_, fun m o k c' q hm' hk => ?_⟩, rfl, rfl⟩
  · rw [lookH_cons] at hm'
    split at hm'
    · rename_i h0
      cases hm'
      subst h0
      exact ⟨⟨A1, c1, rfl, h1, fun a ha h0 => ⟨a, ha, h0, rfl⟩⟩, fun g ⟨a, ha, h0, hg⟩ => hg ▸ rdsS_lt h1 a ha h0⟩
    · rw [lookH_cons] at hm'
      split at hm'
      · rename_i h0
        cases hm'
        subst h0
        exact ⟨⟨A2, c2, rfl, h2, fun a ha h0 => ⟨a, ha, h0, rfl⟩⟩, fun g ⟨a, ha, h0, hg⟩ => hg ▸ rdsS_lt h2 a ha h0⟩
      · rw [lookH_cons] at hm'
        split at hm'
        · rename_i h0
          cases hm'
          subst h0
          exact ⟨⟨fun y hy => ⟨hf y hy, fun p hp h0 => ⟨y, hy, p, hp, h0, rfl⟩⟩, frzP_stable Wl⟩, fun g ⟨y, hy, p, hp, h0, hg⟩ => hg ▸ rdsS_lt (hf y hy) p hp (by rw [ivs_length]; exact h0)⟩
        · cases hm'
  · rw [lookH_cons] at hm'
    split at hm'
    · cases hm'
    · rw [lookH_cons] at hm'
      split at hm'
      · cases hm'
      · rw [lookH_cons] at hm'
        split at hm'
        · cases hm'
        · cases hm'
theorem softBegins_true (ls : List SC) (ms : List (Int × Int)) (A1 A2 : Option Addr) (c1 c2 : Nat) (w : World) (zl : ls.length ≤ 100000000000000) (zm : ms.length ≤ 100000000000000) (zb : ∀ a ∈ ls, a.back.length ≤ 17592186043904) (hb : ∀ a ∈ ls, Vc.Rds w a.A a.back.length a.m 1 (ivs a.back)) (h1 : Vc.Rds w A1 ls.length c1 4 (scells ls)) (h2 : Vc.Rds w A2 ms.length c2 2 (mcells2 ms)) :
    Calls Tryz.prog 3 #[.slice A1 ls.length c1, .slice A2 ms.length c2] w fun e w' => e = .returned (.bool true) ∧ RowKit.Below w.heap.size w w' := by
  obtain ⟨e, M, v0, v1⟩ := memS2 (Wl := ls.map SC.w) h1 h2 fun y hy => by
    obtain ⟨a, ha, rfl⟩ := List.mem_map.1 hy
    exact hb a ha
  have := fnh_law (softBegins_h ls ms zl zm zb) rfl rfl M
  rw [show ([.c (.nm 0), .c (.nm 1)] : List TV).map (TV.den e) = [e.val 0, e.val 1] from rfl, v0, v1] at this
  exact this
end Cw
