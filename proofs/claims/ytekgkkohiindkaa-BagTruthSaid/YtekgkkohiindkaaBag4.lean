/- The statement BagTruth: the walk. -/
import Derived.Test.YtekgkkohiindkaaBag3
namespace Cw
open Go Vc
open Go.Proofs
set_option maxRecDepth 100000
set_option maxRecDepth 100000 in
set_option maxHeartbeats 8000000 in
theorem bagTruth_h (acts : List BAct) (zl : acts.length ≤ 100000000000000) :
    FnH Try.prog 3 [.c (.nm 0)] [(0, some (false, .rd 9 acts.length (bacells acts)))] 1 ⟨.t (.c (.b true)), [], [], []⟩ := by
  refine fnR (fn := Try.f3) 193 rfl rfl rfl (args' := [.c (.nm 0)]) (H' := [(0, some (false, .rd 9 acts.length (bacells acts)))]) (nx' := 1) (fun e w M => ?_) rfl rfl rfl rfl fun w => ?_
  · obtain ⟨e', M', q1⟩ := slr1 (v := .c (.nm 0)) (SlR.rd rfl) e w M
    exact ⟨e', M', by simp [q1]⟩
  refine rn [(18, .spec ⟨.tup [.c (.nm 1), .c (iT 0)], [(true, .ab (bagX 20 0 []))], [], []⟩), (22, .spec ⟨.t (.c (.b false)), [], [], []⟩), (28, .spec ⟨.t (.c (.b true)), [], [], []⟩)] rfl ?_ ?_
  · repeat' (first | exact trivial | exact rfl | refine And.intro ?_ ?_)
    · exact fun _ => bworks_h
    · exact nilB rfl rfl rfl rfl
    · exact bnewA (n := 20) (by decide) (by decide)
  refine ⟨fun h => (by cases h), fun _ => ?_⟩
  refine rn [] rfl (by repeat' (first | exact trivial | exact rfl | refine And.intro ?_ ?_)) ?_
  refine At.nil 5 31 6 rfl ?_
  refine At.nil 6 4 1 rfl ?_
  refine At.loop (X := (sent : List Ms) ×' (on : List Bool) ×' (L : List (Int × Ms)) ×' (last : Int) ×' (many : Int) ×' (i : Nat) ×' (i ≤ acts.length ∧ i ≤ 80 ∧ TOk sent on L last many ∧ sent.length ≤ i)) 4 (fun s => acts.length - s.2.2.2.2.2.1)
    (fun s => [(0, .t (.c (.nm 0))), (3, .t (.c (.nm 1))), (5, .t (.c (.nm 2))), (6, .t (.c (.nm 3))), (7, .t (.c (iT s.2.2.2.2.1))), (8, .t (.c (iT (s.2.2.2.2.2.1 : Nat))))])
    (fun s => [(0, some (false, .rd 9 acts.length (bacells acts))), (1, some (true, .ab (bagX 20 s.2.2.2.1 s.2.2.1))), (2, some (true, .own 31 6 s.1.length (mcs s.1))), (3, some (true, .own 4 1 s.2.1.length (bvs s.2.1)))])
    ⟨[], [], [], 0, 0, 0, by omega, by omega, TOk.new, by simp⟩ [] (fun k => wf rfl rfl) (by repeat' (first | exact trivial | exact rfl | refine And.intro ?_ ?_)) (by repeat' (first | exact trivial | exact rfl | refine And.intro ?_ ?_)) rfl fun s => ?_
  obtain ⟨sent, on, L, last, many, i, hi1, hi2, hT, hsl⟩ := s
  have w3 : IntKind.i64.wrap ((i : Int) + 1) = ((i + 1 : Nat) : Int) := by rw [wrap_sm (by omega) (by omega)]; omega
  refine rn [] rfl (by repeat' (first | exact trivial | exact rfl | refine And.intro ?_ ?_)) ?_
  refine ⟨fun h => ?_, fun h => ?_⟩
  · obtain ⟨q1, q2⟩ := Bool.and_eq_true_iff.1 h
    have hlt : i < acts.length := by have : (i : Int) < (acts.length : Int) := of_decide_eq_true q1; omega
    have hlt8 : i < 80 := by have : (i : Int) < 80 := of_decide_eq_true q2; omega
    clear h q1 q2
    have hrd := bacells_rd hlt
    have b0 : (0 : Int) ≤ (i : Int) := by omega
    have b1 : (i : Int) < (acts.length : Int) := by omega
    have hz : last ≤ 1000000 := by have := hT.la; omega
    have hmn := hT.mn
    have hla := hT.la
    have hln := hT.ln
    have hLl := hT.bok.len
    have u1 : IntKind.i64.wrap (many + 1) = many + 1 := wrap_sm (by omega) (by omega)
    have u2 : IntKind.i64.wrap (many - 1) = many - 1 := wrap_sm (by omega) (by omega)
    have u3 : IntKind.i64.wrap ((sent.length : Int) + 1) = (sent.length : Int) + 1 := wrap_sm (by omega) (by omega)
    have u4 : (last + 1 != IntKind.i64.wrap ((sent.length : Int) + 1)) = false := by rw [u3, hla]; simp
    have m1 : sent.length + 1 ≤ maxLen := by simp [maxLen]; omega
    have m2 : (sent.length + 1) * 48 ≤ 140737488355328 := by omega
    have m3 : on.length + 1 ≤ maxLen := by simp [maxLen]; omega
    have m4 : (on.length + 1) * 1 ≤ 140737488355328 := by omega
    generalize acts[i] = a at *
    have hk := emod_nat a.kind (n := 3) (by decide)
    have hk3 := amV a.kind 3 (by decide) (by decide)
    obtain ⟨kd, hkd, hke⟩ := hk
    by_cases he : sent.length = 0
    · have t1 : decide ((0 : Int) < (sent.length : Int)) = false := decide_eq_false (by omega)
      have t2 : ((sent.length : Int) == 0) = true := by rw [he]; rfl
      have hL0 : L = [] := by
        have : ∀ p ∈ L, False := fun p hp => by have := hT.bok.le p hp; omega
        exact List.eq_nil_iff_forall_not_mem.2 this
      match kd, hkd with
      | 0, _ =>
        rw [show a.kind % 3 = 0 from hke] at hk3
        by_cases hm : mcheck a.m = 0
        · by_cases hl : (L.length : Int) < 20
          · have hc := wcheck0 a.m
            rw [hm] at hc
            have v1 : (polB false (((0 : Int) == 0) == decide (many < 20)) || ((0 : Int) == 0) && (last + 1 != IntKind.i64.wrap ((sent.length : Int) + 1))) = false := by rw [u4, decide_eq_true (by omega)]; rfl
            have hone := Ms.one a.m
            refine rn [(44, .ld [iT a.kind, iT a.n, iT a.m.k, iT a.m.f, iT a.m.t, iT a.m.r, iT a.m.s, iT a.m.e, .s a.text]), (47, .dec false), (55, .ret (.t (.c (iT 0)))), (105, .dec true), (111, .spec ⟨.tup [.c (iT (last + 1)), .c (iT 0)], [], [(1, some (.ab (bagX 20 (last + 1) (L ++ [(last + 1, a.m)]))))], []⟩), (116, .ret (.t (.c (iT 0)))), (117, .dec false), (135, .dec false), (137, .dec true), (141, .dec true), (144, .dec true)] rfl (by (repeat' (first | exact trivial | exact rfl | exact trivial | exact fun _ => trivial | first | exact hrd | exact b0 | exact b1 | first | exact hk3 | exact hc | exact sendOk rfl hT.bok hz hm hl | exact v1 | exact hone | exact fun _ => rfl | exact m1 | exact m2 | exact m3 | exact m4 | exact t1 | rfl | decide | refine And.intro ?_ ?_))) ?_
            have hs1 : sent.length + 1 = (sent ++ [a.m]).length := by simp
            have hs2 : on.length + 1 = (on ++ [true]).length := by simp
            have hs3 : app (mcs sent) (a.m).cells = mcs (sent ++ [a.m]) := by rw [app_eq]; exact (fcs_app Ms.cells sent (a.m)).symm
            have hs4 : app (bvs on) [.bool true] = bvs (on ++ [true]) := by simp [app_eq, bvs]
            refine roundEnd ⟨sent ++ [a.m], on ++ [true], L ++ [(last + 1, a.m)], last + 1, many + 1, i + 1, by omega, by omega, hT.add hm hl, by simp; omega⟩ [(2, 6), (3, 8)] (by show acts.length - (i + 1) < acts.length - i; omega) (by (repeat' (first | exact trivial | exact rfl | exact w3 | exact fun _ => w3 | exact u1 | refine And.intro ?_ ?_))) (by (repeat' (first | exact trivial | exact rfl | exact hs1 | exact fun _ => hs1 | first | exact hs2 | exact hs3 | exact hs4 | refine And.intro ?_ ?_))) rfl
          · have hc := wcheck0 a.m
            rw [hm] at hc
            have v1 : (polB false (((220 : Int) == 0) == decide (many < 20)) || ((220 : Int) == 0) && ((0 : Int) != IntKind.i64.wrap ((sent.length : Int) + 1))) = false := by rw [decide_eq_false (by omega)]; rfl
            have v2 : bsE 20 L a.m = 220 := by rw [bsE, if_pos hm, if_pos (by omega)]
            refine rn [(44, .ld [iT a.kind, iT a.n, iT a.m.k, iT a.m.f, iT a.m.t, iT a.m.r, iT a.m.s, iT a.m.e, .s a.text]), (47, .dec false), (55, .ret (.t (.c (iT 0)))), (105, .dec true), (111, .spec ⟨.tup [.c (iT 0), .c (iT 220)], [], [(1, some (.ab (bagX 20 last L)))], []⟩), (116, .ret (.t (.c (iT 0)))), (117, .dec false), (135, .dec false), (137, .dec false)] rfl (by (repeat' (first | exact trivial | exact rfl | exact trivial | exact fun _ => trivial | first | exact hrd | exact b0 | exact b1 | first | exact hk3 | exact hc | exact sendNo rfl hT.bok hz v2 (by decide) | exact v1 | exact fun _ => rfl | exact t1 | rfl | decide | refine And.intro ?_ ?_))) ?_
            refine roundEnd ⟨sent, on, L, last, many, i + 1, by omega, by omega, hT, by omega⟩ [] (by show acts.length - (i + 1) < acts.length - i; omega) (by (repeat' (first | exact trivial | exact rfl | exact w3 | exact fun _ => w3 | refine And.intro ?_ ?_))) (by repeat' (first | exact trivial | exact rfl | refine And.intro ?_ ?_)) rfl
        · have hc := wcheck0 a.m
          have hm2 : mcheck a.m = 210 := by unfold mcheck at *; split at hm <;> simp_all
          rw [hm2] at hc
          have v2 : bsE 20 L a.m = 210 := by rw [bsE, if_neg hm, hm2]
          refine rn [(44, .ld [iT a.kind, iT a.n, iT a.m.k, iT a.m.f, iT a.m.t, iT a.m.r, iT a.m.s, iT a.m.e, .s a.text]), (47, .dec false), (55, .ret (.t (.c (iT 0)))), (105, .dec true), (111, .spec ⟨.tup [.c (iT 0), .c (iT 210)], [], [(1, some (.ab (bagX 20 last L)))], []⟩), (116, .ret (.t (.c (iT 210)))), (117, .dec true), (119, .dec false)] rfl (by (repeat' (first | exact trivial | exact rfl | exact trivial | exact fun _ => trivial | first | exact hrd | exact b0 | exact b1 | first | exact hk3 | exact hc | exact sendNo rfl hT.bok hz v2 (by decide) | exact t1 | rfl | decide | refine And.intro ?_ ?_))) ?_
          refine roundEnd ⟨sent, on, L, last, many, i + 1, by omega, by omega, hT, by omega⟩ [] (by show acts.length - (i + 1) < acts.length - i; omega) (by (repeat' (first | exact trivial | exact rfl | exact w3 | exact fun _ => w3 | refine And.intro ?_ ?_))) (by repeat' (first | exact trivial | exact rfl | refine And.intro ?_ ?_)) rfl
      | 1, _ =>
        rw [show a.kind % 3 = 1 from hke] at hk3
        have g0 : ¬ condB [(160, false, ((sent.length : Int) == 0))] = true := by simp [condB, t2]
        have v0 : (((sent.length : Int) == 0) || !false) = true := by rw [t2]; rfl
        have hc : ∀ (H : HL) (nx : Nat), lookH H 1 = some (true, .ab (bagX 20 last L)) → FnH Try.prog 13 [.c (.nm 1), .c (iT (IntKind.i64.wrap (0 + 1)))] H nx ⟨.tup [msT m0, .c (iT 5)], [], [(1, some (.ab (bagX 20 last L)))], []⟩ := fun H nx h1 => takeNo (k := 1) h1 (by rw [hL0]; rfl)
        refine rn [(44, .ld [iT a.kind, iT a.n, iT a.m.k, iT a.m.f, iT a.m.t, iT a.m.r, iT a.m.s, iT a.m.e, .s a.text]), (47, .dec false), (55, .ret (.t (.c (iT 1)))), (105, .dec false), (148, .dec true), (154, .spec ⟨.tup [msT m0, .c (iT 5)], [], [(1, some (.ab (bagX 20 last L)))], []⟩), (164, .ld [.b false]), (166, .dec true), (168, .dec false)] rfl (by (repeat' (first | exact trivial | exact rfl | exact trivial | exact fun _ => trivial | first | exact hrd | exact b0 | exact b1 | first | exact t1 | exact hk3 | exact hc _ _ rfl | exact v0 | exact fun hc => absurd hc g0 | rfl | decide | refine And.intro ?_ ?_))) ?_
        refine roundEnd ⟨sent, on, L, last, many, i + 1, by omega, by omega, hT, by omega⟩ [] (by show acts.length - (i + 1) < acts.length - i; omega) (by (repeat' (first | exact trivial | exact rfl | exact w3 | exact fun _ => w3 | refine And.intro ?_ ?_))) (by repeat' (first | exact trivial | exact rfl | refine And.intro ?_ ?_)) rfl
      | 2, _ =>
        rw [show a.kind % 3 = 2 from hke] at hk3
        have g0 : ¬ condB [(66, false, ((sent.length : Int) == 0))] = true := by simp [condB, t2]
        have v0 : (((sent.length : Int) == 0) || !false) = true := by rw [t2]; rfl
        have hc : ∀ (H : HL) (nx : Nat), lookH H 1 = some (true, .ab (bagX 20 last L)) → FnH Try.prog 14 [.c (.nm 1), .c (iT (IntKind.i64.wrap (0 + 1)))] H nx ⟨.tup [.c (iT 0), .c (iT 5)], [], [(1, some (.ab (bagX 20 last L)))], []⟩ := fun H nx h1 => againNo (k := 1) h1 hT.bok hz (by rw [hL0]; rfl)
        refine rn [(44, .ld [iT a.kind, iT a.n, iT a.m.k, iT a.m.f, iT a.m.t, iT a.m.r, iT a.m.s, iT a.m.e, .s a.text]), (47, .dec false), (55, .ret (.t (.c (iT 2)))), (105, .dec false), (148, .dec false), (60, .spec ⟨.tup [.c (iT 0), .c (iT 5)], [], [(1, some (.ab (bagX 20 last L)))], []⟩), (70, .ld [.b false]), (72, .dec true), (74, .dec false)] rfl (by (repeat' (first | exact trivial | exact rfl | exact trivial | exact fun _ => trivial | first | exact hrd | exact b0 | exact b1 | first | exact t1 | exact hk3 | exact hc _ _ rfl | exact v0 | exact fun hc => absurd hc g0 | rfl | decide | refine And.intro ?_ ?_))) ?_
        refine roundEnd ⟨sent, on, L, last, many, i + 1, by omega, by omega, hT, by omega⟩ [] (by show acts.length - (i + 1) < acts.length - i; omega) (by (repeat' (first | exact trivial | exact rfl | exact w3 | exact fun _ => w3 | refine And.intro ?_ ?_))) (by repeat' (first | exact trivial | exact rfl | refine And.intro ?_ ?_)) rfl
    · have t1 : decide ((0 : Int) < (sent.length : Int)) = true := decide_eq_true (by omega)
      have t2 : ((sent.length : Int) == 0) = false := by simpa using he
      obtain ⟨k, hk, hke2⟩ := emod_nat a.n (n := sent.length) (by omega)
      have hk2 := amV a.n sent.length (by omega) (by omega)
      rw [hke2] at hk2
      have hk' : k < on.length := by omega
      have w4 : IntKind.i64.wrap ((k : Int) + 1) = (k : Int) + 1 := wrap_sm (by omega) (by omega)
      have c0 : (0 : Int) ≤ (k : Int) := by omega
      have c1 : (k : Int) < (sent.length : Int) := by omega
      have c2 : (k : Int) < (on.length : Int) := by omega
      have c3 : (k : Int).toNat * 1 + 1 ≤ (bvs on).length := by simp [bvs]; omega
      have r1 := mcs_rd hk
      have r2 := bvs_at hk'
      have hg := hT.get k hk hk'
      have hms := hT.ms _ (List.getElem_mem hk)
      have hT1 := fun h => hT.del hk hk' h
      match kd, hkd with
      | 0, _ =>
        rw [show a.kind % 3 = 0 from hke] at hk3
        by_cases hm : mcheck a.m = 0
        · by_cases hl : (L.length : Int) < 20
          · have hc := wcheck0 a.m
            rw [hm] at hc
            have v1 : (polB false (((0 : Int) == 0) == decide (many < 20)) || ((0 : Int) == 0) && (last + 1 != IntKind.i64.wrap ((sent.length : Int) + 1))) = false := by rw [u4, decide_eq_true (by omega)]; rfl
            have hone := Ms.one a.m
            refine rn [(44, .ld [iT a.kind, iT a.n, iT a.m.k, iT a.m.f, iT a.m.t, iT a.m.r, iT a.m.s, iT a.m.e, .s a.text]), (47, .dec true), (52, .ret (.t (.c (iT (k : Nat))))), (55, .ret (.t (.c (iT 0)))), (105, .dec true), (111, .spec ⟨.tup [.c (iT (last + 1)), .c (iT 0)], [], [(1, some (.ab (bagX 20 (last + 1) (L ++ [(last + 1, a.m)]))))], []⟩), (116, .ret (.t (.c (iT 0)))), (117, .dec false), (135, .dec false), (137, .dec true), (141, .dec true), (144, .dec true)] rfl (by (repeat' (first | exact trivial | exact rfl | exact trivial | exact fun _ => trivial | first | exact hrd | exact b0 | exact b1 | first | exact hk3 | exact hc | exact sendOk rfl hT.bok hz hm hl | exact v1 | exact hone | exact fun _ => rfl | exact m1 | exact m2 | exact m3 | exact m4 | first | exact t1 | exact hk2 | rfl | decide | refine And.intro ?_ ?_))) ?_
            have hs1 : sent.length + 1 = (sent ++ [a.m]).length := by simp
            have hs2 : on.length + 1 = (on ++ [true]).length := by simp
            have hs3 : app (mcs sent) (a.m).cells = mcs (sent ++ [a.m]) := by rw [app_eq]; exact (fcs_app Ms.cells sent (a.m)).symm
            have hs4 : app (bvs on) [.bool true] = bvs (on ++ [true]) := by simp [app_eq, bvs]
            refine roundEnd ⟨sent ++ [a.m], on ++ [true], L ++ [(last + 1, a.m)], last + 1, many + 1, i + 1, by omega, by omega, hT.add hm hl, by simp; omega⟩ [(2, 6), (3, 8)] (by show acts.length - (i + 1) < acts.length - i; omega) (by (repeat' (first | exact trivial | exact rfl | exact w3 | exact fun _ => w3 | exact u1 | refine And.intro ?_ ?_))) (by (repeat' (first | exact trivial | exact rfl | exact hs1 | exact fun _ => hs1 | first | exact hs2 | exact hs3 | exact hs4 | refine And.intro ?_ ?_))) rfl
          · have hc := wcheck0 a.m
            rw [hm] at hc
            have v1 : (polB false (((220 : Int) == 0) == decide (many < 20)) || ((220 : Int) == 0) && ((0 : Int) != IntKind.i64.wrap ((sent.length : Int) + 1))) = false := by rw [decide_eq_false (by omega)]; rfl
            have v2 : bsE 20 L a.m = 220 := by rw [bsE, if_pos hm, if_pos (by omega)]
            refine rn [(44, .ld [iT a.kind, iT a.n, iT a.m.k, iT a.m.f, iT a.m.t, iT a.m.r, iT a.m.s, iT a.m.e, .s a.text]), (47, .dec true), (52, .ret (.t (.c (iT (k : Nat))))), (55, .ret (.t (.c (iT 0)))), (105, .dec true), (111, .spec ⟨.tup [.c (iT 0), .c (iT 220)], [], [(1, some (.ab (bagX 20 last L)))], []⟩), (116, .ret (.t (.c (iT 0)))), (117, .dec false), (135, .dec false), (137, .dec false)] rfl (by (repeat' (first | exact trivial | exact rfl | exact trivial | exact fun _ => trivial | first | exact hrd | exact b0 | exact b1 | first | exact hk3 | exact hc | exact sendNo rfl hT.bok hz v2 (by decide) | exact v1 | exact fun _ => rfl | first | exact t1 | exact hk2 | rfl | decide | refine And.intro ?_ ?_))) ?_
            refine roundEnd ⟨sent, on, L, last, many, i + 1, by omega, by omega, hT, by omega⟩ [] (by show acts.length - (i + 1) < acts.length - i; omega) (by (repeat' (first | exact trivial | exact rfl | exact w3 | exact fun _ => w3 | refine And.intro ?_ ?_))) (by repeat' (first | exact trivial | exact rfl | refine And.intro ?_ ?_)) rfl
        · have hc := wcheck0 a.m
          have hm2 : mcheck a.m = 210 := by unfold mcheck at *; split at hm <;> simp_all
          rw [hm2] at hc
          have v2 : bsE 20 L a.m = 210 := by rw [bsE, if_neg hm, hm2]
          refine rn [(44, .ld [iT a.kind, iT a.n, iT a.m.k, iT a.m.f, iT a.m.t, iT a.m.r, iT a.m.s, iT a.m.e, .s a.text]), (47, .dec true), (52, .ret (.t (.c (iT (k : Nat))))), (55, .ret (.t (.c (iT 0)))), (105, .dec true), (111, .spec ⟨.tup [.c (iT 0), .c (iT 210)], [], [(1, some (.ab (bagX 20 last L)))], []⟩), (116, .ret (.t (.c (iT 210)))), (117, .dec true), (119, .dec false)] rfl (by (repeat' (first | exact trivial | exact rfl | exact trivial | exact fun _ => trivial | first | exact hrd | exact b0 | exact b1 | first | exact hk3 | exact hc | exact sendNo rfl hT.bok hz v2 (by decide) | first | exact t1 | exact hk2 | rfl | decide | refine And.intro ?_ ?_))) ?_
          refine roundEnd ⟨sent, on, L, last, many, i + 1, by omega, by omega, hT, by omega⟩ [] (by show acts.length - (i + 1) < acts.length - i; omega) (by (repeat' (first | exact trivial | exact rfl | exact w3 | exact fun _ => w3 | refine And.intro ?_ ?_))) (by repeat' (first | exact trivial | exact rfl | refine And.intro ?_ ?_)) rfl
      | 1, _ =>
        rw [show a.kind % 3 = 1 from hke] at hk3
        generalize sent[k] = m at *
        cases ho : on[k] with
        | true =>
          rw [ho] at hg r2
          rw [if_pos rfl] at hg
          have v0 : (((sent.length : Int) == 0) || !true) = false := by rw [t2]; rfl
          have v3 : (((0 : Int) != 0) || polB false (m.k == m.k && (m.f == m.f && (m.t == m.t && (m.r == m.r && (m.s == m.s && (m.e == m.e && true))))))) = false := by simp [polB]
          have hs1 : on.length = (on.set k false).length := by simp
          have hs2 := set_bvs (x := false) hk'
          have hc : ∀ (H : HL) (nx : Nat), lookH H 1 = some (true, .ab (bagX 20 last L)) → FnH Try.prog 13 [.c (.nm 1), .c (iT (IntKind.i64.wrap ((k : Int) + 1)))] H nx ⟨.tup [msT m, .c (iT 0)], [], [(1, some (.ab (bagX 20 last (gdel ((k : Int) + 1) L))))], []⟩ := fun H nx h1 => by rw [w4]; exact takeOk h1 hg
          refine rn [(44, .ld [iT a.kind, iT a.n, iT a.m.k, iT a.m.f, iT a.m.t, iT a.m.r, iT a.m.s, iT a.m.e, .s a.text]), (47, .dec true), (52, .ret (.t (.c (iT (k : Nat))))), (55, .ret (.t (.c (iT 1)))), (105, .dec false), (148, .dec true), (154, .spec ⟨.tup [msT m, .c (iT 0)], [], [(1, some (.ab (bagX 20 last (gdel ((k : Int) + 1) L))))], []⟩), (164, .ld [.b true]), (166, .dec false), (176, .ld [iT m.k, iT m.f, iT m.t, iT m.r, iT m.s, iT m.e]), (178, .dec false)] rfl (by (repeat' (first | exact trivial | exact rfl | exact trivial | exact fun _ => trivial | first | exact hrd | exact b0 | exact b1 | first | exact t1 | exact hk2 | exact hk3 | exact hc _ _ rfl | exact v0 | exact fun _ => r2 | exact fun _ => ⟨r2, trivial⟩ | exact fun _ => ⟨c0, c2⟩ | exact fun _ => ⟨c0, c1⟩ | exact fun _ => r1 | exact fun _ => Nat.zero_lt_one | exact v3 | exact ⟨c0, c2⟩ | exact c0 | exact c2 | exact c3 | rfl | decide | refine And.intro ?_ ?_))) ?_
          refine roundEnd ⟨sent, on.set k false, gdel ((k : Int) + 1) L, last, many - 1, i + 1, by omega, by omega, hT1 ho, by omega⟩ [] (by show acts.length - (i + 1) < acts.length - i; omega) (by (repeat' (first | exact trivial | exact rfl | exact w3 | exact fun _ => w3 | exact u2 | refine And.intro ?_ ?_))) (by (repeat' (first | exact trivial | exact rfl | exact hs1 | exact fun _ => hs1 | exact hs2 | refine And.intro ?_ ?_))) rfl
        | false =>
          rw [ho] at hg r2
          rw [if_neg (by decide)] at hg
          have v0 : (((sent.length : Int) == 0) || !false) = true := by rw [t2]; rfl
          have hc : ∀ (H : HL) (nx : Nat), lookH H 1 = some (true, .ab (bagX 20 last L)) → FnH Try.prog 13 [.c (.nm 1), .c (iT (IntKind.i64.wrap ((k : Int) + 1)))] H nx ⟨.tup [msT m0, .c (iT 5)], [], [(1, some (.ab (bagX 20 last L)))], []⟩ := fun H nx h1 => by rw [w4]; exact takeNo h1 hg
          refine rn [(44, .ld [iT a.kind, iT a.n, iT a.m.k, iT a.m.f, iT a.m.t, iT a.m.r, iT a.m.s, iT a.m.e, .s a.text]), (47, .dec true), (52, .ret (.t (.c (iT (k : Nat))))), (55, .ret (.t (.c (iT 1)))), (105, .dec false), (148, .dec true), (154, .spec ⟨.tup [msT m0, .c (iT 5)], [], [(1, some (.ab (bagX 20 last L)))], []⟩), (164, .ld [.b false]), (166, .dec true), (168, .dec false)] rfl (by (repeat' (first | exact trivial | exact rfl | exact trivial | exact fun _ => trivial | first | exact hrd | exact b0 | exact b1 | first | exact t1 | exact hk2 | exact hk3 | exact hc _ _ rfl | exact v0 | exact fun _ => r2 | exact fun _ => ⟨r2, trivial⟩ | exact fun _ => ⟨c0, c2⟩ | exact fun _ => Nat.zero_lt_one | rfl | decide | refine And.intro ?_ ?_))) ?_
          refine roundEnd ⟨sent, on, L, last, many, i + 1, by omega, by omega, hT, by omega⟩ [] (by show acts.length - (i + 1) < acts.length - i; omega) (by (repeat' (first | exact trivial | exact rfl | exact w3 | exact fun _ => w3 | refine And.intro ?_ ?_))) (by repeat' (first | exact trivial | exact rfl | refine And.intro ?_ ?_)) rfl
      | 2, _ =>
        rw [show a.kind % 3 = 2 from hke] at hk3
        have hone := Ms.one sent[k]
        generalize sent[k] = m at *
        cases ho : on[k] with
        | true =>
          rw [ho] at hg r2
          rw [if_pos rfl] at hg
          have v0 : (((sent.length : Int) == 0) || !true) = false := by rw [t2]; rfl
          by_cases hl : (L.length : Int) < 20
          · have v1 : (polB false (((0 : Int) == 0) == decide (many < 20)) || ((0 : Int) == 0) && (last + 1 != IntKind.i64.wrap ((sent.length : Int) + 1))) = false := by rw [u4, decide_eq_true (by omega)]; rfl
            have hc : ∀ (H : HL) (nx : Nat), lookH H 1 = some (true, .ab (bagX 20 last L)) → FnH Try.prog 14 [.c (.nm 1), .c (iT (IntKind.i64.wrap ((k : Int) + 1)))] H nx ⟨.tup [.c (iT (last + 1)), .c (iT 0)], [], [(1, some (.ab (bagX 20 (last + 1) (L ++ [(last + 1, m)]))))], []⟩ := fun H nx h1 => by rw [w4]; exact againOk h1 hT.bok hz hg hms hl
            refine rn [(44, .ld [iT a.kind, iT a.n, iT a.m.k, iT a.m.f, iT a.m.t, iT a.m.r, iT a.m.s, iT a.m.e, .s a.text]), (47, .dec true), (52, .ret (.t (.c (iT (k : Nat))))), (55, .ret (.t (.c (iT 2)))), (105, .dec false), (148, .dec false), (60, .spec ⟨.tup [.c (iT (last + 1)), .c (iT 0)], [], [(1, some (.ab (bagX 20 (last + 1) (L ++ [(last + 1, m)]))))], []⟩), (70, .ld [.b true]), (72, .dec false), (90, .dec false), (92, .dec true), (97, .ld [iT m.k, iT m.f, iT m.t, iT m.r, iT m.s, iT m.e]), (98, .dec true), (101, .dec true)] rfl (by (repeat' (first | exact trivial | exact rfl | exact trivial | exact fun _ => trivial | first | exact hrd | exact b0 | exact b1 | first | exact t1 | exact hk2 | exact hk3 | exact hc _ _ rfl | exact v0 | exact v1 | exact hone | exact fun _ => r2 | exact fun _ => ⟨r2, trivial⟩ | exact fun _ => ⟨c0, c2⟩ | exact fun _ => rfl | exact fun _ => Nat.zero_lt_one | exact r1 | exact ⟨c0, c1⟩ | exact c0 | exact c1 | exact m1 | exact m2 | exact m3 | exact m4 | rfl | decide | refine And.intro ?_ ?_))) ?_
            have hs1 : sent.length + 1 = (sent ++ [m]).length := by simp
            have hs2 : on.length + 1 = (on ++ [true]).length := by simp
            have hs3 : app (mcs sent) (m).cells = mcs (sent ++ [m]) := by rw [app_eq]; exact (fcs_app Ms.cells sent (m)).symm
            have hs4 : app (bvs on) [.bool true] = bvs (on ++ [true]) := by simp [app_eq, bvs]
            refine roundEnd ⟨sent ++ [m], on ++ [true], L ++ [(last + 1, m)], last + 1, many + 1, i + 1, by omega, by omega, hT.add hms hl, by simp; omega⟩ [(2, 6), (3, 8)] (by show acts.length - (i + 1) < acts.length - i; omega) (by (repeat' (first | exact trivial | exact rfl | exact w3 | exact fun _ => w3 | exact u1 | refine And.intro ?_ ?_))) (by (repeat' (first | exact trivial | exact rfl | exact hs1 | exact fun _ => hs1 | first | exact hs2 | exact hs3 | exact hs4 | refine And.intro ?_ ?_))) rfl
          · have v1 : (polB false (((220 : Int) == 0) == decide (many < 20)) || ((220 : Int) == 0) && ((0 : Int) != IntKind.i64.wrap ((sent.length : Int) + 1))) = false := by rw [decide_eq_false (by omega)]; rfl
            have hc : ∀ (H : HL) (nx : Nat), lookH H 1 = some (true, .ab (bagX 20 last L)) → FnH Try.prog 14 [.c (.nm 1), .c (iT (IntKind.i64.wrap ((k : Int) + 1)))] H nx ⟨.tup [.c (iT 0), .c (iT 220)], [], [(1, some (.ab (bagX 20 last L)))], []⟩ := fun H nx h1 => by rw [w4]; exact againFull h1 hT.bok hz hg hms (by omega)
            refine rn [(44, .ld [iT a.kind, iT a.n, iT a.m.k, iT a.m.f, iT a.m.t, iT a.m.r, iT a.m.s, iT a.m.e, .s a.text]), (47, .dec true), (52, .ret (.t (.c (iT (k : Nat))))), (55, .ret (.t (.c (iT 2)))), (105, .dec false), (148, .dec false), (60, .spec ⟨.tup [.c (iT 0), .c (iT 220)], [], [(1, some (.ab (bagX 20 last L)))], []⟩), (70, .ld [.b true]), (72, .dec false), (90, .dec false), (92, .dec false)] rfl (by (repeat' (first | exact trivial | exact rfl | exact trivial | exact fun _ => trivial | first | exact hrd | exact b0 | exact b1 | first | exact t1 | exact hk2 | exact hk3 | exact hc _ _ rfl | exact v0 | exact v1 | exact fun _ => r2 | exact fun _ => ⟨r2, trivial⟩ | exact fun _ => ⟨c0, c2⟩ | exact fun _ => rfl | exact fun _ => Nat.zero_lt_one | rfl | decide | refine And.intro ?_ ?_))) ?_
            refine roundEnd ⟨sent, on, L, last, many, i + 1, by omega, by omega, hT, by omega⟩ [] (by show acts.length - (i + 1) < acts.length - i; omega) (by (repeat' (first | exact trivial | exact rfl | exact w3 | exact fun _ => w3 | refine And.intro ?_ ?_))) (by repeat' (first | exact trivial | exact rfl | refine And.intro ?_ ?_)) rfl
        | false =>
          rw [ho] at hg r2
          rw [if_neg (by decide)] at hg
          have v0 : (((sent.length : Int) == 0) || !false) = true := by rw [t2]; rfl
          have hc : ∀ (H : HL) (nx : Nat), lookH H 1 = some (true, .ab (bagX 20 last L)) → FnH Try.prog 14 [.c (.nm 1), .c (iT (IntKind.i64.wrap ((k : Int) + 1)))] H nx ⟨.tup [.c (iT 0), .c (iT 5)], [], [(1, some (.ab (bagX 20 last L)))], []⟩ := fun H nx h1 => by rw [w4]; exact againNo h1 hT.bok hz hg
          refine rn [(44, .ld [iT a.kind, iT a.n, iT a.m.k, iT a.m.f, iT a.m.t, iT a.m.r, iT a.m.s, iT a.m.e, .s a.text]), (47, .dec true), (52, .ret (.t (.c (iT (k : Nat))))), (55, .ret (.t (.c (iT 2)))), (105, .dec false), (148, .dec false), (60, .spec ⟨.tup [.c (iT 0), .c (iT 5)], [], [(1, some (.ab (bagX 20 last L)))], []⟩), (70, .ld [.b false]), (72, .dec true), (74, .dec false)] rfl (by (repeat' (first | exact trivial | exact rfl | exact trivial | exact fun _ => trivial | first | exact hrd | exact b0 | exact b1 | first | exact t1 | exact hk2 | exact hk3 | exact hc _ _ rfl | exact v0 | exact fun _ => r2 | exact fun _ => ⟨r2, trivial⟩ | exact fun _ => ⟨c0, c2⟩ | exact fun _ => Nat.zero_lt_one | rfl | decide | refine And.intro ?_ ?_))) ?_
          refine roundEnd ⟨sent, on, L, last, many, i + 1, by omega, by omega, hT, by omega⟩ [] (by show acts.length - (i + 1) < acts.length - i; omega) (by (repeat' (first | exact trivial | exact rfl | exact w3 | exact fun _ => w3 | refine And.intro ?_ ?_))) (by repeat' (first | exact trivial | exact rfl | refine And.intro ?_ ?_)) rfl
  · have hall := forL_all hT.mc
    have hLl := hT.bok.len
    have v1 : (IntKind.i64.wrap (((forL L 0).length : Int) + ((forL L 1).length : Int)) == many) = true := by
      rw [wrap_sm (by omega) (by omega), hT.mn]
      simp; omega
    refine rn [] rfl (by repeat' (first | exact trivial | exact rfl | refine And.intro ?_ ?_)) (roundExit rfl ?_)
    refine rnA [(185, .spec ⟨.t (.c (.nm 4)), [(true, .own 3 1 (forL L 0).length (ivs (forL L 0)))], [(1, some (.ab (bagX 20 last L)))], []⟩), (188, .spec ⟨.t (.c (.nm 5)), [(true, .own 3 1 (forL L 1).length (ivs (forL L 1)))], [(1, some (.ab (bagX 20 last L)))], []⟩)] rfl (by (repeat' (first | exact trivial | exact rfl | exact trivial | exact fun _ => trivial | first | exact forX rfl hT.bok 0 | exact forX rfl hT.bok 1 | refine And.intro ?_ ?_))) ?_
    exact ret0 tysOk rfl (by (repeat' (first | exact trivial | exact rfl | exact v1 | exact fun _ => v1 | refine And.intro ?_ ?_))) rfl
theorem bagTruth_true (acts : List BAct) (A1 : Option Addr) (c1 : Nat) (w : World) (zl : acts.length ≤ 100000000000000) (h1 : Vc.Rds w A1 acts.length c1 9 (bacells acts)) :
    Calls Try.prog 3 #[.slice A1 acts.length c1] w fun e w' => e = .returned (.bool true) ∧ RowKit.Below w.heap.size w w' := by
  obtain ⟨e, M, v0⟩ := memr1 h1
  have := fnh_law (bagTruth_h acts zl) rfl rfl M
  rw [show ([.c (.nm 0)] : List TV).map (TV.den e) = [e.val 0] from rfl, v0] at this
  exact this
end Cw
