/- The statement DiskFences, by reckoning: the walk. -/
import Derived.Test.YtbbcnkoodmafdaaDisk10
namespace Cw
open Go Vc
open Go.Proofs
set_option maxRecDepth 100000
theorem lk_text {M : List (Int × Value)} {k : Int} {t : ByteArray} (h : mget k M = some (.string t)) (z : Value) : lkV M k z false = (SV.t (.c (.s t))).den e0 := by
  unfold lkV
  rw [h]
  rfl
theorem wait_mem {W : List (Int × Wr)} {node k : Int} (h : k ∈ waitL W node) : ∃ x, (k, x) ∈ W := by
  obtain ⟨p, hp, rfl⟩ := List.mem_map.1 h
  exact ⟨p.2, (List.mem_filter.1 hp).1⟩
theorem wget_of_mem : ∀ {W : List (Int × Wr)} {k : Int} {x : Wr}, (k, x) ∈ W → ∃ y, wget k W = some y
  | (q, y) :: l, k, x, h => by
    unfold wget
    by_cases hq : q = k
    · exact ⟨y, if_pos hq⟩
    · rw [if_neg hq]
      rcases List.mem_cons.1 h with h | h
      · cases h; exact absurd rfl hq
      · exact wget_of_mem h
set_option maxRecDepth 100000 in
set_option maxHeartbeats 16000000 in
theorem diskFences_h (acts : List Act) (zt : ∀ a ∈ acts, a.text.size ≤ 9223372036854775807) (zl : acts.length ≤ 100000000000000) :
    FnH Try.prog 4 [.c (.nm 0)] [(0, some (false, .rd 11 acts.length (acells acts)))] 1 ⟨.t (.c (.b true)), [], [], []⟩ := by
  refine fnR (fn := Try.f4) 208 rfl rfl rfl (args' := [.c (.nm 0)]) (H' := [(0, some (false, .rd 11 acts.length (acells acts)))]) (nx' := 1) (fun e w M => ?_) rfl rfl rfl rfl fun w => ?_
  · obtain ⟨e', M', q1⟩ := slr1 (v := .c (.nm 0)) (SlR.rd rfl) e w M
    exact ⟨e', M', by simp [q1]⟩
  refine rn [(28, .spec ⟨.tup [.c (.nm 1), .c (iT 0)], [(true, .ab (dX (S0 8) [] 0))], [], []⟩), (32, .spec ⟨.t (.c (.b false)), [], [], []⟩), (38, .spec ⟨.t (.c (.b true)), [], [], []⟩)] rfl ?_ ?_
  · repeat' (first | exact trivial | exact rfl | refine And.intro ?_ ?_)
    · exact fun _ => dworks_h
    · exact nilD rfl rfl rfl rfl
    · exact newA (n := 8) (by decide) (by decide)
  refine ⟨fun h => (by cases h), fun _ => ?_⟩
  refine At.ex 1 rfl (dP_st _ _ _) fun b => ?_
  refine rn [] rfl (by repeat' (first | exact trivial | exact rfl | refine And.intro ?_ ?_)) ?_
  have cR : ∀ {H : HL} {nx : Nat} (k : Int), lookH H 1 = some (true, .ab (dP (S0 8) [] 0 b)) → FnH Try.prog 11 [.c (.nm 1), .c (iT k)] H nx ⟨.tup [.c (.s (rdT (S0 8) k)), .c (iT (rdE (S0 8).length k))], [], [(1, some (.ab (dP (S0 8) [] 0 b)))], []⟩ := fun {H} {nx} k h => readA h k
  refine At.unroll ?_
  refine rn [(42, .dec true), (48, .spec ⟨.tup [.c (.s (rdT (S0 8) 0)), .c (iT (rdE (S0 8).length 0))], [], [(1, some (.ab (dP (S0 8) [] 0 b)))], []⟩)] rfl (by (repeat' (first | exact trivial | exact rfl | exact cR 0 rfl | exact fun _ => cR 0 rfl | decide | refine And.intro ?_ ?_))) (nextRound ?_)
  refine rn [(42, .dec true), (48, .spec ⟨.tup [.c (.s (rdT (S0 8) 1)), .c (iT (rdE (S0 8).length 1))], [], [(1, some (.ab (dP (S0 8) [] 0 b)))], []⟩)] rfl (by (repeat' (first | exact trivial | exact rfl | exact cR 1 rfl | exact fun _ => cR 1 rfl | decide | refine And.intro ?_ ?_))) (nextRound ?_)
  refine rn [(42, .dec true), (48, .spec ⟨.tup [.c (.s (rdT (S0 8) 2)), .c (iT (rdE (S0 8).length 2))], [], [(1, some (.ab (dP (S0 8) [] 0 b)))], []⟩)] rfl (by (repeat' (first | exact trivial | exact rfl | exact cR 2 rfl | exact fun _ => cR 2 rfl | decide | refine And.intro ?_ ?_))) (nextRound ?_)
  refine rn [(42, .dec true), (48, .spec ⟨.tup [.c (.s (rdT (S0 8) 3)), .c (iT (rdE (S0 8).length 3))], [], [(1, some (.ab (dP (S0 8) [] 0 b)))], []⟩)] rfl (by (repeat' (first | exact trivial | exact rfl | exact cR 3 rfl | exact fun _ => cR 3 rfl | decide | refine And.intro ?_ ?_))) (nextRound ?_)
  refine rn [(42, .dec true), (48, .spec ⟨.tup [.c (.s (rdT (S0 8) 4)), .c (iT (rdE (S0 8).length 4))], [], [(1, some (.ab (dP (S0 8) [] 0 b)))], []⟩)] rfl (by (repeat' (first | exact trivial | exact rfl | exact cR 4 rfl | exact fun _ => cR 4 rfl | decide | refine And.intro ?_ ?_))) (nextRound ?_)
  refine rn [(42, .dec true), (48, .spec ⟨.tup [.c (.s (rdT (S0 8) 5)), .c (iT (rdE (S0 8).length 5))], [], [(1, some (.ab (dP (S0 8) [] 0 b)))], []⟩)] rfl (by (repeat' (first | exact trivial | exact rfl | exact cR 5 rfl | exact fun _ => cR 5 rfl | decide | refine And.intro ?_ ?_))) (nextRound ?_)
  refine rn [(42, .dec true), (48, .spec ⟨.tup [.c (.s (rdT (S0 8) 6)), .c (iT (rdE (S0 8).length 6))], [], [(1, some (.ab (dP (S0 8) [] 0 b)))], []⟩)] rfl (by (repeat' (first | exact trivial | exact rfl | exact cR 6 rfl | exact fun _ => cR 6 rfl | decide | refine And.intro ?_ ?_))) (nextRound ?_)
  refine rn [(42, .dec true), (48, .spec ⟨.tup [.c (.s (rdT (S0 8) 7)), .c (iT (rdE (S0 8).length 7))], [], [(1, some (.ab (dP (S0 8) [] 0 b)))], []⟩)] rfl (by (repeat' (first | exact trivial | exact rfl | exact cR 7 rfl | exact fun _ => cR 7 rfl | decide | refine And.intro ?_ ?_))) (nextRound ?_)
  refine rn [(42, .dec false)] rfl (by (repeat' (first | exact trivial | exact rfl | exact trivial | exact fun _ => trivial | decide | refine And.intro ?_ ?_))) (nextExit rfl ?_)
  refine rnA [] rfl (by repeat' (first | exact trivial | exact rfl | refine And.intro ?_ ?_)) ?_
  have e8 : S0 8 = [rdT (S0 8) 0, rdT (S0 8) 1, rdT (S0 8) 2, rdT (S0 8) 3, rdT (S0 8) 4, rdT (S0 8) 5, rdT (S0 8) 6, rdT (S0 8) 7] := rfl
  refine At.loop (X := (S : List ByteArray) ×' (W : List (Int × Wr)) ×' (last : Int) ×' (M : List (Int × Value)) ×' (want : List ByteArray) ×' (e0 : Nat) ×' (e1 : Nat) ×' (i : Nat) ×' (i ≤ acts.length ∧ i ≤ 60 ∧ FOk S W last M want e0 e1 ∧ last ≤ i ∧ W.length ≤ i)) 5 (fun s => acts.length - s.2.2.2.2.2.2.2.1)
    (fun s => [(0, .t (.c (.nm 0))), (3, .t (.c (.nm 1))), (5, .t (.c (.p 2 0))), (7, .t (.c (.p 3 0))), (8, .t (.c (.mp 4))), (9, .t (.c (iT (s.2.2.2.2.2.2.2.1 : Nat))))])
    (fun s => [(0, some (false, .rd 11 acts.length (acells acts))), (1, some (true, .ab (dP s.1 s.2.1 s.2.2.1 b))), (2, some (true, .row (svs s.2.2.2.2.1) 37)), (3, some (true, .row (ivs [(s.2.2.2.2.2.1 : Nat), (s.2.2.2.2.2.2.1 : Nat)]) 38)), (4, some (true, .mp s.2.2.2.1))])
    ⟨S0 8, [], 0, [], S0 8, 0, 0, 0, by omega, by omega, FOk.init, by simp, by simp⟩ [] (fun k => wf rfl rfl) (by repeat' (first | exact trivial | exact rfl | refine And.intro ?_ ?_)) (by repeat' (first | exact trivial | exact rfl | refine And.intro ?_ ?_)) rfl fun s => ?_
  obtain ⟨S, W, last, M, want, e0, e1, i, hi1, hi2, hF, hl, hwl⟩ := s
  have hD := hF.dok
  have w3 : IntKind.i64.wrap ((i : Int) + 1) = ((i + 1 : Nat) : Int) := by rw [wrap_sm (by omega) (by omega)]; omega
  refine rn [] rfl (by repeat' (first | exact trivial | exact rfl | refine And.intro ?_ ?_)) ?_
  refine ⟨fun h => ?_, fun h => ?_⟩
  · obtain ⟨q1, q2⟩ := Bool.and_eq_true_iff.1 h
    have hlt : i < acts.length := by have : (i : Int) < (acts.length : Int) := of_decide_eq_true q1; omega
    have hlt6 : i < 60 := by have : (i : Int) < 60 := of_decide_eq_true q2; omega
    clear h q1 q2
    have e1' := acells_rd hlt
    have ht := zt _ (List.getElem_mem hlt)
    generalize acts[i] = a at *
    have b0 : (0 : Int) ≤ (i : Int) := by omega
    have b1 : (i : Int) < (acts.length : Int) := by omega
    have hn : a.node % 2 = 0 ∨ a.node % 2 = 1 := by omega
    have hpl : IntKind.i64.wrap (2 + a.pl % 6) = 2 + a.pl % 6 := wrap_sm (by omega) (by omega)
    refine rn [(67, .ld a.cv), (70, .ret (.t (.c (iT (a.node % 2))))), (73, .ret (.t (.c (iT (a.pl % 6))))), (77, .ret (.t (.c (iT (a.ep % 5))))), (80, .ret (.t (.c (iT (a.kind % 3)))))] rfl (by (repeat' (first | exact trivial | exact rfl | exact e1' | exact fun _ => e1' | first | exact amV _ 2 (by decide) (by decide) | exact amV _ 6 (by decide) (by decide) | exact amV _ 5 (by decide) (by decide) | exact amV _ 3 (by decide) (by decide) | exact b0 | exact b1 | decide | refine And.intro ?_ ?_))) ?_
    have hm0 : 0 ≤ a.ep % 5 ∧ a.ep % 5 < 5 := by omega
    have hp : 2 ≤ IntKind.i64.wrap (2 + a.pl % 6) ∧ IntKind.i64.wrap (2 + a.pl % 6) < 8 := by rw [hpl]; omega
    generalize IntKind.i64.wrap (2 + a.pl % 6) = pl at *
    generalize a.node % 2 = r at *
    generalize a.ep % 5 = ev at *
    obtain ⟨m, rfl⟩ : ∃ m : Nat, ev = (m : Int) := ⟨ev.toNat, by omega⟩
    have hr0 : 0 ≤ r ∧ r < 2 := by omega
    have hrow := en_row e0 e1 hn
    have hps := hF.ps hn (m : Int)
    have z1 := fit_size a.text
    have hft := fit0 a.text ht
    have dfA : True := trivial
    have dfB : True := trivial
    have dfC : True := trivial
    refine ⟨fun h => ?_, fun h => ?_⟩
    · clear h
      have hin : inS 8 pl = true := inS_iff.2 ⟨by omega, by omega⟩
      have he := isuE_ok (node := r) (ep := m) hD ⟨by omega, by omega, by omega, by omega⟩ hin z1 (by omega)
      rw [hps] at he
      by_cases hle : ((en e0 e1 r : Nat) : Int) ≤ (m : Int)
      · rw [decide_eq_true hle, if_pos rfl] at he
        have d1 : polB false (((0 : Int) == 0) == decide (((en e0 e1 r : Nat) : Int) ≤ (m : Int))) = false := by rw [decide_eq_true hle]; rfl
        have hi : inI64 (last + 1) := by have := hD.l0; exact ⟨by omega, by omega⟩
        refine rn [(107, .ret (.t (.c (.s (fit a.text))))), (108, .spec ⟨.tup [.c (iT (last + 1)), .c (iT 0)], [], [(1, some (.ab (dP S (W ++ [(last + 1, ⟨r, m, pl, fit a.text⟩)]) (last + 1) b)))], []⟩), (116, .ld [iT (en e0 e1 r : Nat)]), (119, .dec false), (122, .dec false), (126, .dec false), (128, .dec true), (133, .ret (.t (.c (.s (fit a.text)))))] rfl ?_ ?_
        · repeat' (first | exact trivial | exact rfl | refine And.intro ?_ ?_)
          all_goals first | intro _ | skip
          all_goals first | exact hft | exact issueOk rfl hD (by omega) he | exact hrow.1 | exact ⟨hr0.1, hr0.2⟩ | exact hr0.1 | exact hr0.2 | exact d1 | exact hi.1 | exact hi.2 | rfl | decide
        have hh := hF.isu hn hp he
        refine At.loop (X := (k : Nat) ×' (k ≤ 8)) 5 (fun s => 8 - s.1)
          (fun s => [(0, .t (.c (.nm 0))), (3, .t (.c (.nm 1))), (5, .t (.c (.p 2 0))), (7, .t (.c (.p 3 0))), (8, .t (.c (.mp 4))), (9, .t (.c (iT (i : Nat)))), (185, .t (.c (iT (s.1 : Nat))))])
          (fun s => [(0, some (false, .rd 11 acts.length (acells acts))), (1, some (true, .ab (dP (S) (W ++ [(last + 1, ⟨r, m, pl, fit a.text⟩)]) (last + 1) b))), (2, some (true, .row (svs (want)) 37)), (3, some (true, .row (ivs [(e0 : Nat), (e1 : Nat)]) 38)), (4, some (true, .mp (mput (last + 1) (.string (fit a.text)) M)))]) ⟨0, by omega⟩ [] (fun k => wf rfl rfl) (by repeat' (first | exact trivial | exact rfl | refine And.intro ?_ ?_)) ?_ rfl fun s => ?_
        · (repeat' (first | exact trivial | exact rfl | exact trivial | exact fun _ => trivial | first | exact dfA | exact dfB | exact dfC | refine And.intro ?_ ?_))
        obtain ⟨k, hk⟩ := s
        have w4 : IntKind.i64.wrap ((k : Int) + 1) = ((k + 1 : Nat) : Int) := by rw [wrap_sm (by omega) (by omega)]; omega
        refine rn [] rfl (by repeat' (first | exact trivial | exact rfl | refine And.intro ?_ ?_)) ?_
        refine ⟨fun h => ?_, fun h => ?_⟩
        · have hlk : k < 8 := by have : (k : Int) < 8 := of_decide_eq_true h; omega
          clear h
          have r1 := hh.row hlk
          have kb0 : (0 : Int) ≤ (k : Int) := by omega
          have kb1 : (k : Int) < 8 := by omega
          have r2 := hh.same hlk
          have cR : ∀ {H : HL} {nx : Nat}, lookH H 1 = some (true, .ab (dP (S) (W ++ [(last + 1, ⟨r, m, pl, fit a.text⟩)]) (last + 1) b)) → FnH Try.prog 11 [.c (.nm 1), .c (iT (k : Nat))] H nx ⟨.tup [.c (.s (rdT (S) (k : Nat))), .c (iT 0)], [], [(1, some (.ab (dP (S) (W ++ [(last + 1, ⟨r, m, pl, fit a.text⟩)]) (last + 1) b)))], []⟩ := fun {H} {nx} h => by
            have := readA (nx := nx) h (k : Nat)
            rwa [hh.rdE hlk] at this
          refine rn [(191, .spec ⟨.tup [.c (.s (rdT (S) (k : Nat))), .c (iT 0)], [], [(1, some (.ab (dP (S) (W ++ [(last + 1, ⟨r, m, pl, fit a.text⟩)]) (last + 1) b)))], []⟩), (203, .ld [.s ((want).getD k ⟨#[]⟩)])] rfl ?_ ?_
          · repeat' (first | exact trivial | exact rfl | refine And.intro ?_ ?_)
            all_goals first | intro _ | skip
            all_goals first | exact cR rfl | exact r1 | exact r1.1 | exact ⟨kb0, kb1⟩ | exact kb0 | exact kb1 | rfl | decide
          refine ⟨fun h => ?_, fun h => ?_⟩
          · exfalso
            rcases r2 with r2 | r2
            · subst r2
              simp at h
            · rw [r2] at h
              simp [polB] at h
          · clear h
            refine rn [] rfl (by repeat' (first | exact trivial | exact rfl | refine And.intro ?_ ?_)) ?_
            exact roundEnd ⟨k + 1, by omega⟩ [] (by show 8 - (k + 1) < 8 - k; omega) (by (repeat' (first | exact trivial | exact rfl | exact w4 | exact fun _ => w4 | refine And.intro ?_ ?_))) (by repeat' (first | exact trivial | exact rfl | refine And.intro ?_ ?_)) rfl
        · refine rn [] rfl (by repeat' (first | exact trivial | exact rfl | refine And.intro ?_ ?_)) (roundExit rfl ?_)
          refine rnA [] rfl (by repeat' (first | exact trivial | exact rfl | refine And.intro ?_ ?_)) ?_
          exact roundEnd ⟨S, W ++ [(last + 1, ⟨r, m, pl, fit a.text⟩)], last + 1, mput (last + 1) (.string (fit a.text)) M, want, e0, e1, i + 1, by omega, by omega, hh, by omega, by first | omega | (simp; omega)⟩ [] (by show acts.length - (i + 1) < acts.length - i; omega) (by (repeat' (first | exact trivial | exact rfl | exact w3 | exact fun _ => w3 | refine And.intro ?_ ?_))) (by repeat' (first | exact trivial | exact rfl | refine And.intro ?_ ?_)) rfl
      · rw [decide_eq_false hle, if_neg (by simp)] at he
        have d1 : polB false (((110 : Int) == 0) == decide (((en e0 e1 r : Nat) : Int) ≤ (m : Int))) = false := by rw [decide_eq_false hle]; rfl
        refine rn [(107, .ret (.t (.c (.s (fit a.text))))), (108, .spec ⟨.tup [.c (iT 0), .c (iT 110)], [], [(1, some (.ab (dP S W last b)))], []⟩), (116, .ld [iT (en e0 e1 r : Nat)]), (119, .dec false), (122, .dec true), (126, .dec false), (128, .dec false)] rfl ?_ ?_
        · repeat' (first | exact trivial | exact rfl | refine And.intro ?_ ?_)
          all_goals first | intro _ | skip
          all_goals first | exact hft | exact issueNo rfl hD (by omega) he (by decide) | exact hrow.1 | exact ⟨hr0.1, hr0.2⟩ | exact hr0.1 | exact hr0.2 | exact d1 | rfl | decide
        have hh := hF
        refine At.loop (X := (k : Nat) ×' (k ≤ 8)) 5 (fun s => 8 - s.1)
          (fun s => [(0, .t (.c (.nm 0))), (3, .t (.c (.nm 1))), (5, .t (.c (.p 2 0))), (7, .t (.c (.p 3 0))), (8, .t (.c (.mp 4))), (9, .t (.c (iT (i : Nat)))), (185, .t (.c (iT (s.1 : Nat))))])
          (fun s => [(0, some (false, .rd 11 acts.length (acells acts))), (1, some (true, .ab (dP (S) (W) (last) b))), (2, some (true, .row (svs (want)) 37)), (3, some (true, .row (ivs [(e0 : Nat), (e1 : Nat)]) 38)), (4, some (true, .mp (M)))]) ⟨0, by omega⟩ [] (fun k => wf rfl rfl) (by repeat' (first | exact trivial | exact rfl | refine And.intro ?_ ?_)) ?_ rfl fun s => ?_
        · (repeat' (first | exact trivial | exact rfl | exact trivial | exact fun _ => trivial | first | exact dfA | exact dfB | exact dfC | refine And.intro ?_ ?_))
        obtain ⟨k, hk⟩ := s
        have w4 : IntKind.i64.wrap ((k : Int) + 1) = ((k + 1 : Nat) : Int) := by rw [wrap_sm (by omega) (by omega)]; omega
        refine rn [] rfl (by repeat' (first | exact trivial | exact rfl | refine And.intro ?_ ?_)) ?_
        refine ⟨fun h => ?_, fun h => ?_⟩
        · have hlk : k < 8 := by have : (k : Int) < 8 := of_decide_eq_true h; omega
          clear h
          have r1 := hh.row hlk
          have kb0 : (0 : Int) ≤ (k : Int) := by omega
          have kb1 : (k : Int) < 8 := by omega
          have r2 := hh.same hlk
          have cR : ∀ {H : HL} {nx : Nat}, lookH H 1 = some (true, .ab (dP (S) (W) (last) b)) → FnH Try.prog 11 [.c (.nm 1), .c (iT (k : Nat))] H nx ⟨.tup [.c (.s (rdT (S) (k : Nat))), .c (iT 0)], [], [(1, some (.ab (dP (S) (W) (last) b)))], []⟩ := fun {H} {nx} h => by
            have := readA (nx := nx) h (k : Nat)
            rwa [hh.rdE hlk] at this
          refine rn [(191, .spec ⟨.tup [.c (.s (rdT (S) (k : Nat))), .c (iT 0)], [], [(1, some (.ab (dP (S) (W) (last) b)))], []⟩), (203, .ld [.s ((want).getD k ⟨#[]⟩)])] rfl ?_ ?_
          · repeat' (first | exact trivial | exact rfl | refine And.intro ?_ ?_)
            all_goals first | intro _ | skip
            all_goals first | exact cR rfl | exact r1 | exact r1.1 | exact ⟨kb0, kb1⟩ | exact kb0 | exact kb1 | rfl | decide
          refine ⟨fun h => ?_, fun h => ?_⟩
          · exfalso
            rcases r2 with r2 | r2
            · subst r2
              simp at h
            · rw [r2] at h
              simp [polB] at h
          · clear h
            refine rn [] rfl (by repeat' (first | exact trivial | exact rfl | refine And.intro ?_ ?_)) ?_
            exact roundEnd ⟨k + 1, by omega⟩ [] (by show 8 - (k + 1) < 8 - k; omega) (by (repeat' (first | exact trivial | exact rfl | exact w4 | exact fun _ => w4 | refine And.intro ?_ ?_))) (by repeat' (first | exact trivial | exact rfl | refine And.intro ?_ ?_)) rfl
        · refine rn [] rfl (by repeat' (first | exact trivial | exact rfl | refine And.intro ?_ ?_)) (roundExit rfl ?_)
          refine rnA [] rfl (by repeat' (first | exact trivial | exact rfl | refine And.intro ?_ ?_)) ?_
          exact roundEnd ⟨S, W, last, M, want, e0, e1, i + 1, by omega, by omega, hh, by omega, by first | omega | (simp; omega)⟩ [] (by show acts.length - (i + 1) < acts.length - i; omega) (by (repeat' (first | exact trivial | exact rfl | exact w3 | exact fun _ => w3 | refine And.intro ?_ ?_))) (by repeat' (first | exact trivial | exact rfl | refine And.intro ?_ ?_)) rfl
    · refine rn [] rfl (by repeat' (first | exact trivial | exact rfl | refine And.intro ?_ ?_)) ?_
      refine ⟨fun h => ?_, fun h => ?_⟩
      · clear h
        have hwa := waitL_le W 0
        have hwb := waitL_le W 1
        have hmem : ∀ k ∈ waitL W 0 ++ waitL W 1, ∃ x, wget k W = some x := fun k hk => by
          rcases List.mem_append.1 hk with h | h
          · obtain ⟨x, hx⟩ := wait_mem h; exact wget_of_mem hx
          · obtain ⟨x, hx⟩ := wait_mem h; exact wget_of_mem hx
        have a1 : (waitL W 0).length + (waitL W 1).length ≤ maxLen := by simp [maxLen]; omega
        have a2 : ((waitL W 0).length + (waitL W 1).length) * 8 ≤ 140737488355328 := by omega
        refine rn [(137, .spec ⟨.t (.c (.nm 6)), [(true, .own 3 1 (waitL W 0).length (ivs (waitL W 0)))], [(1, some (.ab (dP S W last b)))], []⟩), (139, .spec ⟨.t (.c (.nm 7)), [(true, .own 3 1 (waitL W 1).length (ivs (waitL W 1)))], [(1, some (.ab (dP S W last b)))], []⟩)] rfl ?_ ?_
        · repeat' (first | exact trivial | exact rfl | refine And.intro ?_ ?_)
          all_goals first | intro _ | skip
          all_goals first | exact waitOk rfl hD (by omega) rfl | exact a1 | exact a2 | exact ivs_1 _ _ | rfl | skip
        refine ⟨fun h => ?_, fun h => ?_⟩
        · clear h
          refine rn [] rfl (by repeat' (first | exact trivial | exact rfl | refine And.intro ?_ ?_)) ?_
          exact roundEnd ⟨S, W, last, M, want, e0, e1, i + 1, by omega, by omega, hF, by omega, by omega⟩ [] (by show acts.length - (i + 1) < acts.length - i; omega) (by (repeat' (first | exact trivial | exact rfl | exact w3 | exact fun _ => w3 | refine And.intro ?_ ?_))) (by repeat' (first | exact trivial | exact rfl | refine And.intro ?_ ?_)) rfl
        · have hne : (waitL W 0).length + (waitL W 1).length ≠ 0 := fun e => by
            have h' : (((((waitL W 0).length + (waitL W 1).length : Nat) : Int)) == 0) = false := h
            rw [e] at h'
            cases h'
          clear h
          obtain ⟨k, hk, hke⟩ := emod_nat a.n (n := (waitL W 0).length + (waitL W 1).length) (by omega)
          have hA := amV a.n ((waitL W 0).length + (waitL W 1).length : Nat) (by omega) (by omega)
          rw [hke] at hA
          have hkl : k < (waitL W 0 ++ waitL W 1).length := by rw [List.length_append]; exact hk
          obtain ⟨x, hx⟩ := hmem _ (List.getElem_mem hkl)
          generalize hq : (waitL W 0 ++ waitL W 1)[k] = q at *
          have hxn := hF.nd _ (wget_mem hx)
          have hxp := hF.ps hxn.1 x.ep
          have hFa := hF.ap hx
          have hxr := en_row e0 e1 hxn.1
          have kb0 : (0 : Int) ≤ (k : Int) := by omega
          have kb1 : (k : Int) < (((waitL W 0).length + (waitL W 1).length : Nat) : Int) := by omega
          have xb : 0 ≤ x.node ∧ x.node < 2 := by have := hxn.1; simp only at this; omega
          have cB : ∀ {H : HL} {nx : Nat}, lookH H 1 = some (true, .ab (dP S W last b)) → FnH Try.prog 15 [.c (.nm 1), .c (iT q)] H nx ⟨.tup [.c (iT x.node), .c (iT x.ep), .c (iT x.pl), .c (iT 0)], [], [(1, some (.ab (dP S W last b)))], []⟩ := fun {H} {nx} h => by
            have := aboutA (nx := nx) h q
            rwa [show abW W q = x by simp [abW, hx], show drE W q = 0 by simp [drE, hx]] at this
          have cA : ∀ {H : HL} {nx : Nat}, lookH H 1 = some (true, .ab (dP S W last b)) → FnH Try.prog 16 [.c (.nm 1), .c (iT q)] H nx ⟨.tup [.c (.b (psD (s1 S) x.node x.ep)), .c (iT 0)], [], [(1, some (.ab (dP (apS S W q) (wdel q W) last b)))], []⟩ := fun {H} {nx} h => by
            have := applyOk (nx := nx) h hD hx
            rwa [show apB S W q = psD (s1 S) x.node x.ep by simp [apB, hx]] at this
          have d1 : polB false (psD (s1 S) x.node x.ep == decide (((en e0 e1 x.node : Nat) : Int) ≤ x.ep)) = false := by rw [hxp]; simp [polB]
          have e2 : (app (ivs (waitL W 0)) (ivs (waitL W 1)))[(k : Int).toNat * 1]? = some (.int .i64 q) := by
            rw [app_eq, ← ivsApp, Int.toNat_natCast, Nat.mul_one, ivs_at hkl, hq]
          have dl : (wdel q W).length ≤ W.length := by have := (wdel_fst_sub q W).length_le; simpa using this
          refine rn [(149, .ret (.t (.c (iT (k : Nat))))), (151, .ld [iT q]), (155, .spec ⟨.tup [.c (iT x.node), .c (iT x.ep), .c (iT x.pl), .c (iT 0)], [], [(1, some (.ab (dP S W last b)))], []⟩), (161, .dec false), (165, .spec ⟨.tup [.c (.b (psD (s1 S) x.node x.ep)), .c (iT 0)], [], [(1, some (.ab (dP (apS S W q) (wdel q W) last b)))], []⟩), (170, .dec false), (175, .ld [iT (en e0 e1 x.node : Nat)]), (178, .dec false)] rfl ?_ ?_
          · repeat' (first | exact trivial | exact rfl | refine And.intro ?_ ?_)
            all_goals first | intro _ | skip
            all_goals first | exact hA | exact cB rfl | exact cA rfl | exact hxr | exact hxr.1 | exact xb | exact xb.1 | exact xb.2 | exact d1 | exact kb0 | exact kb1 | exact e2 | rfl | decide
          refine ⟨fun h => ?_, fun h => ?_⟩
          · have h' : psD (s1 S) x.node x.ep = true := h
            rw [h', if_pos rfl] at hFa
            have hlk := lk_text (hF.tx _ (wget_mem hx)) (.string ⟨#[]⟩)
            have p0 : 0 ≤ x.pl := by have := hxn.2; simp only at this; omega
            have p1 : x.pl < 8 := by have := hxn.2; simp only at this; omega
            have hwl' := hF.wl
            have hsl : (svs want).length = want.length := svs_length want
            have p2 : 0 + x.pl.toNat * 1 + 1 ≤ (svs want).length := by omega
            have dfA : Vc.setAt (svs want) (0 + x.pl.toNat * 1) [Value.string x.s] = svs (want.set x.pl.toNat x.s) := by
              rw [Nat.zero_add]; exact set_svs (by omega)
            refine rn [(183, .ret (.t (.c (.s x.s))))] rfl ?_ ?_
            · repeat' (first | exact trivial | exact rfl | refine And.intro ?_ ?_)
              all_goals first | intro _ | skip
              all_goals first | exact hlk | exact ⟨p0, p1⟩ | exact p0 | exact p1 | exact p2 | rfl | decide
            have hh := hFa
            refine At.loop (X := (k : Nat) ×' (k ≤ 8)) 5 (fun s => 8 - s.1)
              (fun s => [(0, .t (.c (.nm 0))), (3, .t (.c (.nm 1))), (5, .t (.c (.p 2 0))), (7, .t (.c (.p 3 0))), (8, .t (.c (.mp 4))), (9, .t (.c (iT (i : Nat)))), (185, .t (.c (iT (s.1 : Nat))))])
              (fun s => [(0, some (false, .rd 11 acts.length (acells acts))), (1, some (true, .ab (dP (apS S W q) (wdel q W) (last) b))), (2, some (true, .row (svs (want.set x.pl.toNat x.s)) 37)), (3, some (true, .row (ivs [(e0 : Nat), (e1 : Nat)]) 38)), (4, some (true, .mp (M)))]) ⟨0, by omega⟩ [] (fun k => wf rfl rfl) (by repeat' (first | exact trivial | exact rfl | refine And.intro ?_ ?_)) ?_ rfl fun s => ?_
            · (repeat' (first | exact trivial | exact rfl | exact trivial | exact fun _ => trivial | first | exact dfA | exact dfB | exact dfC | refine And.intro ?_ ?_))
            obtain ⟨k, hk⟩ := s
            have w4 : IntKind.i64.wrap ((k : Int) + 1) = ((k + 1 : Nat) : Int) := by rw [wrap_sm (by omega) (by omega)]; omega
            refine rn [] rfl (by repeat' (first | exact trivial | exact rfl | refine And.intro ?_ ?_)) ?_
            refine ⟨fun h => ?_, fun h => ?_⟩
            · have hlk : k < 8 := by have : (k : Int) < 8 := of_decide_eq_true h; omega
              clear h
              have r1 := hh.row hlk
              have kb0 : (0 : Int) ≤ (k : Int) := by omega
              have kb1 : (k : Int) < 8 := by omega
              have r2 := hh.same hlk
              have cR : ∀ {H : HL} {nx : Nat}, lookH H 1 = some (true, .ab (dP (apS S W q) (wdel q W) (last) b)) → FnH Try.prog 11 [.c (.nm 1), .c (iT (k : Nat))] H nx ⟨.tup [.c (.s (rdT (apS S W q) (k : Nat))), .c (iT 0)], [], [(1, some (.ab (dP (apS S W q) (wdel q W) (last) b)))], []⟩ := fun {H} {nx} h => by
                have := readA (nx := nx) h (k : Nat)
                rwa [hh.rdE hlk] at this
              refine rn [(191, .spec ⟨.tup [.c (.s (rdT (apS S W q) (k : Nat))), .c (iT 0)], [], [(1, some (.ab (dP (apS S W q) (wdel q W) (last) b)))], []⟩), (203, .ld [.s ((want.set x.pl.toNat x.s).getD k ⟨#[]⟩)])] rfl ?_ ?_
              · repeat' (first | exact trivial | exact rfl | refine And.intro ?_ ?_)
                all_goals first | intro _ | skip
                all_goals first | exact cR rfl | exact r1 | exact r1.1 | exact ⟨kb0, kb1⟩ | exact kb0 | exact kb1 | rfl | decide
              refine ⟨fun h => ?_, fun h => ?_⟩
              · exfalso
                rcases r2 with r2 | r2
                · subst r2
                  simp at h
                · rw [r2] at h
                  simp [polB] at h
              · clear h
                refine rn [] rfl (by repeat' (first | exact trivial | exact rfl | refine And.intro ?_ ?_)) ?_
                exact roundEnd ⟨k + 1, by omega⟩ [] (by show 8 - (k + 1) < 8 - k; omega) (by (repeat' (first | exact trivial | exact rfl | exact w4 | exact fun _ => w4 | refine And.intro ?_ ?_))) (by repeat' (first | exact trivial | exact rfl | refine And.intro ?_ ?_)) rfl
            · refine rn [] rfl (by repeat' (first | exact trivial | exact rfl | refine And.intro ?_ ?_)) (roundExit rfl ?_)
              refine rnA [] rfl (by repeat' (first | exact trivial | exact rfl | refine And.intro ?_ ?_)) ?_
              exact roundEnd ⟨apS S W q, wdel q W, last, M, want.set x.pl.toNat x.s, e0, e1, i + 1, by omega, by omega, hh, by omega, by first | omega | (simp; omega)⟩ [] (by show acts.length - (i + 1) < acts.length - i; omega) (by (repeat' (first | exact trivial | exact rfl | exact w3 | exact fun _ => w3 | refine And.intro ?_ ?_))) (by repeat' (first | exact trivial | exact rfl | refine And.intro ?_ ?_)) rfl
          · have h' : psD (s1 S) x.node x.ep = false := h
            rw [h'] at hFa
            simp only [Bool.false_eq_true, if_false] at hFa
            refine rn [] rfl (by repeat' (first | exact trivial | exact rfl | refine And.intro ?_ ?_)) ?_
            have hh := hFa
            refine At.loop (X := (k : Nat) ×' (k ≤ 8)) 5 (fun s => 8 - s.1)
              (fun s => [(0, .t (.c (.nm 0))), (3, .t (.c (.nm 1))), (5, .t (.c (.p 2 0))), (7, .t (.c (.p 3 0))), (8, .t (.c (.mp 4))), (9, .t (.c (iT (i : Nat)))), (185, .t (.c (iT (s.1 : Nat))))])
              (fun s => [(0, some (false, .rd 11 acts.length (acells acts))), (1, some (true, .ab (dP (apS S W q) (wdel q W) (last) b))), (2, some (true, .row (svs (want)) 37)), (3, some (true, .row (ivs [(e0 : Nat), (e1 : Nat)]) 38)), (4, some (true, .mp (M)))]) ⟨0, by omega⟩ [] (fun k => wf rfl rfl) (by repeat' (first | exact trivial | exact rfl | refine And.intro ?_ ?_)) ?_ rfl fun s => ?_
            · (repeat' (first | exact trivial | exact rfl | exact trivial | exact fun _ => trivial | first | exact dfA | exact dfB | exact dfC | refine And.intro ?_ ?_))
            obtain ⟨k, hk⟩ := s
            have w4 : IntKind.i64.wrap ((k : Int) + 1) = ((k + 1 : Nat) : Int) := by rw [wrap_sm (by omega) (by omega)]; omega
            refine rn [] rfl (by repeat' (first | exact trivial | exact rfl | refine And.intro ?_ ?_)) ?_
            refine ⟨fun h => ?_, fun h => ?_⟩
            · have hlk : k < 8 := by have : (k : Int) < 8 := of_decide_eq_true h; omega
              clear h
              have r1 := hh.row hlk
              have kb0 : (0 : Int) ≤ (k : Int) := by omega
              have kb1 : (k : Int) < 8 := by omega
              have r2 := hh.same hlk
              have cR : ∀ {H : HL} {nx : Nat}, lookH H 1 = some (true, .ab (dP (apS S W q) (wdel q W) (last) b)) → FnH Try.prog 11 [.c (.nm 1), .c (iT (k : Nat))] H nx ⟨.tup [.c (.s (rdT (apS S W q) (k : Nat))), .c (iT 0)], [], [(1, some (.ab (dP (apS S W q) (wdel q W) (last) b)))], []⟩ := fun {H} {nx} h => by
                have := readA (nx := nx) h (k : Nat)
                rwa [hh.rdE hlk] at this
              refine rn [(191, .spec ⟨.tup [.c (.s (rdT (apS S W q) (k : Nat))), .c (iT 0)], [], [(1, some (.ab (dP (apS S W q) (wdel q W) (last) b)))], []⟩), (203, .ld [.s ((want).getD k ⟨#[]⟩)])] rfl ?_ ?_
              · repeat' (first | exact trivial | exact rfl | refine And.intro ?_ ?_)
                all_goals first | intro _ | skip
                all_goals first | exact cR rfl | exact r1 | exact r1.1 | exact ⟨kb0, kb1⟩ | exact kb0 | exact kb1 | rfl | decide
              refine ⟨fun h => ?_, fun h => ?_⟩
              · exfalso
                rcases r2 with r2 | r2
                · subst r2
                  simp at h
                · rw [r2] at h
                  simp [polB] at h
              · clear h
                refine rn [] rfl (by repeat' (first | exact trivial | exact rfl | refine And.intro ?_ ?_)) ?_
                exact roundEnd ⟨k + 1, by omega⟩ [] (by show 8 - (k + 1) < 8 - k; omega) (by (repeat' (first | exact trivial | exact rfl | exact w4 | exact fun _ => w4 | refine And.intro ?_ ?_))) (by repeat' (first | exact trivial | exact rfl | refine And.intro ?_ ?_)) rfl
            · refine rn [] rfl (by repeat' (first | exact trivial | exact rfl | refine And.intro ?_ ?_)) (roundExit rfl ?_)
              refine rnA [] rfl (by repeat' (first | exact trivial | exact rfl | refine And.intro ?_ ?_)) ?_
              exact roundEnd ⟨apS S W q, wdel q W, last, M, want, e0, e1, i + 1, by omega, by omega, hh, by omega, by first | omega | (simp; omega)⟩ [] (by show acts.length - (i + 1) < acts.length - i; omega) (by (repeat' (first | exact trivial | exact rfl | exact w3 | exact fun _ => w3 | refine And.intro ?_ ?_))) (by repeat' (first | exact trivial | exact rfl | refine And.intro ?_ ?_)) rfl
      · clear h
        have cRs : ∀ {H : HL} {nx : Nat}, lookH H 1 = some (true, .ab (dP S W last b)) → FnH Try.prog 17 [.c (.nm 1), .c (iT r), .c (iT (m : Nat))] H nx ⟨.t (.c (iT (rsE S r m))), [], [(1, some (.ab (dP (rsS S r m) W last b)))], []⟩ := fun {H} {nx} h => raiseD h hD r m
        by_cases hle : ((en e0 e1 r : Nat) : Int) ≤ (m : Int)
        · obtain ⟨g1, g2⟩ := hF.rs hn (by omega) hle
          rw [g1] at cRs
          have d1 : polB false (((0 : Int) == 0) == decide (((en e0 e1 r : Nat) : Int) ≤ (m : Int))) = false := by rw [decide_eq_true hle]; rfl
          have dfB : Vc.setAt (ivs [(e0 : Int), (e1 : Int)]) (0 + r.toNat * 1) [Value.int .i64 m] = ivs [((if r = 0 then m else e0 : Nat) : Int), ((if r = 0 then e1 else m : Nat) : Int)] := by
            rcases hn with h | h <;> subst h <;> rfl
          have hb2 : 0 + r.toNat * 1 + 1 ≤ (ivs [(e0 : Int), (e1 : Int)]).length := by show _ ≤ 2; omega
          refine rn [(84, .spec ⟨.t (.c (iT 0)), [], [(1, some (.ab (dP (rsS S r m) W last b)))], []⟩), (90, .ld [iT (en e0 e1 r : Nat)]), (92, .dec false), (94, .dec true)] rfl ?_ ?_
          · repeat' (first | exact trivial | exact rfl | refine And.intro ?_ ?_)
            all_goals first | intro _ | skip
            all_goals first | exact cRs rfl | exact hrow.1 | exact ⟨hr0.1, hr0.2⟩ | exact hr0.1 | exact hr0.2 | exact d1 | exact hb2 | rfl | decide
          have hh := g2
          refine At.loop (X := (k : Nat) ×' (k ≤ 8)) 5 (fun s => 8 - s.1)
            (fun s => [(0, .t (.c (.nm 0))), (3, .t (.c (.nm 1))), (5, .t (.c (.p 2 0))), (7, .t (.c (.p 3 0))), (8, .t (.c (.mp 4))), (9, .t (.c (iT (i : Nat)))), (185, .t (.c (iT (s.1 : Nat))))])
            (fun s => [(0, some (false, .rd 11 acts.length (acells acts))), (1, some (true, .ab (dP (rsS S r m) (W) (last) b))), (2, some (true, .row (svs (want)) 37)), (3, some (true, .row (ivs [((if r = 0 then m else e0) : Nat), ((if r = 0 then e1 else m) : Nat)]) 38)), (4, some (true, .mp (M)))]) ⟨0, by omega⟩ [] (fun k => wf rfl rfl) (by repeat' (first | exact trivial | exact rfl | refine And.intro ?_ ?_)) ?_ rfl fun s => ?_
          · (repeat' (first | exact trivial | exact rfl | exact trivial | exact fun _ => trivial | first | exact dfA | exact dfB | exact dfC | refine And.intro ?_ ?_))
          obtain ⟨k, hk⟩ := s
          have w4 : IntKind.i64.wrap ((k : Int) + 1) = ((k + 1 : Nat) : Int) := by rw [wrap_sm (by omega) (by omega)]; omega
          refine rn [] rfl (by repeat' (first | exact trivial | exact rfl | refine And.intro ?_ ?_)) ?_
          refine ⟨fun h => ?_, fun h => ?_⟩
          · have hlk : k < 8 := by have : (k : Int) < 8 := of_decide_eq_true h; omega
            clear h
            have r1 := hh.row hlk
            have kb0 : (0 : Int) ≤ (k : Int) := by omega
            have kb1 : (k : Int) < 8 := by omega
            have r2 := hh.same hlk
            have cR : ∀ {H : HL} {nx : Nat}, lookH H 1 = some (true, .ab (dP (rsS S r m) (W) (last) b)) → FnH Try.prog 11 [.c (.nm 1), .c (iT (k : Nat))] H nx ⟨.tup [.c (.s (rdT (rsS S r m) (k : Nat))), .c (iT 0)], [], [(1, some (.ab (dP (rsS S r m) (W) (last) b)))], []⟩ := fun {H} {nx} h => by
              have := readA (nx := nx) h (k : Nat)
              rwa [hh.rdE hlk] at this
            refine rn [(191, .spec ⟨.tup [.c (.s (rdT (rsS S r m) (k : Nat))), .c (iT 0)], [], [(1, some (.ab (dP (rsS S r m) (W) (last) b)))], []⟩), (203, .ld [.s ((want).getD k ⟨#[]⟩)])] rfl ?_ ?_
            · repeat' (first | exact trivial | exact rfl | refine And.intro ?_ ?_)
              all_goals first | intro _ | skip
              all_goals first | exact cR rfl | exact r1 | exact r1.1 | exact ⟨kb0, kb1⟩ | exact kb0 | exact kb1 | rfl | decide
            refine ⟨fun h => ?_, fun h => ?_⟩
            · exfalso
              rcases r2 with r2 | r2
              · subst r2
                simp at h
              · rw [r2] at h
                simp [polB] at h
            · clear h
              refine rn [] rfl (by repeat' (first | exact trivial | exact rfl | refine And.intro ?_ ?_)) ?_
              exact roundEnd ⟨k + 1, by omega⟩ [] (by show 8 - (k + 1) < 8 - k; omega) (by (repeat' (first | exact trivial | exact rfl | exact w4 | exact fun _ => w4 | refine And.intro ?_ ?_))) (by repeat' (first | exact trivial | exact rfl | refine And.intro ?_ ?_)) rfl
          · refine rn [] rfl (by repeat' (first | exact trivial | exact rfl | refine And.intro ?_ ?_)) (roundExit rfl ?_)
            refine rnA [] rfl (by repeat' (first | exact trivial | exact rfl | refine And.intro ?_ ?_)) ?_
            exact roundEnd ⟨rsS S r m, W, last, M, want, (if r = 0 then m else e0), (if r = 0 then e1 else m), i + 1, by omega, by omega, hh, by omega, by first | omega | (simp; omega)⟩ [] (by show acts.length - (i + 1) < acts.length - i; omega) (by (repeat' (first | exact trivial | exact rfl | exact w3 | exact fun _ => w3 | refine And.intro ?_ ?_))) (by repeat' (first | exact trivial | exact rfl | refine And.intro ?_ ?_)) rfl
        · obtain ⟨g1, g2⟩ := hF.rsNo hn (by omega) hle
          rw [g1, g2] at cRs
          have d1 : polB false (((1 : Int) == 0) == decide (((en e0 e1 r : Nat) : Int) ≤ (m : Int))) = false := by rw [decide_eq_false hle]; rfl
          refine rn [(84, .spec ⟨.t (.c (iT 1)), [], [(1, some (.ab (dP S W last b)))], []⟩), (90, .ld [iT (en e0 e1 r : Nat)]), (92, .dec false), (94, .dec false)] rfl ?_ ?_
          · repeat' (first | exact trivial | exact rfl | refine And.intro ?_ ?_)
            all_goals first | intro _ | skip
            all_goals first | exact cRs rfl | exact hrow.1 | exact ⟨hr0.1, hr0.2⟩ | exact hr0.1 | exact hr0.2 | exact d1 | rfl | decide
          have hh := hF
          refine At.loop (X := (k : Nat) ×' (k ≤ 8)) 5 (fun s => 8 - s.1)
            (fun s => [(0, .t (.c (.nm 0))), (3, .t (.c (.nm 1))), (5, .t (.c (.p 2 0))), (7, .t (.c (.p 3 0))), (8, .t (.c (.mp 4))), (9, .t (.c (iT (i : Nat)))), (185, .t (.c (iT (s.1 : Nat))))])
            (fun s => [(0, some (false, .rd 11 acts.length (acells acts))), (1, some (true, .ab (dP (S) (W) (last) b))), (2, some (true, .row (svs (want)) 37)), (3, some (true, .row (ivs [(e0 : Nat), (e1 : Nat)]) 38)), (4, some (true, .mp (M)))]) ⟨0, by omega⟩ [] (fun k => wf rfl rfl) (by repeat' (first | exact trivial | exact rfl | refine And.intro ?_ ?_)) ?_ rfl fun s => ?_
          · (repeat' (first | exact trivial | exact rfl | exact trivial | exact fun _ => trivial | first | exact dfA | exact dfB | exact dfC | refine And.intro ?_ ?_))
          obtain ⟨k, hk⟩ := s
          have w4 : IntKind.i64.wrap ((k : Int) + 1) = ((k + 1 : Nat) : Int) := by rw [wrap_sm (by omega) (by omega)]; omega
          refine rn [] rfl (by repeat' (first | exact trivial | exact rfl | refine And.intro ?_ ?_)) ?_
          refine ⟨fun h => ?_, fun h => ?_⟩
          · have hlk : k < 8 := by have : (k : Int) < 8 := of_decide_eq_true h; omega
            clear h
            have r1 := hh.row hlk
            have kb0 : (0 : Int) ≤ (k : Int) := by omega
            have kb1 : (k : Int) < 8 := by omega
            have r2 := hh.same hlk
            have cR : ∀ {H : HL} {nx : Nat}, lookH H 1 = some (true, .ab (dP (S) (W) (last) b)) → FnH Try.prog 11 [.c (.nm 1), .c (iT (k : Nat))] H nx ⟨.tup [.c (.s (rdT (S) (k : Nat))), .c (iT 0)], [], [(1, some (.ab (dP (S) (W) (last) b)))], []⟩ := fun {H} {nx} h => by
              have := readA (nx := nx) h (k : Nat)
              rwa [hh.rdE hlk] at this
            refine rn [(191, .spec ⟨.tup [.c (.s (rdT (S) (k : Nat))), .c (iT 0)], [], [(1, some (.ab (dP (S) (W) (last) b)))], []⟩), (203, .ld [.s ((want).getD k ⟨#[]⟩)])] rfl ?_ ?_
            · repeat' (first | exact trivial | exact rfl | refine And.intro ?_ ?_)
              all_goals first | intro _ | skip
              all_goals first | exact cR rfl | exact r1 | exact r1.1 | exact ⟨kb0, kb1⟩ | exact kb0 | exact kb1 | rfl | decide
            refine ⟨fun h => ?_, fun h => ?_⟩
            · exfalso
              rcases r2 with r2 | r2
              · subst r2
                simp at h
              · rw [r2] at h
                simp [polB] at h
            · clear h
              refine rn [] rfl (by repeat' (first | exact trivial | exact rfl | refine And.intro ?_ ?_)) ?_
              exact roundEnd ⟨k + 1, by omega⟩ [] (by show 8 - (k + 1) < 8 - k; omega) (by (repeat' (first | exact trivial | exact rfl | exact w4 | exact fun _ => w4 | refine And.intro ?_ ?_))) (by repeat' (first | exact trivial | exact rfl | refine And.intro ?_ ?_)) rfl
          · refine rn [] rfl (by repeat' (first | exact trivial | exact rfl | refine And.intro ?_ ?_)) (roundExit rfl ?_)
            refine rnA [] rfl (by repeat' (first | exact trivial | exact rfl | refine And.intro ?_ ?_)) ?_
            exact roundEnd ⟨S, W, last, M, want, e0, e1, i + 1, by omega, by omega, hh, by omega, by first | omega | (simp; omega)⟩ [] (by show acts.length - (i + 1) < acts.length - i; omega) (by (repeat' (first | exact trivial | exact rfl | exact w3 | exact fun _ => w3 | refine And.intro ?_ ?_))) (by repeat' (first | exact trivial | exact rfl | refine And.intro ?_ ?_)) rfl
  · refine rn [] rfl (by repeat' (first | exact trivial | exact rfl | refine And.intro ?_ ?_)) (roundExit rfl ?_)
    refine rnA [] rfl (by repeat' (first | exact trivial | exact rfl | refine And.intro ?_ ?_)) ?_
    exact ret0 tysOk rfl (by repeat' (first | exact trivial | exact rfl | refine And.intro ?_ ?_)) rfl
theorem diskFences_true (acts : List Act) (A1 : Option Addr) (c1 : Nat) (w : World) (zt : ∀ a ∈ acts, a.text.size ≤ 9223372036854775807) (zl : acts.length ≤ 100000000000000) (h1 : Vc.Rds w A1 acts.length c1 11 (acells acts)) :
    Calls Try.prog 4 #[.slice A1 acts.length c1] w fun e w' => e = .returned (.bool true) ∧ RowKit.Below w.heap.size w w' := by
  obtain ⟨e, M, v0⟩ := memr1 h1
  have := fnh_law (diskFences_h acts zt zl) rfl rfl M
  rw [show ([.c (.nm 0)] : List TV).map (TV.den e) = [e.val 0] from rfl, v0] at this
  exact this
end Cw
