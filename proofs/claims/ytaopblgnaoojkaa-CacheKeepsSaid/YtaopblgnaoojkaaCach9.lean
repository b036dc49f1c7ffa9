/- The statement CacheKeeps, by reckoning. -/
import Derived.Test.YtaopblgnaoojkaaCach8
namespace Cw
open Go Vc
open Go.Proofs
set_option maxRecDepth 100000
theorem cl_up {room n : Int} {L : List (Int × Bd)} : ∀ v F w, cl room n L v F w → cl room (n + 1) L v F w := fun v F w ⟨k, hk⟩ => ⟨⟨k.1, k.2.up⟩, hk⟩
abbrev KZ (rm n : Int) := (x : List ByteArray × List Bool × List Int × List (Int × Bd)) ×' (KOk x.1 x.2.1 x.2.2.1 x.2.2.2 ∧ LOk n rm x.2.2.2)
set_option maxRecDepth 100000 in
set_option maxHeartbeats 8000000 in
theorem cacheKeeps_h (x0 : Int) (acts : List CAct) (z : acts.length ≤ 100000000000000) (ht : ∀ a ∈ acts, a.text.size ≤ maxLen) : FnH Try.prog 4 [.c (iT x0), .c (.nm 0)] [(0, some (false, .rd 6 acts.length (cacells acts)))] 1 ⟨.t (.c (.b true)), [], [], []⟩ := by
  refine fnR (fn := Try.f4) 233 rfl rfl rfl (args' := [.c (iT x0), .c (.nm 0)]) (H' := [(0, some (false, .rd 6 acts.length (cacells acts)))]) (nx' := 1) (fun e w M => ⟨_, mem_rd (fun n => n) (H' := [(0, some (false, .rd 6 acts.length (cacells acts)))]) ⟨⟨false, rfl⟩, trivial⟩ M, rfl⟩) rfl rfl rfl rfl fun w => ?_
  have am8 := amV x0 8 (by decide) (by decide)
  have hr0 : 0 ≤ x0 % 8 ∧ x0 % 8 < 8 := ⟨Int.emod_nonneg _ (by decide), Int.emod_lt_of_pos _ (by decide)⟩
  generalize x0 % 8 = x1 at *
  have w0 : IntKind.i64.wrap (1 + x1) = 1 + x1 := wrap_small (by omega) (by omega)
  obtain ⟨rm, hrm⟩ : ∃ rm, 1 + x1 = rm := ⟨_, rfl⟩
  rw [hrm] at w0
  have hr1 : 1 ≤ rm ∧ rm ≤ 256 := by omega
  have hnew : ∀ (H : HL) (nx : Nat), FnH Try.prog 6 [.c (iT (IntKind.i64.wrap (1 + x1)))] H nx ⟨.tup [.c (.nm nx), .c (iT 0)], [(true, .ab (cl rm 0 []))], [], []⟩ := fun H nx => by rw [hrm, w0]; exact cnewL hr1.1 hr1.2
  refine rn [(20, .ret (.t (.c (iT x1)))), (24, .spec ⟨.tup [.c (.nm 1), .c (iT 0)], [(true, .ab (cl rm 0 []))], [], []⟩), (28, .spec ⟨.t (.c (.b false)), [], [], []⟩), (29, .dec false), (33, .dec false), (34, .spec ⟨.t (.c (.b true)), [], [], []⟩), (36, .dec false)] rfl (by (repeat' (first | exact trivial | exact rfl | exact am8 | exact fun _ => am8 | first | exact hnew _ _ | exact nilC rfl rfl rfl rfl | exact cworks_h | refine And.intro ?_ ?_))) ?_
  refine At.loop (X := (i : Nat) ×' (KZ rm (2 * (i : Int))) ×' (i ≤ acts.length ∧ i ≤ 100)) 5 (fun x => acts.length - x.1)
    (fun x => [(0, .t (.c (iT rm))), (1, .t (.c (.nm 0))), (5, .t (.c (.nm 1))), (7, .t (.c (.p 2 0))), (8, .t (.c (.p 3 0))), (9, .t (.c (.p 4 0))), (10, .t (.c (iT (x.1 : Nat))))])
    (fun x => [(0, some (false, .rd 6 acts.length (cacells acts))), (1, some (true, .ab (cl rm (2 * (x.1 : Int)) x.2.1.1.2.2.2))), (2, some (true, .row (svs x.2.1.1.1) 34)), (3, some (true, .row (bvs x.2.1.1.2.1) 35)), (4, some (true, .row (ivs x.2.1.1.2.2.1) 36))])
    ⟨0, ⟨(List.replicate 12 ⟨#[]⟩, List.replicate 12 false, List.replicate 12 0, []), KOk.new, LOk.new hr1.1 hr1.2⟩, by omega, by omega⟩ [] (fun x => wf rfl rfl) (by (repeat' (first | exact trivial | exact rfl | exact trivial | exact fun _ => trivial | first | (rw [hrm]; exact w0) | refine And.intro ?_ ?_))) (by repeat' (first | exact trivial | exact rfl | refine And.intro ?_ ?_)) rfl fun x => ?_
  obtain ⟨i, ⟨⟨P, D, Hd, L⟩, hK, hL⟩, hi1, hi2⟩ := x
  simp only at hK hL
  have w2 : IntKind.i64.wrap ((i : Int) + 1) = ((i + 1 : Nat) : Int) := by rw [wrap_small (by omega) (by omega)]; omega
  have hn : 2 * (i : Int) ≤ 1000 := by omega
  refine rn [] rfl (by repeat' (first | exact trivial | exact rfl | refine And.intro ?_ ?_)) ?_
  refine ⟨fun h => ?_, fun h => ?_⟩
  · have hlt : i < acts.length := by have := of_decide_eq_true (Bool.and_eq_true_iff.1 h).1; simp only at this; omega
    have h60 : i < 100 := by have := of_decide_eq_true (Bool.and_eq_true_iff.1 h).2; simp only at this; omega
    have hrd := cacells_rd hlt
    have htx := ht _ (List.getElem_mem hlt)
    have b0 : (0 : Int) ≤ (i : Int) := by omega
    have b1 : (i : Int) < (acts.length : Int) := by omega
    have b2 : (i : Int).toNat * 6 < (cacells acts).length := by rw [fcs_length (c := 6) fun _ => rfl]; omega
    generalize hact : acts[i] = act at *
    have am12 := amV act.at' 12 (by decide) (by decide)
    have am6 := amV act.kind 6 (by decide) (by decide)
    obtain ⟨a, ha, hae⟩ := emod_nat act.at' (n := 12) (by decide)
    obtain ⟨kd, hkd, hke⟩ := emod_nat act.kind (n := 6) (by decide)
    rw [show ((12 : Nat) : Int) = 12 from rfl] at hae
    rw [show ((6 : Nat) : Int) = 6 from rfl] at hke
    rw [hae] at am12
    rw [hke] at am6
    refine rn [(50, .ld act.cv), (53, .ret (.t (.c (iT (a : Nat))))), (56, .ret (.t (.c (iT (kd : Nat))))), (40002, .dec true)] rfl (by (repeat' (first | exact trivial | exact rfl | exact am12 | exact fun _ => am12 | first | exact am6 | exact hrd | exact b0 | exact b1 | exact b2 | decide | refine And.intro ?_ ?_))) ?_
    refine At.cut (Z := KZ rm (2 * (i : Int) + 1)) 5
      (fun z => [(0, .t (.c (iT rm))), (1, .t (.c (.nm 0))), (5, .t (.c (.nm 1))), (7, .t (.c (.p 2 0))), (8, .t (.c (.p 3 0))), (9, .t (.c (.p 4 0))), (10, .t (.c (iT (i : Nat))))])
      (fun z => [(0, some (false, .rd 6 acts.length (cacells acts))), (1, some (true, .ab (cl rm (2 * (i : Int) + 1) z.1.2.2.2))), (2, some (true, .row (svs z.1.1) 34)), (3, some (true, .row (bvs z.1.2.1) 35)), (4, some (true, .row (ivs z.1.2.2.1) 36))]) (fun z => wf rfl rfl) ?_ fun z => ?_
    · have haP : a < P.length := by rw [hK.lp]; exact ha
      have haD : a < D.length := by rw [hK.ld]; exact ha
      have haH : a < Hd.length := by rw [hK.lh]; exact ha
      have c0 : (0 : Int) ≤ (a : Int) := by omega
      have c1 : (a : Int) < 12 := by omega
      have hcA := hK.ok a ha
      have eP : ∀ s, P[a]? = some s → (svs P)[0 + (a : Int).toNat * 1]? = some (.string s) := fun s h => by simp [svs, h]
      have eD : ∀ s, D[a]? = some s → (bvs D)[0 + (a : Int).toNat * 1]? = some (.bool s) := fun s h => by simp [bvs, h]
      have eH : ∀ s, Hd[a]? = some s → (ivs Hd)[0 + (a : Int).toNat * 1]? = some (.int .i64 s) := fun s h => by simp [ivs, h]
      have hAl : ((a : Nat) : Int) < 2048 := by omega
      have kP : 0 + (a : Int).toNat * 1 + 1 ≤ (svs P).length := by rw [svs_length]; omega
      have kD : 0 + (a : Int).toNat * 1 + 1 ≤ (bvs D).length := by rw [bvs, List.length_map]; omega
      have kH : 0 + (a : Int).toNat * 1 + 1 ≤ (ivs Hd).length := by rw [ivs_length]; omega
      rcases kd with _ | _ | _ | _ | _ | _ | kd
      · have hft := fit0 act.text (by have := htx; simp [maxLen] at this; omega)
        have hfs := fit_size act.text
        generalize fit act.text = s at *
        have hG := fun (H : HL) (nx : Nat) (h : lookH H 1 = some (true, .ab (cl rm (2 * (i : Int)) L))) => putL (nx := nx) h hL hn (a : Int) s act.dirty
        have hLg := hL.put (a : Int) s act.dirty
        have s1 := setAtP (s := s) haP
        have hr2 : ¬ ((a : Int) < 0 ∨ 2048 ≤ (a : Int)) := by omega
        have hr3 : ¬ s.size ≠ 64 := by omega
        cases hg : gget (a : Int) L with
        | some x =>
          rw [hg] at hcA
          obtain ⟨p1, p2, p3, p4⟩ := hcA
          have q3 := eD _ p3
          have r1 : putR rm L (a : Int) s act.dirty = (-1, 0, gdel (a : Int) L ++ [((a : Int), ⟨s, x.d || act.dirty, x.h⟩)]) := by rw [putR, if_neg hr2, if_neg hr3, hg]
          rw [r1] at hG hLg
          cases hd : x.d with
          | true =>
            rw [hd] at q3 hG hLg
            have s2 := setAtD (s := true) haD
            refine rn [(85, .dec true), (92, .ret (.t (.c (.s s)))), (95, .spec ⟨.tup [.c (iT (-1)), .c (iT 0)], [], [(1, some (.ab (cl rm (2 * (i : Int) + 1) (gdel (a : Int) L ++ [((a : Int), ⟨s, true || act.dirty, x.h⟩)]))))], []⟩), (99, .dec false), (102, .dec false), (105, .dec false), (122, .dec false), (124, .dec false), (130, .ret (.t (.c (.s s)))), (135, .ld [.b true]), (136, .dec true)] rfl (by (repeat' (first | exact trivial | exact rfl | exact hft | exact fun _ => hft | first | exact hG _ _ rfl | exact q3 | exact c0 | exact c1 | exact kP | exact kD | decide | refine And.intro ?_ ?_))) ?_
            exact cutEnd ⟨(P.set a s, D.set a true, Hd, gdel (a : Int) L ++ [((a : Int), ⟨s, true || act.dirty, x.h⟩)]), hK.useB ha hL.nd (by simp) (by simp) rfl (fun k h => set_ne k h) (fun k h => set_ne k h) (fun _ _ => rfl) ⟨set_at haP, hfs, set_at haD, p4⟩, hLg⟩ [] (by repeat' (first | exact trivial | exact rfl | refine And.intro ?_ ?_)) (by (repeat' (first | exact trivial | exact rfl | exact s1 | exact fun _ => s1 | exact s2 | refine And.intro ?_ ?_))) rfl
          | false =>
            rw [hd] at q3 hG hLg
            have s2 := setAtD (s := act.dirty) haD
            refine rn [(85, .dec true), (92, .ret (.t (.c (.s s)))), (95, .spec ⟨.tup [.c (iT (-1)), .c (iT 0)], [], [(1, some (.ab (cl rm (2 * (i : Int) + 1) (gdel (a : Int) L ++ [((a : Int), ⟨s, false || act.dirty, x.h⟩)]))))], []⟩), (99, .dec false), (102, .dec false), (105, .dec false), (122, .dec false), (124, .dec false), (130, .ret (.t (.c (.s s)))), (135, .ld [.b false]), (136, .dec false)] rfl (by (repeat' (first | exact trivial | exact rfl | exact hft | exact fun _ => hft | first | exact hG _ _ rfl | exact q3 | exact c0 | exact c1 | exact kP | exact kD | decide | refine And.intro ?_ ?_))) ?_
            exact cutEnd ⟨(P.set a s, D.set a act.dirty, Hd, gdel (a : Int) L ++ [((a : Int), ⟨s, false || act.dirty, x.h⟩)]), hK.useB ha hL.nd (by simp) (by simp) rfl (fun k h => set_ne k h) (fun k h => set_ne k h) (fun _ _ => rfl) ⟨set_at haP, hfs, by rw [set_at haD]; rfl, p4⟩, hLg⟩ [] (by repeat' (first | exact trivial | exact rfl | refine And.intro ?_ ?_)) (by (repeat' (first | exact trivial | exact rfl | exact s1 | exact fun _ => s1 | exact s2 | refine And.intro ?_ ?_))) rfl
        | none =>
          rw [hg] at hcA
          obtain ⟨p1, p2, p3⟩ := hcA
          have q3 := eD _ p2
          have s2 := setAtD (s := act.dirty) haD
          by_cases h3 : (L.length : Int) < rm
          · have r1 : putR rm L (a : Int) s act.dirty = (-1, 0, L ++ [((a : Int), ⟨s, act.dirty, 0⟩)]) := by rw [putR, if_neg hr2, if_neg hr3, hg]; simp only; rw [if_pos h3]
            rw [r1] at hG hLg
            refine rn [(85, .dec true), (92, .ret (.t (.c (.s s)))), (95, .spec ⟨.tup [.c (iT (-1)), .c (iT 0)], [], [(1, some (.ab (cl rm (2 * (i : Int) + 1) (L ++ [((a : Int), ⟨s, act.dirty, 0⟩)]))))], []⟩), (99, .dec false), (102, .dec false), (105, .dec false), (122, .dec false), (124, .dec false), (130, .ret (.t (.c (.s s)))), (135, .ld [.b false]), (136, .dec false)] rfl (by (repeat' (first | exact trivial | exact rfl | exact hft | exact fun _ => hft | first | exact hG _ _ rfl | exact q3 | exact c0 | exact c1 | exact kP | exact kD | decide | refine And.intro ?_ ?_))) ?_
            exact cutEnd ⟨(P.set a s, D.set a act.dirty, Hd, L ++ [((a : Int), ⟨s, act.dirty, 0⟩)]), hK.addB ha hg (by simp) (by simp) rfl (fun k h => set_ne k h) (fun k h => set_ne k h) (fun _ _ => rfl) ⟨set_at haP, hfs, set_at haD, p3⟩, hLg⟩ [] (by repeat' (first | exact trivial | exact rfl | refine And.intro ?_ ?_)) (by (repeat' (first | exact trivial | exact rfl | exact s1 | exact fun _ => s1 | exact s2 | refine And.intro ?_ ?_))) rfl
          · by_cases h4 : oldL L < 0
            · have r1 : putR rm L (a : Int) s act.dirty = (0, 50, L) := by rw [putR, if_neg hr2, if_neg hr3, hg]; simp only; rw [if_neg h3, if_pos h4]
              rw [r1] at hG hLg
              have en : 2 * (i : Int) + 1 + 1 = 2 * ((i + 1 : Nat) : Int) := by omega
              refine rn [(85, .dec true), (92, .ret (.t (.c (.s s)))), (95, .spec ⟨.tup [.c (iT 0), .c (iT 50)], [], [(1, some (.ab (cl rm (2 * (i : Int) + 1) L)))], []⟩), (99, .dec true)] rfl (by (repeat' (first | exact trivial | exact rfl | exact hft | exact fun _ => hft | first | exact hG _ _ rfl | decide | refine And.intro ?_ ?_))) ?_
              refine cutExit rfl ?_
              refine rnA [] rfl (by repeat' (first | exact trivial | exact rfl | refine And.intro ?_ ?_)) ?_
              refine Done.weak 1 rfl (cl_st rm (2 * (i : Int) + 1 + 1) L) cl_up ?_
              refine roundEnd ⟨i + 1, ⟨(P, D, Hd, L), hK, by rw [← en]; exact hLg.up⟩, by omega, by omega⟩ [] (by show acts.length - (i + 1) < acts.length - i; omega) (by (repeat' (first | exact trivial | exact rfl | exact w2 | exact fun _ => w2 | refine And.intro ?_ ?_))) (by (repeat' (first | exact trivial | exact rfl | exact trivial | exact fun _ => trivial | first | (rw [en]) | refine And.intro ?_ ?_))) rfl
            · obtain ⟨x, hgo, hbf⟩ := oldL_get hL h4
              obtain ⟨b, hb⟩ : ∃ b : Nat, oldL L = (b : Int) := ⟨(oldL L).toNat, by omega⟩
              have r1 : putR rm L (a : Int) s act.dirty = ((b : Int), 0, gdel (b : Int) L ++ [((a : Int), ⟨s, act.dirty, 0⟩)]) := by rw [putR, if_neg hr2, if_neg hr3, hg]; simp only; rw [if_neg h3, if_neg h4, hb]
              rw [r1] at hG hLg
              rw [hb] at hgo
              have hb12 : b < 12 := by have := (hK.rg _ (gget_mem hgo)).2; simp only at this; omega
              have hcB := hK.ok b hb12
              rw [hgo] at hcB
              obtain ⟨t1, t2, t3, t4⟩ := hcB
              have hxd : x.d = false := by unfold bfr at hbf; cases hx : x.d with | true => rw [hx] at hbf; cases hbf | false => rfl
              have hxh : x.h = 0 := by unfold bfr at hbf; rw [hxd] at hbf; simpa using hbf
              rw [hxd] at t3
              rw [hxh] at t4
              have u1 : (svs P)[0 + (b : Int).toNat * 1]? = some (.string x.s) := by simp [svs, t1]
              have u2 : (bvs D)[0 + (b : Int).toNat * 1]? = some (.bool false) := by simp [bvs, t3]
              have u3 : (ivs Hd)[0 + (b : Int).toNat * 1]? = some (.int .i64 0) := by simp [ivs, t4]
              have c2 : (0 : Int) ≤ (b : Int) := by omega
              have c3 : (b : Int) < 12 := by omega
              have hbP : b < P.length := by rw [hK.lp]; exact hb12
              have nb := nbl t2
              have g1 : decide ((0 : Int) ≤ (b : Int)) = true := decide_eq_true (by omega)
              have k2 : 0 + (b : Int).toNat * 1 + 1 ≤ (svs P).length := by rw [svs_length]; omega
              have s3 := setAtP (s := ⟨#[]⟩) hbP
              have s4 := setAtP (P := P.set b ⟨#[]⟩) (a := a) (s := s) (by simp; exact haP)
              have s5 : Vc.setAt (Vc.setAt (svs P) (0 + (b : Int).toNat * 1) [Value.string ⟨#[]⟩]) (0 + (a : Int).toNat * 1) [Value.string s] = svs ((P.set b ⟨#[]⟩).set a s) := by rw [s3, s4]
              have k3 : 0 + (a : Int).toNat * 1 + 1 ≤ (Vc.setAt (svs P) (0 + (b : Int).toNat * 1) [Value.string ⟨#[]⟩]).length := by rw [s3, svs_length, List.length_set]; omega
              have hK1 : KOk (P.set b ⟨#[]⟩) D Hd (gdel (b : Int) L) := hK.delB hL.nd (by simp) rfl rfl (fun k h => set_ne k h) (fun _ _ => rfl) (fun _ _ => rfl) ⟨set_at hbP, t3, t4⟩
              have hab : (a : Int) ≠ (b : Int) := fun e => by rw [e, hgo] at hg; cases hg
              have hg1 : gget (a : Int) (gdel (b : Int) L) = none := by rw [gget_del hL.nd, if_neg hab]; exact hg
              refine rn [(85, .dec true), (92, .ret (.t (.c (.s s)))), (95, .spec ⟨.tup [.c (iT (b : Int)), .c (iT 0)], [], [(1, some (.ab (cl rm (2 * (i : Int) + 1) (gdel (b : Int) L ++ [((a : Int), ⟨s, act.dirty, 0⟩)]))))], []⟩), (99, .dec false), (102, .dec false), (105, .dec true), (108, .ld [.b false]), (109, .dec false), (112, .ld [iT 0]), (115, .dec false), (118, .ld [.s x.s]), (122, .dec false), (124, .dec true), (130, .ret (.t (.c (.s s)))), (135, .ld [.b false]), (136, .dec false)] rfl (by (repeat' (first | exact trivial | exact rfl | exact hft | exact fun _ => hft | first | exact hG _ _ rfl | exact q3 | exact u1 | exact u2 | exact u3 | exact c0 | exact c1 | exact c2 | exact c3 | exact k2 | exact k3 | exact kD | exact g1 | exact nb | decide | refine And.intro ?_ ?_))) ?_
              exact cutEnd ⟨((P.set b ⟨#[]⟩).set a s, D.set a act.dirty, Hd, gdel (b : Int) L ++ [((a : Int), ⟨s, act.dirty, 0⟩)]), hK1.addB ha hg1 (by simp) (by simp) rfl (fun k h => set_ne k h) (fun k h => set_ne k h) (fun _ _ => rfl) ⟨set_at (by simp; exact haP), hfs, set_at haD, p3⟩, hLg⟩ [] (by repeat' (first | exact trivial | exact rfl | refine And.intro ?_ ?_)) (by (repeat' (first | exact trivial | exact rfl | exact s5 | exact fun _ => s5 | exact s2 | refine And.intro ?_ ?_))) rfl
      · have hG := fun (H : HL) (nx : Nat) (h : lookH H 1 = some (true, .ab (cl rm (2 * (i : Int)) L))) => getL (nx := nx) h hL hn (a : Int)
        cases hg : gget (a : Int) L with
        | none =>
          rw [hg] at hcA
          obtain ⟨p1, p2, p3⟩ := hcA
          have q1 := eP _ p1
          have r1 : getR L (a : Int) = ⟨#[]⟩ := by rw [getR, hg]
          have r2 : getB L (a : Int) = false := by rw [getB, hg]; rfl
          have r3 : getS L (a : Int) = L := by rw [getS, hg]
          rw [r1, r2, r3] at hG
          refine rn [(85, .dec false), (141, .dec true), (146, .spec ⟨.tup [.c (.s ⟨#[]⟩), .c (.b false)], [], [(1, some (.ab (cl rm (2 * (i : Int) + 1) L)))], []⟩), (152, .ld [.s ⟨#[]⟩]), (155, .dec false), (157, .dec false), (164, .dec false)] rfl (by (repeat' (first | exact trivial | exact rfl | exact trivial | exact fun _ => trivial | first | exact hG _ _ rfl | exact q1 | exact c0 | exact c1 | exact kP | exact kD | exact kH | (rw [blb]; rfl) | decide | refine And.intro ?_ ?_))) ?_
          exact cutEnd ⟨(P, D, Hd, L), hK, hL.up⟩ [] (by repeat' (first | exact trivial | exact rfl | refine And.intro ?_ ?_)) (by repeat' (first | exact trivial | exact rfl | refine And.intro ?_ ?_)) rfl
        | some x =>
          rw [hg] at hcA
          obtain ⟨p1, p2, p3, p4⟩ := hcA
          have q1 := eP _ p1
          have nb := nbl p2
          have r1 : getR L (a : Int) = x.s := by rw [getR, hg]
          have r2 : getB L (a : Int) = true := by rw [getB, hg]; rfl
          have r3 : getS L (a : Int) = gdel (a : Int) L ++ [((a : Int), x)] := by rw [getS, hg]
          rw [r1, r2, r3] at hG
          have hLg := hL.get (a : Int)
          rw [r3] at hLg
          refine rn [(85, .dec false), (141, .dec true), (146, .spec ⟨.tup [.c (.s x.s), .c (.b true)], [], [(1, some (.ab (cl rm (2 * (i : Int) + 1) (gdel (a : Int) L ++ [((a : Int), x)]))))], []⟩), (152, .ld [.s x.s]), (155, .dec false), (157, .dec true), (161, .ld [.s x.s]), (164, .dec false)] rfl (by (repeat' (first | exact trivial | exact rfl | exact trivial | exact fun _ => trivial | first | exact hG _ _ rfl | exact q1 | exact c0 | exact c1 | exact kP | exact kD | exact kH | (rw [nb]; rfl) | (rw [sbs]; rfl) | decide | refine And.intro ?_ ?_))) ?_
          exact cutEnd ⟨(P, D, Hd, gdel (a : Int) L ++ [((a : Int), x)]), hK.useB ha hL.nd rfl rfl rfl (fun _ _ => rfl) (fun _ _ => rfl) (fun _ _ => rfl) ⟨p1, p2, p3, p4⟩, hLg⟩ [] (by repeat' (first | exact trivial | exact rfl | refine And.intro ?_ ?_)) (by repeat' (first | exact trivial | exact rfl | refine And.intro ?_ ?_)) rfl
      · have hG := fun (H : HL) (nx : Nat) (h : lookH H 1 = some (true, .ab (cl rm (2 * (i : Int)) L))) => holdL (nx := nx) h hL hn (a : Int)
        have hLg := hL.hold (a : Int)
        cases hg : gget (a : Int) L with
        | none =>
          rw [hg] at hcA
          obtain ⟨p1, p2, p3⟩ := hcA
          have q1 := eP _ p1
          have r1 : holdR L (a : Int) = (5, L) := by rw [holdR, hg]
          rw [r1] at hG hLg
          refine rn [(85, .dec false), (141, .dec false), (165, .dec true), (169, .spec ⟨.t (.c (iT 5)), [], [(1, some (.ab (cl rm (2 * (i : Int) + 1) L)))], []⟩), (173, .ld [.s ⟨#[]⟩]), (175, .dec false), (178, .ld [.s ⟨#[]⟩]), (179, .dec false)] rfl (by (repeat' (first | exact trivial | exact rfl | exact trivial | exact fun _ => trivial | first | exact hG _ _ rfl | exact q1 | exact c0 | exact c1 | exact kP | exact kD | exact kH | (rw [blb]; rfl) | decide | refine And.intro ?_ ?_))) ?_
          exact cutEnd ⟨(P, D, Hd, L), hK, hL.up⟩ [] (by repeat' (first | exact trivial | exact rfl | refine And.intro ?_ ?_)) (by repeat' (first | exact trivial | exact rfl | refine And.intro ?_ ?_)) rfl
        | some x =>
          rw [hg] at hcA
          obtain ⟨p1, p2, p3, p4⟩ := hcA
          have q1 := eP _ p1
          have q2 := eH _ p4
          have nb := nbl p2
          have hxh := hL.h _ (gget_mem hg)
          simp only at hxh
          have r1 : holdR L (a : Int) = (0, gset (a : Int) { x with h := x.h + 1 } L) := by rw [holdR, hg]
          rw [r1] at hG hLg
          have w5 : IntKind.i64.wrap (x.h + 1) = x.h + 1 := wrap_small (by omega) (by omega)
          have s1 := setAtH (s := IntKind.i64.wrap (x.h + 1)) haH
          refine rn [(85, .dec false), (141, .dec false), (165, .dec true), (169, .spec ⟨.t (.c (iT 0)), [], [(1, some (.ab (cl rm (2 * (i : Int) + 1) (gset (a : Int) { x with h := x.h + 1 } L))))], []⟩), (173, .ld [.s x.s]), (175, .dec false), (178, .ld [.s x.s]), (179, .dec true), (182, .ld [iT x.h])] rfl (by (repeat' (first | exact trivial | exact rfl | exact trivial | exact fun _ => trivial | first | exact hG _ _ rfl | exact q1 | exact q2 | exact c0 | exact c1 | exact kP | exact kD | exact kH | (rw [nb]; rfl) | decide | refine And.intro ?_ ?_))) ?_
          exact cutEnd ⟨(P, D, Hd.set a (IntKind.i64.wrap (x.h + 1)), gset (a : Int) { x with h := x.h + 1 } L), hK.setB ha hg rfl rfl (by simp) (fun _ _ => rfl) (fun _ _ => rfl) (fun k h => set_ne k h) ⟨p1, p2, p3, by rw [set_at haH, w5]⟩, hLg⟩ [] (by repeat' (first | exact trivial | exact rfl | refine And.intro ?_ ?_)) (by (repeat' (first | exact trivial | exact rfl | exact s1 | exact fun _ => s1 | refine And.intro ?_ ?_))) rfl
      · have hG := fun (H : HL) (nx : Nat) (h : lookH H 1 = some (true, .ab (cl rm (2 * (i : Int)) L))) => freeL (nx := nx) h hL hn (a : Int)
        have hLg := hL.free (a : Int)
        cases hg : gget (a : Int) L with
        | none =>
          rw [hg] at hcA
          obtain ⟨p1, p2, p3⟩ := hcA
          have q2 := eH _ p3
          have r1 : freeR L (a : Int) = (5, L) := by rw [freeR, hg]
          rw [r1] at hG hLg
          have s1 := setAtH (s := 0) haH
          refine rn [(85, .dec false), (141, .dec false), (165, .dec false), (185, .dec true), (189, .spec ⟨.t (.c (iT 5)), [], [(1, some (.ab (cl rm (2 * (i : Int) + 1) L)))], []⟩), (193, .ld [iT 0]), (195, .dec false), (199, .ld [iT 0])] rfl (by (repeat' (first | exact trivial | exact rfl | exact trivial | exact fun _ => trivial | first | exact hG _ _ rfl | exact q2 | exact c0 | exact c1 | exact kH | decide | refine And.intro ?_ ?_))) ?_
          exact cutEnd ⟨(P, D, Hd.set a 0, L), hK.sameB (a := a) rfl rfl (by simp) (fun _ _ => rfl) (fun _ _ => rfl) (fun k h => set_ne k h) (by rw [hg]; exact ⟨p1, p2, set_at haH⟩), hLg⟩ [] (by repeat' (first | exact trivial | exact rfl | refine And.intro ?_ ?_)) (by (repeat' (first | exact trivial | exact rfl | exact s1 | exact fun _ => s1 | refine And.intro ?_ ?_))) rfl
        | some x =>
          rw [hg] at hcA
          obtain ⟨p1, p2, p3, p4⟩ := hcA
          have q2 := eH _ p4
          have hxh := hL.h _ (gget_mem hg)
          simp only at hxh
          have w5 : IntKind.i64.wrap (x.h - 1) = x.h - 1 := wrap_small (by omega) (by omega)
          by_cases h0 : x.h = 0
          · have r1 : freeR L (a : Int) = (130, L) := by rw [freeR, hg]; simp only; rw [if_pos h0]
            rw [r1] at hG hLg
            rw [h0] at q2 p4
            have s1 := setAtH (s := 0) haH
            refine rn [(85, .dec false), (141, .dec false), (165, .dec false), (185, .dec true), (189, .spec ⟨.t (.c (iT 130)), [], [(1, some (.ab (cl rm (2 * (i : Int) + 1) L)))], []⟩), (193, .ld [iT 0]), (195, .dec false), (199, .ld [iT 0])] rfl (by (repeat' (first | exact trivial | exact rfl | exact trivial | exact fun _ => trivial | first | exact hG _ _ rfl | exact q2 | exact c0 | exact c1 | exact kH | decide | refine And.intro ?_ ?_))) ?_
            exact cutEnd ⟨(P, D, Hd.set a 0, L), hK.sameB (a := a) rfl rfl (by simp) (fun _ _ => rfl) (fun _ _ => rfl) (fun k h => set_ne k h) (by rw [hg]; exact ⟨p1, p2, p3, by rw [set_at haH, h0]⟩), hLg⟩ [] (by repeat' (first | exact trivial | exact rfl | refine And.intro ?_ ?_)) (by (repeat' (first | exact trivial | exact rfl | exact s1 | exact fun _ => s1 | refine And.intro ?_ ?_))) rfl
          · have r1 : freeR L (a : Int) = (0, gset (a : Int) { x with h := x.h - 1 } L) := by rw [freeR, hg]; simp only; rw [if_neg h0]
            rw [r1] at hG hLg
            have s1 := setAtH (s := if IntKind.i64.wrap (x.h - 1) > 0 then IntKind.i64.wrap (x.h - 1) else 0) haH
            have e7 : (if IntKind.i64.wrap (x.h - 1) > 0 then IntKind.i64.wrap (x.h - 1) else 0) = x.h - 1 := by rw [w5]; split <;> omega
            have g1 : decide (0 < x.h) = true := decide_eq_true (by omega)
            refine rn [(85, .dec false), (141, .dec false), (165, .dec false), (185, .dec true), (189, .spec ⟨.t (.c (iT 0)), [], [(1, some (.ab (cl rm (2 * (i : Int) + 1) (gset (a : Int) { x with h := x.h - 1 } L))))], []⟩), (193, .ld [iT x.h]), (195, .dec false), (199, .ld [iT x.h])] rfl (by (repeat' (first | exact trivial | exact rfl | exact trivial | exact fun _ => trivial | first | exact hG _ _ rfl | exact q2 | exact c0 | exact c1 | exact kH | (rw [g1]; rfl) | decide | refine And.intro ?_ ?_))) ?_
            exact cutEnd ⟨(P, D, Hd.set a (if IntKind.i64.wrap (x.h - 1) > 0 then IntKind.i64.wrap (x.h - 1) else 0), gset (a : Int) { x with h := x.h - 1 } L), hK.setB ha hg rfl rfl (by simp) (fun _ _ => rfl) (fun _ _ => rfl) (fun k h => set_ne k h) ⟨p1, p2, p3, by rw [set_at haH, e7]⟩, hLg⟩ [] (by repeat' (first | exact trivial | exact rfl | refine And.intro ?_ ?_)) (by (repeat' (first | exact trivial | exact rfl | exact s1 | exact fun _ => s1 | refine And.intro ?_ ?_))) rfl
      · have hG := fun (H : HL) (nx : Nat) (h : lookH H 1 = some (true, .ab (cl rm (2 * (i : Int)) L))) => cleanL (nx := nx) h hL (a : Int)
        have hLg := hL.clean (a : Int)
        have s1 := setAtD (s := false) haD
        cases hg : gget (a : Int) L with
        | none =>
          rw [hg] at hcA
          obtain ⟨p1, p2, p3⟩ := hcA
          have r1 : cleanR L (a : Int) = (5, L) := by rw [cleanR, hg]
          rw [r1] at hG hLg
          refine rn [(85, .dec false), (141, .dec false), (165, .dec false), (185, .dec false), (203, .dec true), (207, .spec ⟨.t (.c (iT 5)), [], [(1, some (.ab (cl rm (2 * (i : Int) + 1) L)))], []⟩)] rfl (by (repeat' (first | exact trivial | exact rfl | exact trivial | exact fun _ => trivial | first | exact hG _ _ rfl | exact c0 | exact c1 | exact kP | exact kD | exact kH | decide | refine And.intro ?_ ?_))) ?_
          exact cutEnd ⟨(P, D.set a false, Hd, L), hK.sameB (a := a) rfl (by simp) rfl (fun _ _ => rfl) (fun k h => set_ne k h) (fun _ _ => rfl) (by rw [hg]; exact ⟨p1, set_at haD, p3⟩), hLg⟩ [] (by repeat' (first | exact trivial | exact rfl | refine And.intro ?_ ?_)) (by (repeat' (first | exact trivial | exact rfl | exact s1 | exact fun _ => s1 | refine And.intro ?_ ?_))) rfl
        | some x =>
          rw [hg] at hcA
          obtain ⟨p1, p2, p3, p4⟩ := hcA
          have r1 : cleanR L (a : Int) = (0, gset (a : Int) { x with d := false } L) := by rw [cleanR, hg]
          rw [r1] at hG hLg
          refine rn [(85, .dec false), (141, .dec false), (165, .dec false), (185, .dec false), (203, .dec true), (207, .spec ⟨.t (.c (iT 0)), [], [(1, some (.ab (cl rm (2 * (i : Int) + 1) (gset (a : Int) { x with d := false } L))))], []⟩)] rfl (by (repeat' (first | exact trivial | exact rfl | exact trivial | exact fun _ => trivial | first | exact hG _ _ rfl | exact c0 | exact c1 | exact kP | exact kD | exact kH | decide | refine And.intro ?_ ?_))) ?_
          exact cutEnd ⟨(P, D.set a false, Hd, gset (a : Int) { x with d := false } L), hK.setB ha hg rfl (by simp) rfl (fun _ _ => rfl) (fun k h => set_ne k h) (fun _ _ => rfl) ⟨p1, p2, set_at haD, p4⟩, hLg⟩ [] (by repeat' (first | exact trivial | exact rfl | refine And.intro ?_ ?_)) (by (repeat' (first | exact trivial | exact rfl | exact s1 | exact fun _ => s1 | refine And.intro ?_ ?_))) rfl
      · have hG := fun (H : HL) (nx : Nat) (h : lookH H 1 = some (true, .ab (cl rm (2 * (i : Int)) L))) (h6 : lookH H 6 = some (true, .own 3 1 [(a : Int)].length (ivs [(a : Int)]))) => dropL (nx := nx) h hL h6 (by decide) (by simp)
        have hLg := hL.drop [(a : Int)]
        have s1 := setAtP (s := ⟨#[]⟩) haP
        cases hg : gget (a : Int) L with
        | none =>
          rw [hg] at hcA
          obtain ⟨p1, p2, p3⟩ := hcA
          have q2 := eH _ p3
          have q3 := eD _ p2
          have r1 : dropR L [(a : Int)] = (0, L) := by simp [dropR, badL, hg, gdel_none hg]
          rw [r1] at hG hLg
          refine rn [(85, .dec false), (141, .dec false), (165, .dec false), (185, .dec false), (203, .dec false), (59, .dec true), (60, .spec ⟨.t (.c (iT 0)), [], [(1, some (.ab (cl rm (2 * (i : Int) + 1) L)))], []⟩), (64, .ld [iT 0]), (66, .dec true), (69, .ld [.b false]), (72, .dec false), (75, .ld [iT 0]), (77, .dec true), (80, .ld [.b false]), (82, .dec true)] rfl (by (repeat' (first | exact trivial | exact rfl | exact trivial | exact fun _ => trivial | first | exact hG _ _ rfl rfl | exact q2 | exact q3 | exact c0 | exact c1 | exact kP | decide | refine And.intro ?_ ?_))) ?_
          exact cutEnd ⟨(P.set a ⟨#[]⟩, D, Hd, L), hK.sameB (a := a) (by simp) rfl rfl (fun k h => set_ne k h) (fun _ _ => rfl) (fun _ _ => rfl) (by rw [hg]; exact ⟨set_at haP, p2, p3⟩), hLg⟩ [] (by repeat' (first | exact trivial | exact rfl | refine And.intro ?_ ?_)) (by (repeat' (first | exact trivial | exact rfl | exact s1 | exact fun _ => s1 | refine And.intro ?_ ?_))) rfl
        | some x =>
          rw [hg] at hcA
          obtain ⟨p1, p2, p3, p4⟩ := hcA
          have q2 := eH _ p4
          have q3 := eD _ p3
          by_cases h0 : x.h = 0
          · rw [h0] at q2 p4
            cases hd : x.d with
            | true =>
              rw [hd] at q3
              have r1 : dropR L [(a : Int)] = (130, L) := by simp [dropR, badL, hg, bfr, hd]
              rw [r1] at hG hLg
              refine rn [(85, .dec false), (141, .dec false), (165, .dec false), (185, .dec false), (203, .dec false), (59, .dec true), (60, .spec ⟨.t (.c (iT 130)), [], [(1, some (.ab (cl rm (2 * (i : Int) + 1) L)))], []⟩), (64, .ld [iT 0]), (66, .dec true), (69, .ld [.b true]), (72, .dec false), (75, .ld [iT 0]), (77, .dec true), (80, .ld [.b true]), (82, .dec false)] rfl (by (repeat' (first | exact trivial | exact rfl | exact trivial | exact fun _ => trivial | first | exact hG _ _ rfl rfl | exact q2 | exact q3 | exact c0 | exact c1 | exact kP | decide | refine And.intro ?_ ?_))) ?_
              exact cutEnd ⟨(P, D, Hd, L), hK, hLg⟩ [] (by repeat' (first | exact trivial | exact rfl | refine And.intro ?_ ?_)) (by repeat' (first | exact trivial | exact rfl | refine And.intro ?_ ?_)) rfl
            | false =>
              rw [hd] at q3
              have r1 : dropR L [(a : Int)] = (0, gdel (a : Int) L) := by simp [dropR, badL, hg, bfr, hd, h0]
              rw [r1] at hG hLg
              refine rn [(85, .dec false), (141, .dec false), (165, .dec false), (185, .dec false), (203, .dec false), (59, .dec true), (60, .spec ⟨.t (.c (iT 0)), [], [(1, some (.ab (cl rm (2 * (i : Int) + 1) (gdel (a : Int) L))))], []⟩), (64, .ld [iT 0]), (66, .dec true), (69, .ld [.b false]), (72, .dec false), (75, .ld [iT 0]), (77, .dec true), (80, .ld [.b false]), (82, .dec true)] rfl (by (repeat' (first | exact trivial | exact rfl | exact trivial | exact fun _ => trivial | first | exact hG _ _ rfl rfl | exact q2 | exact q3 | exact c0 | exact c1 | exact kP | decide | refine And.intro ?_ ?_))) ?_
              exact cutEnd ⟨(P.set a ⟨#[]⟩, D, Hd, gdel (a : Int) L), hK.delB hL.nd (by simp) rfl rfl (fun k h => set_ne k h) (fun _ _ => rfl) (fun _ _ => rfl) ⟨set_at haP, by rw [p3, hd], p4⟩, hLg⟩ [] (by repeat' (first | exact trivial | exact rfl | refine And.intro ?_ ?_)) (by (repeat' (first | exact trivial | exact rfl | exact s1 | exact fun _ => s1 | refine And.intro ?_ ?_))) rfl
          · have r1 : dropR L [(a : Int)] = (130, L) := by simp [dropR, badL, hg, bfr, h0]
            rw [r1] at hG hLg
            have g1 : (x.h == 0) = false := by simpa using h0
            refine rn [(85, .dec false), (141, .dec false), (165, .dec false), (185, .dec false), (203, .dec false), (59, .dec true), (60, .spec ⟨.t (.c (iT 130)), [], [(1, some (.ab (cl rm (2 * (i : Int) + 1) L)))], []⟩), (64, .ld [iT x.h]), (66, .dec false), (72, .dec false), (75, .ld [iT x.h]), (77, .dec false), (82, .dec false)] rfl (by (repeat' (first | exact trivial | exact rfl | exact trivial | exact fun _ => trivial | first | exact hG _ _ rfl rfl | exact q2 | exact c0 | exact c1 | exact g1 | exact kP | (rw [g1]; rfl) | decide | refine And.intro ?_ ?_))) ?_
            exact cutEnd ⟨(P, D, Hd, L), hK, hLg⟩ [] (by repeat' (first | exact trivial | exact rfl | refine And.intro ?_ ?_)) (by repeat' (first | exact trivial | exact rfl | refine And.intro ?_ ?_)) rfl
      · omega
    · obtain ⟨⟨P, D, Hd, L⟩, hK', hL'⟩ := z
      simp only at hK' hL'
      refine rnA [] rfl (by repeat' (first | exact trivial | exact rfl | refine And.intro ?_ ?_)) ?_
      refine At.nil 17 3 1 rfl ?_
      refine At.loop (X := (j : Nat) ×' (j ≤ 12)) 6 (fun x => 12 - x.1)
        (fun x => [(0, .t (.c (iT rm))), (1, .t (.c (.nm 0))), (5, .t (.c (.nm 1))), (7, .t (.c (.p 2 0))), (8, .t (.c (.p 3 0))), (9, .t (.c (.p 4 0))), (10, .t (.c (iT (i : Nat)))), (17, .t (.c (.nm 5))), (210, .t (.c (iT (x.1 : Nat))))])
        (fun x => [(0, some (false, .rd 6 acts.length (cacells acts))), (1, some (true, .ab (cl rm (2 * (i : Int) + 1) L))), (2, some (true, .row (svs P) 34)), (3, some (true, .row (bvs D) 35)), (4, some (true, .row (ivs Hd) 36)), (5, some (true, .own 3 1 (wantL P x.1).length (ivs (wantL P x.1))))])
        ⟨0, by omega⟩ [] (fun x => wf rfl rfl) (by repeat' (first | exact trivial | exact rfl | refine And.intro ?_ ?_)) (by repeat' (first | exact trivial | exact rfl | refine And.intro ?_ ?_)) rfl fun x => ?_
      obtain ⟨j, hj⟩ := x
      have w3 : IntKind.i64.wrap ((j : Int) + 1) = ((j + 1 : Nat) : Int) := by rw [wrap_small (by omega) (by omega)]; omega
      refine rn [] rfl (by repeat' (first | exact trivial | exact rfl | refine And.intro ?_ ?_)) ?_
      refine ⟨fun h => ?_, fun h => ?_⟩
      · have hjl : j < 12 := by have : (j : Int) < 12 := of_decide_eq_true h; omega
        have hjP : j < P.length := by rw [hK'.lp]; exact hjl
        have e2 : (svs P)[0 + (j : Int).toNat * 1]? = some (.string P[j]) := by simp [svs, hjP]
        have c0 : (0 : Int) ≤ (j : Int) := by omega
        have c1 : (j : Int) < 12 := by omega
        refine rn [(215, .ld [.s P[j]])] rfl (by (repeat' (first | exact trivial | exact rfl | exact trivial | exact fun _ => trivial | first | exact e2 | exact c0 | exact c1 | exact kP | exact kD | exact kH | decide | refine And.intro ?_ ?_))) ?_
        have hP' : P[j]? = some P[j] := List.getElem?_eq_getElem hjP
        have hwl : (wantL P j).length ≤ 12 := by
          have : (wantL P j).length ≤ j := by unfold wantL; rw [List.length_map]; exact Nat.le_trans (List.length_filter_le _ _) (by simp)
          omega
        have o1 := ivs_one (wantL P j)
        have o2 := ivs_lit (j : Int)
        have m1 : (wantL P j).length + 1 ≤ maxLen := by simp [maxLen]; omega
        have m2 : ((wantL P j).length + 1) * 8 ≤ 140737488355328 := by omega
        refine ⟨fun h => ?_, fun h => ?_⟩
        · have hne : P[j]? ≠ some ⟨#[]⟩ := fun e => by
            rw [hP'] at e
            rw [Option.some.inj e] at h
            simp at h
          have ew : wantL P (j + 1) = wantL P j ++ [(j : Int)] := by rw [wantL_succ, if_pos hne]
          have e5 : (wantL P j).length + 1 = (wantL P (j + 1)).length := by rw [ew]; simp
          have e6 : app (ivs (wantL P j)) [Value.int .i64 (j : Int)] = ivs (wantL P (j + 1)) := by rw [ew, app_eq]; simp [ivs]
          refine rn [(219, .dec true)] rfl (by (repeat' (first | exact trivial | exact rfl | exact trivial | exact fun _ => trivial | first | exact m1 | exact m2 | exact o1 | exact o2 | decide | refine And.intro ?_ ?_))) ?_
          exact roundEnd ⟨j + 1, by omega⟩ [(5, 7)] (by show 12 - (j + 1) < 12 - j; omega) (by (repeat' (first | exact trivial | exact rfl | exact w3 | exact fun _ => w3 | refine And.intro ?_ ?_))) (by (repeat' (first | exact trivial | exact rfl | exact e6 | exact fun _ => e6 | exact e5 | refine And.intro ?_ ?_))) rfl
        · have hne : ¬ P[j]? ≠ some ⟨#[]⟩ := fun hn => hn (by
            rw [hP']
            have : P[j].toList = (⟨#[]⟩ : ByteArray).toList := by simpa using h
            rw [bt_inj this])
          have ew : wantL P (j + 1) = wantL P j := by rw [wantL_succ, if_neg hne]
          refine rn [] rfl (by repeat' (first | exact trivial | exact rfl | refine And.intro ?_ ?_)) ?_
          exact roundEnd ⟨j + 1, by omega⟩ [] (by show 12 - (j + 1) < 12 - j; omega) (by (repeat' (first | exact trivial | exact rfl | exact w3 | exact fun _ => w3 | refine And.intro ?_ ?_))) (by (repeat' (first | exact trivial | exact rfl | exact trivial | exact fun _ => trivial | first | exact congrArg List.length ew.symm | exact congrArg ivs ew.symm | refine And.intro ?_ ?_))) rfl
      · have hjl : j = 12 := by have : ¬ (j : Int) < 12 := of_decide_eq_false h; omega
        subst hjl
        have hw := hK'.want hL'.nd
        have hlen : (wantL P 12).length = L.length := by rw [← hw, allR]; simp [srtI]
        have g1 : decide (rm < ((wantL P 12).length : Int)) = false := decide_eq_false (by rw [hlen]; have := hL'.len; omega)
        have hA : ∀ (H : HL) (nx : Nat), lookH H 1 = some (true, .ab (cl rm (2 * (i : Int) + 1) L)) → FnH Try.prog 17 [.c (.nm 1)] H nx ⟨.t (.c (.nm nx)), [(true, .own 3 1 (wantL P 12).length (ivs (wantL P 12)))], [(1, some (.ab (cl rm (2 * (i : Int) + 1 + 1) L)))], []⟩ := fun H nx h => by
          have := allL (nx := nx) h hL'
          rw [hw] at this
          exact this
        have g2 : decide (wantL P 12 = wantL P 12) = true := decide_eq_true rfl
        refine rn [] rfl (by repeat' (first | exact trivial | exact rfl | refine And.intro ?_ ?_)) (roundExit rfl ?_)
        refine rnA [(226, .dec false), (228, .spec ⟨.t (.c (.nm 6)), [(true, .own 3 1 (wantL P 12).length (ivs (wantL P 12)))], [(1, some (.ab (cl rm (2 * (i : Int) + 1 + 1) L)))], []⟩), (230, .spec ⟨.t (.c (.b (decide (wantL P 12 = wantL P 12)))), [], [], []⟩), (232, .dec false)] rfl
          (by (repeat' (first | exact trivial | exact rfl | exact trivial | exact fun _ => trivial | first | exact g1 | exact hA _ _ rfl | exact sameInts_h (SlR.own rfl) (SlR.own rfl) (by rw [hlen]; have := hL'.len; omega) | (rw [g2]; rfl) | decide | refine And.intro ?_ ?_))) ?_
        have en : 2 * (i : Int) + 1 + 1 = 2 * ((i + 1 : Nat) : Int) := by omega
        refine roundEnd ⟨i + 1, ⟨(P, D, Hd, L), hK', by rw [← en]; exact hL'.up⟩, by omega, by omega⟩ [] (by show acts.length - (i + 1) < acts.length - i; omega) (by (repeat' (first | exact trivial | exact rfl | exact w2 | exact fun _ => w2 | refine And.intro ?_ ?_))) (by (repeat' (first | exact trivial | exact rfl | exact trivial | exact fun _ => trivial | first | (rw [en]) | refine And.intro ?_ ?_))) rfl
  · refine rn [] rfl (by repeat' (first | exact trivial | exact rfl | refine And.intro ?_ ?_)) (roundExit rfl ?_)
    refine rnA [] rfl (by repeat' (first | exact trivial | exact rfl | refine And.intro ?_ ?_)) ?_
    exact ret0 tysOk rfl (by repeat' (first | exact trivial | exact rfl | refine And.intro ?_ ?_)) rfl
theorem cacheKeeps_true (x0 : Int) (acts : List CAct) (A1 : Option Addr) (c1 : Nat) (w : World) (zl : acts.length ≤ 100000000000000) (ht : ∀ a ∈ acts, a.text.size ≤ maxLen) (h1 : Vc.Rds w A1 acts.length c1 6 (cacells acts)) :
    Calls Try.prog 4 #[.int .i64 x0, .slice A1 acts.length c1] w fun e w' => e = .returned (.bool true) ∧ RowKit.Below w.heap.size w w' := by
  obtain ⟨e, M, v0⟩ := memr1 h1
  have := fnh_law (cacheKeeps_h x0 acts zl ht) rfl rfl M
  rw [show ([.c (iT x0), .c (.nm 0)] : List TV).map (TV.den e) = [.int .i64 x0, e.val 0] from rfl, v0] at this
  exact this
end Cw
