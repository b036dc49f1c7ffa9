/- The statement LeaseOne: the walk. -/
import Derived.Test.YtjnbdhgkoolhnaaGreatLse
import Derived.Test.YtjnbdhgkoolhnaaGreatAlc
import Derived.Test.YtjnbdhgkoolhnaaGreatLeaZ
namespace Cw
open Go Vc
open Go.Proofs
set_option maxRecDepth 100000
structure LAct where
  kind : Int
  node : Int
  ep : Int
  reg : Int
  text : ByteArray
def lac (a : LAct) : List Value := [.int .i64 a.kind, .int .i64 a.node, .int .i64 a.ep, .int .i64 a.reg, .string a.text]
def lacells (l : List LAct) : List Value := fcs lac l
theorem lacells_len (l : List LAct) : (lacells l).length = l.length * 5 := fcs_length (f := lac) (c := 5) (fun _ => rfl) l
theorem lacells_rd {l : List LAct} {i : Nat} (h : i < l.length) : Vc.rowAt (lacells l) ((i : Int).toNat * 5) [iT l[i].kind, iT l[i].node, iT l[i].ep, iT l[i].reg, .s l[i].text] :=
  have g := fun (j : Nat) (u : Value) (hu : (lac l[i])[j]? = some u) => fcs_at (f := lac) (c := 5) (fun _ => rfl) h hu
  ⟨g 0 _ rfl, g 1 _ rfl, g 2 _ rfl, g 3 _ rfl, g 4 _ rfl, trivial⟩
theorem held_dj (L : List Ls) : ∀ x ∈ held L (0 + 1) L.length, x ∉ held L (1 + 1) L.length := by
  intro x h1 h2
  obtain ⟨a0, a1⟩ := held_in h1
  obtain ⟨j, rfl⟩ : ∃ j : Nat, x = (j : Int) := ⟨x.toNat, by omega⟩
  have hj : j < L.length := by omega
  have e1 := (held_iff hj).1 h1
  have e2 := (held_iff hj).1 h2
  omega
set_option maxRecDepth 100000 in
set_option maxHeartbeats 4000000 in
theorem shared_h {v1 v2 : TV} {l1 l2 : List Int} {H : HL} {nx : Nat} (h1 : SlR H v1 l1.length 1 (ivs l1)) (h2 : SlR H v2 l2.length 1 (ivs l2)) (z1 : l1.length ≤ 100000000000000) (z2 : l2.length ≤ 100000000000000) (hd : ∀ x ∈ l1, x ∉ l2) :
    FnH Tryz.prog 22 [v1, v2] H nx ⟨.t (.c (.b false)), [], [], []⟩ := by
  refine fnR (fn := Tryz.f22) 26 rfl rfl rfl (args' := [.c (.nm 0), .c (.nm 1)]) (H' := [(0, some (false, .rd 1 l1.length (ivs l1))), (1, some (false, .rd 1 l2.length (ivs l2)))]) (nx' := 2) (fun e w M => ?_) rfl rfl rfl rfl fun w => ?_
  · obtain ⟨e', M', q1, q2⟩ := slr2 h1 h2 e w M
    exact ⟨e', M', by simp [q1, q2]⟩
  refine rn [] rfl (by repeat' (first | exact trivial | exact rfl | refine And.intro ?_ ?_)) ?_
  refine At.loop (X := (i : Nat) ×' (i ≤ l1.length)) 2 (fun x => l1.length - x.1)
    (fun x => [(1, .t (.c (.nm 1))), (9, .t (.c (.nm 0))), (10, .t (.c (iT (l1.length : Nat)))), (11, .t (.c (iT (x.1 : Nat))))])
    (fun _ => [(0, some (false, .rd 1 l1.length (ivs l1))), (1, some (false, .rd 1 l2.length (ivs l2)))]) ⟨0, by omega⟩ [] (fun x => wf rfl rfl) (by repeat' (first | exact trivial | exact rfl | refine And.intro ?_ ?_)) (by repeat' (first | exact trivial | exact rfl | refine And.intro ?_ ?_)) rfl fun x => ?_
  obtain ⟨i, hi⟩ := x
  have w3 : IntKind.i64.wrap ((i : Int) + 1) = ((i + 1 : Nat) : Int) := by rw [wrap_sm (by omega) (by omega)]; omega
  refine rn [] rfl (by repeat' (first | exact trivial | exact rfl | refine And.intro ?_ ?_)) ?_
  refine ⟨fun h => ?_, fun h => ?_⟩
  · have hlt : i < l1.length := by have : (i : Int) < (l1.length : Int) := of_decide_eq_true h; omega
    clear h
    have e1 : (ivs l1)[(i : Int).toNat * 1]? = some (.int .i64 l1[i]) := by simpa using ivs_at hlt
    have b0 : (0 : Int) ≤ (i : Int) := by omega
    have b1 : (i : Int) < (l1.length : Int) := by omega
    refine rn [(14, .ld [iT l1[i]])] rfl (by (repeat' (first | exact trivial | exact rfl | exact trivial | exact fun _ => trivial | first | exact e1 | exact ⟨e1, trivial⟩ | exact b0 | exact b1 | decide | refine And.intro ?_ ?_))) ?_
    refine At.loop (X := (k : Nat) ×' (k ≤ l2.length)) 2 (fun x => l2.length - x.1)
      (fun x => [(1, .t (.c (.nm 1))), (6, .t (.c (iT l1[i]))), (9, .t (.c (.nm 0))), (10, .t (.c (iT (l1.length : Nat)))), (11, .t (.c (iT (i : Nat)))), (15, .t (.c (.nm 1))), (16, .t (.c (iT (l2.length : Nat)))), (17, .t (.c (iT (x.1 : Nat))))])
      (fun _ => [(0, some (false, .rd 1 l1.length (ivs l1))), (1, some (false, .rd 1 l2.length (ivs l2)))]) ⟨0, by omega⟩ [] (fun x => wf rfl rfl) (by repeat' (first | exact trivial | exact rfl | refine And.intro ?_ ?_)) (by repeat' (first | exact trivial | exact rfl | refine And.intro ?_ ?_)) rfl fun x => ?_
    obtain ⟨k, hk⟩ := x
    have w4 : IntKind.i64.wrap ((k : Int) + 1) = ((k + 1 : Nat) : Int) := by rw [wrap_sm (by omega) (by omega)]; omega
    refine rn [] rfl (by repeat' (first | exact trivial | exact rfl | refine And.intro ?_ ?_)) ?_
    refine ⟨fun h => ?_, fun h => ?_⟩
    · have hkl : k < l2.length := by have : (k : Int) < (l2.length : Int) := of_decide_eq_true h; omega
      clear h
      have e2 : (ivs l2)[(k : Int).toNat * 1]? = some (.int .i64 l2[k]) := by simpa using ivs_at hkl
      have c0 : (0 : Int) ≤ (k : Int) := by omega
      have c1 : (k : Int) < (l2.length : Int) := by omega
      have hne : (l1[i] == l2[k]) = false := by
        simp only [beq_eq_false_iff_ne]
        exact fun e => hd _ (List.getElem_mem hlt) (e ▸ List.getElem_mem hkl)
      refine rn [(20, .ld [iT l2[k]]), (23, .dec false)] rfl (by (repeat' (first | exact trivial | exact rfl | exact trivial | exact fun _ => trivial | first | exact e2 | exact ⟨e2, trivial⟩ | exact c0 | exact c1 | exact hne | decide | refine And.intro ?_ ?_))) ?_
      exact roundEnd ⟨k + 1, by omega⟩ [] (by show l2.length - (k + 1) < l2.length - k; omega) (by (repeat' (first | exact trivial | exact rfl | exact w4 | exact fun _ => w4 | refine And.intro ?_ ?_))) (by repeat' (first | exact trivial | exact rfl | refine And.intro ?_ ?_)) rfl
    · refine rn [] rfl (by repeat' (first | exact trivial | exact rfl | refine And.intro ?_ ?_)) (roundExit rfl ?_)
      refine rnA [] rfl (by repeat' (first | exact trivial | exact rfl | refine And.intro ?_ ?_)) ?_
      exact roundEnd ⟨i + 1, by omega⟩ [] (by show l1.length - (i + 1) < l1.length - i; omega) (by (repeat' (first | exact trivial | exact rfl | exact w3 | exact fun _ => w3 | refine And.intro ?_ ?_))) (by repeat' (first | exact trivial | exact rfl | refine And.intro ?_ ?_)) rfl
  · refine rn [] rfl (by repeat' (first | exact trivial | exact rfl | refine And.intro ?_ ?_)) (roundExit rfl ?_)
    refine rnA [] rfl (by repeat' (first | exact trivial | exact rfl | refine And.intro ?_ ?_)) ?_
    exact ret0 tysOk rfl (by repeat' (first | exact trivial | exact rfl | refine And.intro ?_ ?_)) rfl
theorem emodN (x : Int) {n : Nat} (h : 0 < n) : ∃ a : Nat, a < n ∧ x % (n : Int) = (a : Int) := by
  have h1 := Int.emod_nonneg x (show (n : Int) ≠ 0 by omega)
  have h2 := Int.emod_lt_of_pos x (show (0 : Int) < (n : Int) by omega)
  exact ⟨(x % (n : Int)).toNat, by omega, by omega⟩
theorem g232 : Gok 2 3 2 := by decide
set_option maxRecDepth 100000 in
set_option maxHeartbeats 32000000 in
theorem leaseOne_h (acts : List LAct) (zl : acts.length ≤ 100000000000000) :
    FnH Tryz.prog 4 [.c (.nm 0)] [(0, some (false, .rd 5 acts.length (lacells acts)))] 1 ⟨.t (.c (.b true)), [], [], []⟩ := by
  refine fnR (fn := Tryz.f4) 226 rfl rfl rfl (args' := [.c (.nm 0)]) (H' := [(0, some (false, .rd 5 acts.length (lacells acts)))]) (nx' := 1) (fun e w M => ⟨_, mem_rd (fun n => n) (H' := [(0, some (false, .rd 5 acts.length (lacells acts)))]) ⟨⟨false, rfl⟩, trivial⟩ M, rfl⟩) rfl rfl rfl rfl fun w => ?_
  have hsz := gsize0 2 3 2
  rw [show gsize 2 3 2 = ((17 : Nat) : Int) from by decide] at hsz
  have hnw := fun (H : HL) (nx : Nat) => newA (H := H) (nx := nx) (n := 17) (by decide) (by decide)
  refine rn [(26, .ret (.t (.c (iT ((17 : Nat) : Int))))), (27, .spec ⟨.tup [.c (.nm 2), .c (iT 0)], [(true, .ab (exP (dP (S0 17) [] 0)))], [], []⟩), (20003, .dec true)] rfl (by (repeat' (first | exact trivial | exact rfl | exact trivial | exact fun _ => trivial | first | exact hsz | exact hnw _ _ | rfl | decide | refine And.intro ?_ ?_))) ?_
  refine At.ex (φ := dP (S0 17) [] 0) 2 rfl (fun _ => absP_stable _ _) fun b => ?_
  have hla := fun (H : HL) (nx : Nat) (h2 : lookH H 2 = some (true, .ab (dP (S0 17) [] 0 b))) => alay_h (nx := nx) h2 g232 (by decide)
  refine rn [(31, .spec ⟨.t (.c (.b false)), [], [], []⟩), (36, .dec false), (39, .spec ⟨.t (.c (iT 0)), [], [(2, some (.ab (dP (fmtL 2 3 2) [] 0 b)))], []⟩), (42, .dec false), (43, .spec ⟨.t (.c (.b true)), [], [], []⟩), (45, .dec false)] rfl (by (repeat' (first | exact trivial | exact rfl | exact trivial | exact fun _ => trivial | first | exact nilDq2 rfl rfl rfl rfl | exact hla _ _ rfl | exact lworks_h | rfl | decide | refine And.intro ?_ ?_))) ?_
  have hI0 := fmt_tb g232
  rw [show fN 2 3 2 = 8 from by decide, show fZ 2 3 2 = 17 from by decide] at hI0
  generalize fmtL 2 3 2 = S0' at *
  refine At.loop (X := (i : Nat) ×' (S : List ByteArray) ×' (L : List Ls) ×' (f0 : Nat) ×' (f1 : Nat) ×' (TbI S 2 3 2 L f0 f1 17 ∧ L.length = 8 ∧ (∀ x ∈ L, x.2 ≤ (i : Int)) ∧ f0 ≤ 3 ∧ f1 ≤ 3 ∧ i ≤ 60 ∧ i ≤ acts.length)) 4 (fun x => acts.length - x.1)
    (fun x => [(0, .t (.c (.nm 0))), (3, .t (.c (.p 1 0))), (4, .t (.c (.nm 2))), (6, .t (.c (.p 3 0))), (7, .t (.c (iT (x.1 : Nat))))])
    (fun x => [(0, some (false, .rd 5 acts.length (lacells acts))), (1, some (true, .cells [iT 2, iT 3, iT 2] 23)), (2, some (true, .ab (dP x.2.1 [] 0 b))), (3, some (true, .cells [iT (x.2.2.2.1 : Nat), iT (x.2.2.2.2.1 : Nat)] 53))]) ⟨0, S0', List.replicate 8 (0, 0), 0, 0, hI0, rfl, fun x hx => by rw [List.eq_of_mem_replicate hx]; decide, by omega, by omega, by omega, by omega⟩ [] (fun x => wf rfl rfl) (by repeat' (first | exact trivial | exact rfl | refine And.intro ?_ ?_)) (by repeat' (first | exact trivial | exact rfl | refine And.intro ?_ ?_)) rfl fun x => ?_
  obtain ⟨i, S, L, f0, f1, hI, hl8, hB, hf0, hf1, hi60, hil⟩ := x
  have w3 : IntKind.i64.wrap ((i : Int) + 1) = ((i + 1 : Nat) : Int) := by rw [wrap_sm (by omega) (by omega)]; omega
  cases hc : decide ((i : Int) < (acts.length : Nat)) && decide ((i : Int) < 60) with
  | true =>
    have hlt : i < acts.length := by have := of_decide_eq_true (Bool.and_eq_true_iff.1 hc).1; omega
    have h60 : i < 60 := by have := of_decide_eq_true (Bool.and_eq_true_iff.1 hc).2; omega
    have r1 := lacells_rd hlt
    have b0 : (0 : Int) ≤ (i : Int) := by omega
    have b1 : (i : Int) < (acts.length : Int) := by omega
    have c5 : (i : Int).toNat * 5 < (lacells acts).length := by rw [lacells_len]; omega
    have am2' := among0 acts[i].node 2 (by decide) (by decide)
    have am8 := among0 acts[i].reg 8 (by decide) (by decide)
    have am4 := among0 acts[i].ep 4 (by decide) (by decide)
    have am5 := among0 acts[i].kind 5 (by decide) (by decide)
    obtain ⟨r, hr, hre⟩ := emodN acts[i].reg (n := 8) (by decide)
    obtain ⟨q, hq, hqe⟩ := emodN acts[i].ep (n := 4) (by decide)
    obtain ⟨kd, hkd, hke⟩ := emodN acts[i].kind (n := 5) (by decide)
    rw [show ((8 : Nat) : Int) = 8 from rfl] at hre
    rw [show ((4 : Nat) : Int) = 4 from rfl] at hqe
    rw [show ((5 : Nat) : Int) = 5 from rfl] at hke
    rw [hre] at am8
    rw [hqe] at am4
    rw [hke] at am5
    have hr8 : r < L.length := by omega
    have htb := fun (H : HL) (nx : Nat) (h2 : lookH H 2 = some (true, .ab (dP S [] 0 b))) => ltabO (nx := nx) h2 hI.ok hI.e
    rw [hI.l] at htb
    have hnd2 : acts[i].node % 2 = 0 ∨ acts[i].node % 2 = 1 := by omega
    rcases hnd2 with hnd | hnd
    · have am2 := am2'
      rw [hnd] at am2
      have hfn : fnc f0 f1 0 = f0 := rfl
      refine rn [(53, .dec true), (59, .ld [iT acts[i].kind, iT acts[i].node, iT acts[i].ep, iT acts[i].reg, .s acts[i].text]), (62, .ret (.t (.c (iT 0)))), (65, .ret (.t (.c (iT (r : Nat))))), (68, .ret (.t (.c (iT (q : Nat))))), (72, .spec ⟨.tup [.c (.nm 5), .c (iT 0)], [(true, .own 46 2 L.length (lcells L))], [(2, some (.ab (dP S [] 0 b)))], []⟩), (76, .dec false), (84, .ret (.t (.c (iT (kd : Nat))))), (40002, .dec true)] rfl (by (repeat' (first | exact trivial | exact rfl | exact trivial | exact fun _ => trivial | first | exact hc | exact r1 | exact b0 | exact b1 | exact c5 | exact am2 | exact am8 | exact am4 | exact am5 | exact htb _ _ rfl | rfl | decide | refine And.intro ?_ ?_))) ?_
      refine At.cut (Z := (e : Int) ×' (S' : List ByteArray) ×' (L' : List Ls) ×' (g0 : Nat) ×' (g1 : Nat) ×' (ou : Bool) ×' (TbI S' 2 3 2 L' g0 g1 17 ∧ Stp L L' ou (i : Int) ∧ (kd = 0 → e = 0 → ∀ h : r < L'.length, L'[r].1 = 1) ∧ g0 ≤ 3 ∧ g1 ≤ 3)) 6
        (fun z => [(0, .t (.c (.nm 0))), (3, .t (.c (.p 1 0))), (4, .t (.c (.nm 2))), (6, .t (.c (.p 3 0))), (7, .t (.c (iT (i : Nat)))), (8, .t (.c (.p 4 0))), (9, .t (.c (iT 0))), (10, .t (.c (iT (r : Nat)))), (12, .t (.c (.nm 5))), (13, .t (.c (iT z.1))), (14, .t (.c (.b z.2.2.2.2.2.1)))])
        (fun z => [(0, some (false, .rd 5 acts.length (lacells acts))), (1, some (true, .cells [iT 2, iT 3, iT 2] 23)), (2, some (true, .ab (dP z.2.1 [] 0 b))), (3, some (true, .cells [iT (z.2.2.2.1 : Nat), iT (z.2.2.2.2.1 : Nat)] 53)), (4, some (true, .cells [iT acts[i].kind, iT acts[i].node, iT acts[i].ep, iT acts[i].reg, .s acts[i].text] 34)), (5, some (true, .own 46 2 L.length (lcells L)))]) (fun z => wf rfl rfl) ?_ fun z => ?_
      · have hou : decide ((q : Int) < (f0 : Int)) = decide ((q : Int) < (fnc f0 f1 0 : Int)) := rfl
        rcases kd with _ | _ | _ | _ | _ | kd
        · -- claimed
          obtain ⟨L', t1, t2, t3, _⟩ := hI.claim (node := 0) (ep := (q : Nat)) (by omega) (by omega) hr8 hB (by omega)
          have hcl := fun (H : HL) (nx : Nat) (h2 : lookH H 2 = some (true, .ab (dP S [] 0 b))) => claim_h (nx := nx) (a := 2) (bb := 3) (c := 2) h2 hI.ok 0 (q : Nat) (r : Nat)
          generalize clE S 2 3 2 0 (q : Nat) (r : Nat) = e at *
          generalize clS S 2 3 2 0 (q : Nat) (r : Nat) = S' at *
          refine rn [(93, .dec false), (101, .dec true), (108, .spec ⟨.t (.c (iT e)), [], [(2, some (.ab (dP S' [] 0 b)))], []⟩)] rfl (by (repeat' (first | exact trivial | exact rfl | exact trivial | exact fun _ => trivial | first | exact hcl _ _ rfl | rfl | decide | refine And.intro ?_ ?_))) ?_
          exact cutEnd ⟨e, S', L', f0, f1, decide ((q : Int) < (f0 : Int)), t1, t2, fun _ he h => t3 he h, hf0, hf1⟩ [] (by repeat' (first | exact trivial | exact rfl | refine And.intro ?_ ?_)) (by repeat' (first | exact trivial | exact rfl | refine And.intro ?_ ?_)) rfl
        · -- passed
          obtain ⟨L', t1, t2, _⟩ := hI.away (node := 0) (ep := (q : Nat)) (o := 2) (by omega) (by omega) (by omega) hr8 hB (by omega)
          have hcl := fun (H : HL) (nx : Nat) (h2 : lookH H 2 = some (true, .ab (dP S [] 0 b))) => pass_h (nx := nx) (a := 2) (bb := 3) (c := 2) h2 hI.ok 0 (q : Nat) (r : Nat)
          rw [oth_ok (node := 0) (by omega), show (2 : Int) - 0 = 2 from rfl] at hcl
          generalize awE S 2 3 2 0 (q : Nat) (r : Nat) 2 = e at *
          generalize awS S 2 3 2 0 (q : Nat) (r : Nat) 2 = S' at *
          refine rn [(93, .dec false), (101, .dec false), (109, .dec true), (116, .spec ⟨.t (.c (iT e)), [], [(2, some (.ab (dP S' [] 0 b)))], []⟩)] rfl (by (repeat' (first | exact trivial | exact rfl | exact trivial | exact fun _ => trivial | first | exact hcl _ _ rfl | rfl | decide | refine And.intro ?_ ?_))) ?_
          exact cutEnd ⟨e, S', L', f0, f1, decide ((q : Int) < (f0 : Int)), t1, t2, fun h => (by cases h), hf0, hf1⟩ [] (by repeat' (first | exact trivial | exact rfl | refine And.intro ?_ ?_)) (by repeat' (first | exact trivial | exact rfl | refine And.intro ?_ ?_)) rfl
        · -- seized
          by_cases hp : (fnc f0 f1 0 : Int) ≤ (q : Nat)
          · obtain ⟨S', s1, s2, s3⟩ := hI.seize (node := 0) (ep := (q : Nat)) (by omega) (by omega) hB (by omega) hp
            have hcl := fun (H : HL) (nx : Nat) (h2 : lookH H 2 = some (true, .ab (dP S [] 0 b))) => seizeO (nx := nx) (a := 2) (bb := 3) (c := 2) h2 hI.ok 0 (q : Nat) (hI.sn (by omega)) s1
            generalize hdL S 2 3 2 (2 - 0) = out at *
            refine rn [(93, .dec false), (101, .dec false), (109, .dec false), (117, .dec true), (124, .spec ⟨.tup [.c (.nm 6), .c (iT 0)], [(true, .own 3 1 out.length (ivs out))], [(2, some (.ab (dP S' [] 0 b)))], []⟩)] rfl (by (repeat' (first | exact trivial | exact rfl | exact trivial | exact fun _ => trivial | first | exact hcl _ _ rfl | rfl | decide | refine And.intro ?_ ?_))) ?_
            have hdf : decide ((q : Int) < (f0 : Int)) = false := decide_eq_false (by rw [hfn] at hp; omega)
            exact cutEnd ⟨0, S', szL L 0, f0, f1, false, s2, s3, fun h => (by cases h), hf0, hf1⟩ [] (by (repeat' (first | exact trivial | exact rfl | exact trivial | exact fun _ => trivial | exact hdf | refine And.intro ?_ ?_))) (by repeat' (first | exact trivial | exact rfl | refine And.intro ?_ ?_)) rfl
          · obtain ⟨e, s1⟩ := hI.seizeNo (node := 0) (ep := (q : Nat)) (by omega) (by omega) hB (by omega) hp
            have hdf : decide ((q : Int) < (f0 : Int)) = true := decide_eq_true (by rw [hfn] at hp; omega)
            by_cases he : e = 0
            · subst he
              have hcl := fun (H : HL) (nx : Nat) (h2 : lookH H 2 = some (true, .ab (dP S [] 0 b))) => seizeO (nx := nx) (a := 2) (bb := 3) (c := 2) h2 hI.ok 0 (q : Nat) (hI.sn (by omega)) s1
              generalize hdL S 2 3 2 (2 - 0) = out at *
              refine rn [(93, .dec false), (101, .dec false), (109, .dec false), (117, .dec true), (124, .spec ⟨.tup [.c (.nm 6), .c (iT 0)], [(true, .own 3 1 out.length (ivs out))], [(2, some (.ab (dP S [] 0 b)))], []⟩)] rfl (by (repeat' (first | exact trivial | exact rfl | exact trivial | exact fun _ => trivial | first | exact hcl _ _ rfl | rfl | decide | refine And.intro ?_ ?_))) ?_
              exact cutEnd ⟨0, S, L, f0, f1, true, hI, Stp.same hB, fun h => (by cases h), hf0, hf1⟩ [] (by (repeat' (first | exact trivial | exact rfl | exact trivial | exact fun _ => trivial | exact hdf | refine And.intro ?_ ?_))) (by repeat' (first | exact trivial | exact rfl | refine And.intro ?_ ?_)) rfl
            · have hcl := fun (H : HL) (nx : Nat) (h2 : lookH H 2 = some (true, .ab (dP S [] 0 b))) => seizeX (nx := nx) (a := 2) (bb := 3) (c := 2) h2 hI.ok 0 (q : Nat) (hI.sn (by omega)) s1 he
              refine rn [(93, .dec false), (101, .dec false), (109, .dec false), (117, .dec true), (124, .spec ⟨.tup [.c .nsl, .c (iT e)], [], [(2, some (.ab (dP S [] 0 b)))], []⟩)] rfl (by (repeat' (first | exact trivial | exact rfl | exact trivial | exact fun _ => trivial | first | exact hcl _ _ rfl | rfl | decide | refine And.intro ?_ ?_))) ?_
              exact cutEnd ⟨e, S, L, f0, f1, true, hI, Stp.same hB, fun h => (by cases h), hf0, hf1⟩ [] (by (repeat' (first | exact trivial | exact rfl | exact trivial | exact fun _ => trivial | exact hdf | refine And.intro ?_ ?_))) (by repeat' (first | exact trivial | exact rfl | refine And.intro ?_ ?_)) rfl
        · -- raised
          have hcl := fun (H : HL) (nx : Nat) (h2 : lookH H 2 = some (true, .ab (dP S [] 0 b))) => raiseD (nx := nx) h2 hI.ok 0 (q : Nat)
          obtain ⟨t1, t2⟩ := hI.raise (node := 0) (ep := (q : Nat)) (by omega) (by omega)
          by_cases hp : (fnc f0 f1 0 : Int) ≤ (q : Nat)
          · obtain ⟨s1, s2⟩ := t1 hp
            simp only [if_true, Int.toNat_natCast] at s2
            rw [s1] at hcl
            generalize rsS S 0 (q : Nat) = S' at *
            refine rn [(93, .dec false), (101, .dec false), (109, .dec false), (117, .dec false), (88, .spec ⟨.t (.c (iT 0)), [], [(2, some (.ab (dP S' [] 0 b)))], []⟩), (89, .dec true)] rfl (by (repeat' (first | exact trivial | exact rfl | exact trivial | exact fun _ => trivial | first | exact hcl _ _ rfl | rfl | decide | refine And.intro ?_ ?_))) ?_
            exact cutEnd ⟨0, S', L, q, f1, true, s2, Stp.same hB, fun h => (by cases h), by omega, by omega⟩ [] (by repeat' (first | exact trivial | exact rfl | refine And.intro ?_ ?_)) (by repeat' (first | exact trivial | exact rfl | refine And.intro ?_ ?_)) rfl
          · obtain ⟨s1, s2⟩ := t2 hp
            rw [s1, s2] at hcl
            refine rn [(93, .dec false), (101, .dec false), (109, .dec false), (117, .dec false), (88, .spec ⟨.t (.c (iT 1)), [], [(2, some (.ab (dP S [] 0 b)))], []⟩), (89, .dec false)] rfl (by (repeat' (first | exact trivial | exact rfl | exact trivial | exact fun _ => trivial | first | exact hcl _ _ rfl | rfl | decide | refine And.intro ?_ ?_))) ?_
            exact cutEnd ⟨0, S, L, f0, f1, true, hI, Stp.same hB, fun h => (by cases h), hf0, hf1⟩ [] (by repeat' (first | exact trivial | exact rfl | refine And.intro ?_ ?_)) (by repeat' (first | exact trivial | exact rfl | refine And.intro ?_ ?_)) rfl
        · -- let go
          obtain ⟨L', t1, t2, _⟩ := hI.away (node := 0) (ep := (q : Nat)) (o := 0) (by omega) (by omega) (by omega) hr8 hB (by omega)
          have hcl := fun (H : HL) (nx : Nat) (h2 : lookH H 2 = some (true, .ab (dP S [] 0 b))) => lfree_h (nx := nx) (a := 2) (bb := 3) (c := 2) h2 hI.ok 0 (q : Nat) (r : Nat)
          generalize awE S 2 3 2 0 (q : Nat) (r : Nat) 0 = e at *
          generalize awS S 2 3 2 0 (q : Nat) (r : Nat) 0 = S' at *
          refine rn [(93, .dec true), (100, .spec ⟨.t (.c (iT e)), [], [(2, some (.ab (dP S' [] 0 b)))], []⟩)] rfl (by (repeat' (first | exact trivial | exact rfl | exact trivial | exact fun _ => trivial | first | exact hcl _ _ rfl | rfl | decide | refine And.intro ?_ ?_))) ?_
          exact cutEnd ⟨e, S', L', f0, f1, decide ((q : Int) < (f0 : Int)), t1, t2, fun h => (by cases h), hf0, hf1⟩ [] (by repeat' (first | exact trivial | exact rfl | refine And.intro ?_ ?_)) (by repeat' (first | exact trivial | exact rfl | refine And.intro ?_ ?_)) rfl
        · exfalso
          omega
      · obtain ⟨e, S', L', g0, g1, ou, hI', hSt, hcl, hg0, hg1⟩ := z
        have hl8' : L'.length = 8 := by rw [hSt.len]; exact hl8
        have htb' := fun (H : HL) (nx : Nat) (h2 : lookH H 2 = some (true, .ab (dP S' [] 0 b))) => ltabO (nx := nx) h2 hI'.ok hI'.e
        rw [hI'.l] at htb'
        refine rnA [(130, .spec ⟨.tup [.c (.nm 6), .c (iT 0)], [(true, .own 46 2 L'.length (lcells L'))], [(2, some (.ab (dP S' [] 0 b)))], []⟩), (134, .dec false)] rfl (by (repeat' (first | exact trivial | exact rfl | exact trivial | exact fun _ => trivial | first | exact htb' _ _ rfl | rfl | decide | refine And.intro ?_ ?_))) ?_
        refine At.loop (X := (k : Nat) ×' (k ≤ L'.length)) 7 (fun x => L'.length - x.1)
          (fun x => [(0, .t (.c (.nm 0))), (3, .t (.c (.p 1 0))), (4, .t (.c (.nm 2))), (6, .t (.c (.p 3 0))), (7, .t (.c (iT (i : Nat)))), (8, .t (.c (.p 4 0))), (9, .t (.c (iT 0))), (10, .t (.c (iT (r : Nat)))), (12, .t (.c (.nm 5))), (13, .t (.c (iT e))), (14, .t (.c (.b ou))), (15, .t (.c (.nm 6))), (136, .t (.c (iT (L'.length : Nat)))), (137, .t (.c (iT (x.1 : Nat))))])
          (fun x => [(0, some (false, .rd 5 acts.length (lacells acts))), (1, some (true, .cells [iT 2, iT 3, iT 2] 23)), (2, some (true, .ab (dP S' [] 0 b))), (3, some (true, .cells [iT (g0 : Nat), iT (g1 : Nat)] 53)), (4, some (true, .cells [iT acts[i].kind, iT acts[i].node, iT acts[i].ep, iT acts[i].reg, .s acts[i].text] 34)), (5, some (true, .own 46 2 L.length (lcells L))), (6, some (true, .own 46 2 L'.length (lcells L')))]) ⟨0, by omega⟩ [] (fun x => wf rfl rfl) (by repeat' (first | exact trivial | exact rfl | refine And.intro ?_ ?_)) (by repeat' (first | exact trivial | exact rfl | refine And.intro ?_ ?_)) rfl fun x => ?_
        obtain ⟨k, hk⟩ := x
        have w4 : IntKind.i64.wrap ((k : Int) + 1) = ((k + 1 : Nat) : Int) := by rw [wrap_sm (by omega) (by omega)]; omega
        refine rn [] rfl (by repeat' (first | exact trivial | exact rfl | refine And.intro ?_ ?_)) ?_
        refine ⟨fun h1 => ?_, fun h1 => ?_⟩
        · have hk' : k < L'.length := by have : (k : Int) < (L'.length : Int) := of_decide_eq_true h1; omega
          clear h1
          have hkL : k < L.length := by omega
          have x1 : (lcells L)[(k : Int).toNat * 2]? = some (.int .i64 L[k].1) := by rw [Int.toNat_natCast]; exact (lcells_get L k hkL).1
          have x2 : (lcells L)[(k : Int).toNat * 2 + 1]? = some (.int .i64 L[k].2) := by rw [Int.toNat_natCast]; exact (lcells_get L k hkL).2
          have y1 : (lcells L')[(k : Int).toNat * 2]? = some (.int .i64 L'[k].1) := by rw [Int.toNat_natCast]; exact (lcells_get L' k hk').1
          have y2 : (lcells L')[(k : Int).toNat * 2 + 1]? = some (.int .i64 L'[k].2) := by rw [Int.toNat_natCast]; exact (lcells_get L' k hk').2
          have d0 : (0 : Int) ≤ (k : Int) := by omega
          have d1 : (k : Int) < (L'.length : Int) := by omega
          have d2 : (k : Int) < (L.length : Int) := by omega
          have d3 : (k : Int).toNat * 2 < (lcells L').length := by rw [lcells_length]; omega
          have d4 : (k : Int).toNat * 2 < (lcells L).length := by rw [lcells_length]; omega
          have hbk := hB _ (List.getElem_mem hkL)
          have htk := tok_iff (List.all_eq_true.1 hI.tk _ (List.getElem_mem hkL))
          have w5 : IntKind.i64.wrap (L[k].2 + 1) = L[k].2 + 1 := wrap_sm (by omega) (by omega)
          rcases hSt.st k hkL hk' with hs | ⟨hs1, hs2⟩
          · have u1 : (L'[k].1 == L[k].1) = true := by rw [hs]; simp
            have u2 : (L'[k].2 == L[k].2) = true := by rw [hs]; simp
            have u3 : (L'[k].2 != L[k].2) = false := by rw [hs]; simp
            have p1 : polB false (L'[k].1 == L[k].1 && (L'[k].2 == L[k].2 && true)) = false := by rw [u1, u2]; rfl
            have p2 : (!polB false (L'[k].1 == L[k].1 && (L'[k].2 == L[k].2 && true))) = true := by rw [u1, u2]; rfl
            refine rn [(143, .ld [iT L'[k].1, iT L'[k].2]), (147, .ld [iT L[k].1, iT L[k].2]), (150, .dec false), (167, .dec false), (170, .dec true), (175, .ld [iT L'[k].2]), (180, .ld [iT L[k].2]), (183, .dec false)] rfl (by (repeat' (first | exact trivial | exact rfl | exact trivial | exact fun _ => trivial | first | exact ⟨x1, x2, trivial⟩ | exact ⟨y1, y2, trivial⟩ | exact x2 | exact y2 | exact ⟨x2, trivial⟩ | exact ⟨y2, trivial⟩ | exact d0 | exact d1 | exact d2 | exact d3 | exact d4 | exact u3 | exact p1 | exact p2 | (rw [lcells_length]; omega) | rfl | decide | refine And.intro ?_ ?_))) ?_
            exact roundEnd ⟨k + 1, by omega⟩ [] (by show L'.length - (k + 1) < L'.length - k; omega) (by (repeat' (first | exact trivial | exact rfl | exact w4 | exact fun _ => w4 | refine And.intro ?_ ?_))) (by repeat' (first | exact trivial | exact rfl | refine And.intro ?_ ?_)) rfl
          · have v1 : (L'[k].2 != IntKind.i64.wrap (L[k].2 + 1)) = false := by rw [w5, hs2]; simp
            have v2 : (L'[k].2 == L[k].2) = false := by rw [hs2]; simp; omega
            have p1 : polB false (L'[k].1 == L[k].1 && (L'[k].2 == L[k].2 && true)) = true := by rw [v2]; cases (L'[k].1 == L[k].1) <;> rfl
            have p2 : (!polB false (L'[k].1 == L[k].1 && (L'[k].2 == L[k].2 && true))) = false := by rw [v2]; cases (L'[k].1 == L[k].1) <;> rfl
            refine rn [(143, .ld [iT L'[k].1, iT L'[k].2]), (147, .ld [iT L[k].1, iT L[k].2]), (150, .dec true), (152, .dec false), (157, .ld [iT L'[k].2]), (162, .ld [iT L[k].2]), (167, .dec false), (170, .dec false), (183, .dec false)] rfl (by (repeat' (first | exact trivial | exact rfl | exact trivial | exact fun _ => trivial | first | exact ⟨x1, x2, trivial⟩ | exact ⟨y1, y2, trivial⟩ | exact x2 | exact y2 | exact ⟨x2, trivial⟩ | exact ⟨y2, trivial⟩ | exact d0 | exact d1 | exact d2 | exact d3 | exact d4 | exact v1 | exact hs1 | exact p1 | exact p2 | (rw [lcells_length]; omega) | rfl | decide | refine And.intro ?_ ?_))) ?_
            exact roundEnd ⟨k + 1, by omega⟩ [] (by show L'.length - (k + 1) < L'.length - k; omega) (by (repeat' (first | exact trivial | exact rfl | exact w4 | exact fun _ => w4 | refine And.intro ?_ ?_))) (by repeat' (first | exact trivial | exact rfl | refine And.intro ?_ ?_)) rfl
        · refine rn [] rfl (by repeat' (first | exact trivial | exact rfl | refine And.intro ?_ ?_)) (roundExit rfl ?_)
          have hh0 := fun (H : HL) (nx : Nat) (h2 : lookH H 2 = some (true, .ab (dP S' [] 0 b))) => lheldO (nx := nx) h2 hI'.ok (node := 0) (hI'.sn (by omega))
          have hh1 := fun (H : HL) (nx : Nat) (h2 : lookH H 2 = some (true, .ab (dP S' [] 0 b))) => lheldO (nx := nx) h2 hI'.ok (node := 1) (hI'.sn (by omega))
          simp only [hdL, hI'.l] at hh0 hh1
          have hdj : ∀ x ∈ held L' (0 + 1) L'.length, x ∉ held L' (1 + 1) L'.length := held_dj L'
          have hle0 := held_le L' (0 + 1) L'.length
          have hle1 := held_le L' (1 + 1) L'.length
          generalize held L' (0 + 1) L'.length = o1 at *
          generalize held L' (1 + 1) L'.length = o2 at *
          have hsh := fun (H : HL) (nx : Nat) (h7 : lookH H 7 = some (true, .own 3 1 o1.length (ivs o1))) (h8 : lookH H 8 = some (true, .own 3 1 o2.length (ivs o2))) => shared_h (nx := nx) (SlR.own h7) (SlR.own h8) (by omega) (by omega) hdj
          have hnext : ∀ x ∈ L', x.2 ≤ ((i + 1 : Nat) : Int) := fun x hx => by have := hSt.bd x hx; omega
          have hfin : i + 1 ≤ 60 ∧ i + 1 ≤ acts.length := by omega
          by_cases hk0 : kd = 0
          · subst hk0
            by_cases he0 : e = 0
            · subst he0
              have hr' : r < L'.length := by omega
              have hown := hcl rfl rfl hr'
              have y1 : (lcells L')[(r : Int).toNat * 2]? = some (.int .i64 L'[r].1) := by rw [Int.toNat_natCast]; exact (lcells_get L' r hr').1
              have d0 : (0 : Int) ≤ (r : Int) := by omega
              have d1 : (r : Int) < (L'.length : Int) := by omega
              have d3 : (r : Int).toNat * 2 < (lcells L').length := by rw [lcells_length]; omega
              have gO : (L'[r].1 != IntKind.i64.wrap (0 + 1)) = false := by rw [hown]; rfl
              refine rnA [(187, .ret (.t (.c (iT ((0 : Nat) : Int))))), (189, .dec true), (193, .dec true), (198, .ld [iT L'[r].1]), (202, .dec false), (206, .spec ⟨.tup [.c (.nm 7), .c (iT 0)], [(true, .own 3 1 o1.length (ivs o1))], [(2, some (.ab (dP S' [] 0 b)))], []⟩), (212, .spec ⟨.tup [.c (.nm 8), .c (iT 0)], [(true, .own 3 1 o2.length (ivs o2))], [(2, some (.ab (dP S' [] 0 b)))], []⟩), (217, .dec false), (221, .dec false), (224, .spec ⟨.t (.c (.b false)), [], [], []⟩), (225, .dec false)] rfl
                (by (repeat' (first | exact trivial | exact rfl | exact trivial | exact fun _ => trivial | first | exact am5 | exact y1 | exact ⟨y1, trivial⟩ | exact d0 | exact d1 | exact d3 | exact gO | exact hh0 _ _ rfl | exact hh1 _ _ rfl | exact hsh _ _ rfl rfl | (rw [lcells_length]; omega) | rfl | decide | refine And.intro ?_ ?_))) ?_
              exact roundEnd ⟨i + 1, S', L', g0, g1, hI', hl8', hnext, hg0, hg1, hfin.1, hfin.2⟩ [] (by show acts.length - (i + 1) < acts.length - i; omega) (by (repeat' (first | exact trivial | exact rfl | exact w3 | exact fun _ => w3 | refine And.intro ?_ ?_))) (by repeat' (first | exact trivial | exact rfl | refine And.intro ?_ ?_)) rfl
            · have gE : (e == 0) = false := by simpa using he0
              refine rnA [(187, .ret (.t (.c (iT ((0 : Nat) : Int))))), (189, .dec true), (193, .dec false), (202, .dec false), (206, .spec ⟨.tup [.c (.nm 7), .c (iT 0)], [(true, .own 3 1 o1.length (ivs o1))], [(2, some (.ab (dP S' [] 0 b)))], []⟩), (212, .spec ⟨.tup [.c (.nm 8), .c (iT 0)], [(true, .own 3 1 o2.length (ivs o2))], [(2, some (.ab (dP S' [] 0 b)))], []⟩), (217, .dec false), (221, .dec false), (224, .spec ⟨.t (.c (.b false)), [], [], []⟩), (225, .dec false)] rfl
                (by (repeat' (first | exact trivial | exact rfl | exact trivial | exact fun _ => trivial | first | exact am5 | exact gE | exact hh0 _ _ rfl | exact hh1 _ _ rfl | exact hsh _ _ rfl rfl | rfl | decide | refine And.intro ?_ ?_))) ?_
              exact roundEnd ⟨i + 1, S', L', g0, g1, hI', hl8', hnext, hg0, hg1, hfin.1, hfin.2⟩ [] (by show acts.length - (i + 1) < acts.length - i; omega) (by (repeat' (first | exact trivial | exact rfl | exact w3 | exact fun _ => w3 | refine And.intro ?_ ?_))) (by repeat' (first | exact trivial | exact rfl | refine And.intro ?_ ?_)) rfl
          · have gK : ((kd : Int) == 0) = false := by simp; omega
            refine rnA [(187, .ret (.t (.c (iT (kd : Nat))))), (189, .dec false), (193, .dec false), (202, .dec false), (206, .spec ⟨.tup [.c (.nm 7), .c (iT 0)], [(true, .own 3 1 o1.length (ivs o1))], [(2, some (.ab (dP S' [] 0 b)))], []⟩), (212, .spec ⟨.tup [.c (.nm 8), .c (iT 0)], [(true, .own 3 1 o2.length (ivs o2))], [(2, some (.ab (dP S' [] 0 b)))], []⟩), (217, .dec false), (221, .dec false), (224, .spec ⟨.t (.c (.b false)), [], [], []⟩), (225, .dec false)] rfl
              (by (repeat' (first | exact trivial | exact rfl | exact trivial | exact fun _ => trivial | first | exact am5 | exact gK | exact hh0 _ _ rfl | exact hh1 _ _ rfl | exact hsh _ _ rfl rfl | rfl | decide | refine And.intro ?_ ?_))) ?_
            exact roundEnd ⟨i + 1, S', L', g0, g1, hI', hl8', hnext, hg0, hg1, hfin.1, hfin.2⟩ [] (by show acts.length - (i + 1) < acts.length - i; omega) (by (repeat' (first | exact trivial | exact rfl | exact w3 | exact fun _ => w3 | refine And.intro ?_ ?_))) (by repeat' (first | exact trivial | exact rfl | refine And.intro ?_ ?_)) rfl
    · have am2 := am2'
      rw [hnd] at am2
      have hfn : fnc f0 f1 1 = f1 := rfl
      refine rn [(53, .dec true), (59, .ld [iT acts[i].kind, iT acts[i].node, iT acts[i].ep, iT acts[i].reg, .s acts[i].text]), (62, .ret (.t (.c (iT 1)))), (65, .ret (.t (.c (iT (r : Nat))))), (68, .ret (.t (.c (iT (q : Nat))))), (72, .spec ⟨.tup [.c (.nm 5), .c (iT 0)], [(true, .own 46 2 L.length (lcells L))], [(2, some (.ab (dP S [] 0 b)))], []⟩), (76, .dec false), (84, .ret (.t (.c (iT (kd : Nat))))), (40002, .dec true)] rfl (by (repeat' (first | exact trivial | exact rfl | exact trivial | exact fun _ => trivial | first | exact hc | exact r1 | exact b0 | exact b1 | exact c5 | exact am2 | exact am8 | exact am4 | exact am5 | exact htb _ _ rfl | rfl | decide | refine And.intro ?_ ?_))) ?_
      refine At.cut (Z := (e : Int) ×' (S' : List ByteArray) ×' (L' : List Ls) ×' (g0 : Nat) ×' (g1 : Nat) ×' (ou : Bool) ×' (TbI S' 2 3 2 L' g0 g1 17 ∧ Stp L L' ou (i : Int) ∧ (kd = 0 → e = 0 → ∀ h : r < L'.length, L'[r].1 = 2) ∧ g0 ≤ 3 ∧ g1 ≤ 3)) 6
        (fun z => [(0, .t (.c (.nm 0))), (3, .t (.c (.p 1 0))), (4, .t (.c (.nm 2))), (6, .t (.c (.p 3 0))), (7, .t (.c (iT (i : Nat)))), (8, .t (.c (.p 4 0))), (9, .t (.c (iT 1))), (10, .t (.c (iT (r : Nat)))), (12, .t (.c (.nm 5))), (13, .t (.c (iT z.1))), (14, .t (.c (.b z.2.2.2.2.2.1)))])
        (fun z => [(0, some (false, .rd 5 acts.length (lacells acts))), (1, some (true, .cells [iT 2, iT 3, iT 2] 23)), (2, some (true, .ab (dP z.2.1 [] 0 b))), (3, some (true, .cells [iT (z.2.2.2.1 : Nat), iT (z.2.2.2.2.1 : Nat)] 53)), (4, some (true, .cells [iT acts[i].kind, iT acts[i].node, iT acts[i].ep, iT acts[i].reg, .s acts[i].text] 34)), (5, some (true, .own 46 2 L.length (lcells L)))]) (fun z => wf rfl rfl) ?_ fun z => ?_
      · have hou : decide ((q : Int) < (f1 : Int)) = decide ((q : Int) < (fnc f0 f1 1 : Int)) := rfl
        rcases kd with _ | _ | _ | _ | _ | kd
        · -- claimed
          obtain ⟨L', t1, t2, t3, _⟩ := hI.claim (node := 1) (ep := (q : Nat)) (by omega) (by omega) hr8 hB (by omega)
          have hcl := fun (H : HL) (nx : Nat) (h2 : lookH H 2 = some (true, .ab (dP S [] 0 b))) => claim_h (nx := nx) (a := 2) (bb := 3) (c := 2) h2 hI.ok 1 (q : Nat) (r : Nat)
          generalize clE S 2 3 2 1 (q : Nat) (r : Nat) = e at *
          generalize clS S 2 3 2 1 (q : Nat) (r : Nat) = S' at *
          refine rn [(93, .dec false), (101, .dec true), (108, .spec ⟨.t (.c (iT e)), [], [(2, some (.ab (dP S' [] 0 b)))], []⟩)] rfl (by (repeat' (first | exact trivial | exact rfl | exact trivial | exact fun _ => trivial | first | exact hcl _ _ rfl | rfl | decide | refine And.intro ?_ ?_))) ?_
          exact cutEnd ⟨e, S', L', f0, f1, decide ((q : Int) < (f1 : Int)), t1, t2, fun _ he h => t3 he h, hf0, hf1⟩ [] (by repeat' (first | exact trivial | exact rfl | refine And.intro ?_ ?_)) (by repeat' (first | exact trivial | exact rfl | refine And.intro ?_ ?_)) rfl
        · -- passed
          obtain ⟨L', t1, t2, _⟩ := hI.away (node := 1) (ep := (q : Nat)) (o := 1) (by omega) (by omega) (by omega) hr8 hB (by omega)
          have hcl := fun (H : HL) (nx : Nat) (h2 : lookH H 2 = some (true, .ab (dP S [] 0 b))) => pass_h (nx := nx) (a := 2) (bb := 3) (c := 2) h2 hI.ok 1 (q : Nat) (r : Nat)
          rw [oth_ok (node := 1) (by omega), show (2 : Int) - 1 = 1 from rfl] at hcl
          generalize awE S 2 3 2 1 (q : Nat) (r : Nat) 1 = e at *
          generalize awS S 2 3 2 1 (q : Nat) (r : Nat) 1 = S' at *
          refine rn [(93, .dec false), (101, .dec false), (109, .dec true), (116, .spec ⟨.t (.c (iT e)), [], [(2, some (.ab (dP S' [] 0 b)))], []⟩)] rfl (by (repeat' (first | exact trivial | exact rfl | exact trivial | exact fun _ => trivial | first | exact hcl _ _ rfl | rfl | decide | refine And.intro ?_ ?_))) ?_
          exact cutEnd ⟨e, S', L', f0, f1, decide ((q : Int) < (f1 : Int)), t1, t2, fun h => (by cases h), hf0, hf1⟩ [] (by repeat' (first | exact trivial | exact rfl | refine And.intro ?_ ?_)) (by repeat' (first | exact trivial | exact rfl | refine And.intro ?_ ?_)) rfl
        · -- seized
          by_cases hp : (fnc f0 f1 1 : Int) ≤ (q : Nat)
          · obtain ⟨S', s1, s2, s3⟩ := hI.seize (node := 1) (ep := (q : Nat)) (by omega) (by omega) hB (by omega) hp
            have hcl := fun (H : HL) (nx : Nat) (h2 : lookH H 2 = some (true, .ab (dP S [] 0 b))) => seizeO (nx := nx) (a := 2) (bb := 3) (c := 2) h2 hI.ok 1 (q : Nat) (hI.sn (by omega)) s1
            generalize hdL S 2 3 2 (2 - 1) = out at *
            refine rn [(93, .dec false), (101, .dec false), (109, .dec false), (117, .dec true), (124, .spec ⟨.tup [.c (.nm 6), .c (iT 0)], [(true, .own 3 1 out.length (ivs out))], [(2, some (.ab (dP S' [] 0 b)))], []⟩)] rfl (by (repeat' (first | exact trivial | exact rfl | exact trivial | exact fun _ => trivial | first | exact hcl _ _ rfl | rfl | decide | refine And.intro ?_ ?_))) ?_
            have hdf : decide ((q : Int) < (f1 : Int)) = false := decide_eq_false (by rw [hfn] at hp; omega)
            exact cutEnd ⟨0, S', szL L 1, f0, f1, false, s2, s3, fun h => (by cases h), hf0, hf1⟩ [] (by (repeat' (first | exact trivial | exact rfl | exact trivial | exact fun _ => trivial | exact hdf | refine And.intro ?_ ?_))) (by repeat' (first | exact trivial | exact rfl | refine And.intro ?_ ?_)) rfl
          · obtain ⟨e, s1⟩ := hI.seizeNo (node := 1) (ep := (q : Nat)) (by omega) (by omega) hB (by omega) hp
            have hdf : decide ((q : Int) < (f1 : Int)) = true := decide_eq_true (by rw [hfn] at hp; omega)
            by_cases he : e = 0
            · subst he
              have hcl := fun (H : HL) (nx : Nat) (h2 : lookH H 2 = some (true, .ab (dP S [] 0 b))) => seizeO (nx := nx) (a := 2) (bb := 3) (c := 2) h2 hI.ok 1 (q : Nat) (hI.sn (by omega)) s1
              generalize hdL S 2 3 2 (2 - 1) = out at *
              refine rn [(93, .dec false), (101, .dec false), (109, .dec false), (117, .dec true), (124, .spec ⟨.tup [.c (.nm 6), .c (iT 0)], [(true, .own 3 1 out.length (ivs out))], [(2, some (.ab (dP S [] 0 b)))], []⟩)] rfl (by (repeat' (first | exact trivial | exact rfl | exact trivial | exact fun _ => trivial | first | exact hcl _ _ rfl | rfl | decide | refine And.intro ?_ ?_))) ?_
              exact cutEnd ⟨0, S, L, f0, f1, true, hI, Stp.same hB, fun h => (by cases h), hf0, hf1⟩ [] (by (repeat' (first | exact trivial | exact rfl | exact trivial | exact fun _ => trivial | exact hdf | refine And.intro ?_ ?_))) (by repeat' (first | exact trivial | exact rfl | refine And.intro ?_ ?_)) rfl
            · have hcl := fun (H : HL) (nx : Nat) (h2 : lookH H 2 = some (true, .ab (dP S [] 0 b))) => seizeX (nx := nx) (a := 2) (bb := 3) (c := 2) h2 hI.ok 1 (q : Nat) (hI.sn (by omega)) s1 he
              refine rn [(93, .dec false), (101, .dec false), (109, .dec false), (117, .dec true), (124, .spec ⟨.tup [.c .nsl, .c (iT e)], [], [(2, some (.ab (dP S [] 0 b)))], []⟩)] rfl (by (repeat' (first | exact trivial | exact rfl | exact trivial | exact fun _ => trivial | first | exact hcl _ _ rfl | rfl | decide | refine And.intro ?_ ?_))) ?_
              exact cutEnd ⟨e, S, L, f0, f1, true, hI, Stp.same hB, fun h => (by cases h), hf0, hf1⟩ [] (by (repeat' (first | exact trivial | exact rfl | exact trivial | exact fun _ => trivial | exact hdf | refine And.intro ?_ ?_))) (by repeat' (first | exact trivial | exact rfl | refine And.intro ?_ ?_)) rfl
        · -- raised
          have hcl := fun (H : HL) (nx : Nat) (h2 : lookH H 2 = some (true, .ab (dP S [] 0 b))) => raiseD (nx := nx) h2 hI.ok 1 (q : Nat)
          obtain ⟨t1, t2⟩ := hI.raise (node := 1) (ep := (q : Nat)) (by omega) (by omega)
          by_cases hp : (fnc f0 f1 1 : Int) ≤ (q : Nat)
          · obtain ⟨s1, s2⟩ := t1 hp
            simp only [if_true, show ¬ ((1 : Int) = 0) by omega, if_false, Int.toNat_natCast] at s2
            rw [s1] at hcl
            generalize rsS S 1 (q : Nat) = S' at *
            refine rn [(93, .dec false), (101, .dec false), (109, .dec false), (117, .dec false), (88, .spec ⟨.t (.c (iT 0)), [], [(2, some (.ab (dP S' [] 0 b)))], []⟩), (89, .dec true)] rfl (by (repeat' (first | exact trivial | exact rfl | exact trivial | exact fun _ => trivial | first | exact hcl _ _ rfl | rfl | decide | refine And.intro ?_ ?_))) ?_
            exact cutEnd ⟨0, S', L, f0, q, true, s2, Stp.same hB, fun h => (by cases h), by omega, by omega⟩ [] (by repeat' (first | exact trivial | exact rfl | refine And.intro ?_ ?_)) (by repeat' (first | exact trivial | exact rfl | refine And.intro ?_ ?_)) rfl
          · obtain ⟨s1, s2⟩ := t2 hp
            rw [s1, s2] at hcl
            refine rn [(93, .dec false), (101, .dec false), (109, .dec false), (117, .dec false), (88, .spec ⟨.t (.c (iT 1)), [], [(2, some (.ab (dP S [] 0 b)))], []⟩), (89, .dec false)] rfl (by (repeat' (first | exact trivial | exact rfl | exact trivial | exact fun _ => trivial | first | exact hcl _ _ rfl | rfl | decide | refine And.intro ?_ ?_))) ?_
            exact cutEnd ⟨0, S, L, f0, f1, true, hI, Stp.same hB, fun h => (by cases h), hf0, hf1⟩ [] (by repeat' (first | exact trivial | exact rfl | refine And.intro ?_ ?_)) (by repeat' (first | exact trivial | exact rfl | refine And.intro ?_ ?_)) rfl
        · -- let go
          obtain ⟨L', t1, t2, _⟩ := hI.away (node := 1) (ep := (q : Nat)) (o := 0) (by omega) (by omega) (by omega) hr8 hB (by omega)
          have hcl := fun (H : HL) (nx : Nat) (h2 : lookH H 2 = some (true, .ab (dP S [] 0 b))) => lfree_h (nx := nx) (a := 2) (bb := 3) (c := 2) h2 hI.ok 1 (q : Nat) (r : Nat)
          generalize awE S 2 3 2 1 (q : Nat) (r : Nat) 0 = e at *
          generalize awS S 2 3 2 1 (q : Nat) (r : Nat) 0 = S' at *
          refine rn [(93, .dec true), (100, .spec ⟨.t (.c (iT e)), [], [(2, some (.ab (dP S' [] 0 b)))], []⟩)] rfl (by (repeat' (first | exact trivial | exact rfl | exact trivial | exact fun _ => trivial | first | exact hcl _ _ rfl | rfl | decide | refine And.intro ?_ ?_))) ?_
          exact cutEnd ⟨e, S', L', f0, f1, decide ((q : Int) < (f1 : Int)), t1, t2, fun h => (by cases h), hf0, hf1⟩ [] (by repeat' (first | exact trivial | exact rfl | refine And.intro ?_ ?_)) (by repeat' (first | exact trivial | exact rfl | refine And.intro ?_ ?_)) rfl
        · exfalso
          omega
      · obtain ⟨e, S', L', g0, g1, ou, hI', hSt, hcl, hg0, hg1⟩ := z
        have hl8' : L'.length = 8 := by rw [hSt.len]; exact hl8
        have htb' := fun (H : HL) (nx : Nat) (h2 : lookH H 2 = some (true, .ab (dP S' [] 0 b))) => ltabO (nx := nx) h2 hI'.ok hI'.e
        rw [hI'.l] at htb'
        refine rnA [(130, .spec ⟨.tup [.c (.nm 6), .c (iT 0)], [(true, .own 46 2 L'.length (lcells L'))], [(2, some (.ab (dP S' [] 0 b)))], []⟩), (134, .dec false)] rfl (by (repeat' (first | exact trivial | exact rfl | exact trivial | exact fun _ => trivial | first | exact htb' _ _ rfl | rfl | decide | refine And.intro ?_ ?_))) ?_
        refine At.loop (X := (k : Nat) ×' (k ≤ L'.length)) 7 (fun x => L'.length - x.1)
          (fun x => [(0, .t (.c (.nm 0))), (3, .t (.c (.p 1 0))), (4, .t (.c (.nm 2))), (6, .t (.c (.p 3 0))), (7, .t (.c (iT (i : Nat)))), (8, .t (.c (.p 4 0))), (9, .t (.c (iT 1))), (10, .t (.c (iT (r : Nat)))), (12, .t (.c (.nm 5))), (13, .t (.c (iT e))), (14, .t (.c (.b ou))), (15, .t (.c (.nm 6))), (136, .t (.c (iT (L'.length : Nat)))), (137, .t (.c (iT (x.1 : Nat))))])
          (fun x => [(0, some (false, .rd 5 acts.length (lacells acts))), (1, some (true, .cells [iT 2, iT 3, iT 2] 23)), (2, some (true, .ab (dP S' [] 0 b))), (3, some (true, .cells [iT (g0 : Nat), iT (g1 : Nat)] 53)), (4, some (true, .cells [iT acts[i].kind, iT acts[i].node, iT acts[i].ep, iT acts[i].reg, .s acts[i].text] 34)), (5, some (true, .own 46 2 L.length (lcells L))), (6, some (true, .own 46 2 L'.length (lcells L')))]) ⟨0, by omega⟩ [] (fun x => wf rfl rfl) (by repeat' (first | exact trivial | exact rfl | refine And.intro ?_ ?_)) (by repeat' (first | exact trivial | exact rfl | refine And.intro ?_ ?_)) rfl fun x => ?_
        obtain ⟨k, hk⟩ := x
        have w4 : IntKind.i64.wrap ((k : Int) + 1) = ((k + 1 : Nat) : Int) := by rw [wrap_sm (by omega) (by omega)]; omega
        refine rn [] rfl (by repeat' (first | exact trivial | exact rfl | refine And.intro ?_ ?_)) ?_
        refine ⟨fun h1 => ?_, fun h1 => ?_⟩
        · have hk' : k < L'.length := by have : (k : Int) < (L'.length : Int) := of_decide_eq_true h1; omega
          clear h1
          have hkL : k < L.length := by omega
          have x1 : (lcells L)[(k : Int).toNat * 2]? = some (.int .i64 L[k].1) := by rw [Int.toNat_natCast]; exact (lcells_get L k hkL).1
          have x2 : (lcells L)[(k : Int).toNat * 2 + 1]? = some (.int .i64 L[k].2) := by rw [Int.toNat_natCast]; exact (lcells_get L k hkL).2
          have y1 : (lcells L')[(k : Int).toNat * 2]? = some (.int .i64 L'[k].1) := by rw [Int.toNat_natCast]; exact (lcells_get L' k hk').1
          have y2 : (lcells L')[(k : Int).toNat * 2 + 1]? = some (.int .i64 L'[k].2) := by rw [Int.toNat_natCast]; exact (lcells_get L' k hk').2
          have d0 : (0 : Int) ≤ (k : Int) := by omega
          have d1 : (k : Int) < (L'.length : Int) := by omega
          have d2 : (k : Int) < (L.length : Int) := by omega
          have d3 : (k : Int).toNat * 2 < (lcells L').length := by rw [lcells_length]; omega
          have d4 : (k : Int).toNat * 2 < (lcells L).length := by rw [lcells_length]; omega
          have hbk := hB _ (List.getElem_mem hkL)
          have htk := tok_iff (List.all_eq_true.1 hI.tk _ (List.getElem_mem hkL))
          have w5 : IntKind.i64.wrap (L[k].2 + 1) = L[k].2 + 1 := wrap_sm (by omega) (by omega)
          rcases hSt.st k hkL hk' with hs | ⟨hs1, hs2⟩
          · have u1 : (L'[k].1 == L[k].1) = true := by rw [hs]; simp
            have u2 : (L'[k].2 == L[k].2) = true := by rw [hs]; simp
            have u3 : (L'[k].2 != L[k].2) = false := by rw [hs]; simp
            have p1 : polB false (L'[k].1 == L[k].1 && (L'[k].2 == L[k].2 && true)) = false := by rw [u1, u2]; rfl
            have p2 : (!polB false (L'[k].1 == L[k].1 && (L'[k].2 == L[k].2 && true))) = true := by rw [u1, u2]; rfl
            refine rn [(143, .ld [iT L'[k].1, iT L'[k].2]), (147, .ld [iT L[k].1, iT L[k].2]), (150, .dec false), (167, .dec false), (170, .dec true), (175, .ld [iT L'[k].2]), (180, .ld [iT L[k].2]), (183, .dec false)] rfl (by (repeat' (first | exact trivial | exact rfl | exact trivial | exact fun _ => trivial | first | exact ⟨x1, x2, trivial⟩ | exact ⟨y1, y2, trivial⟩ | exact x2 | exact y2 | exact ⟨x2, trivial⟩ | exact ⟨y2, trivial⟩ | exact d0 | exact d1 | exact d2 | exact d3 | exact d4 | exact u3 | exact p1 | exact p2 | (rw [lcells_length]; omega) | rfl | decide | refine And.intro ?_ ?_))) ?_
            exact roundEnd ⟨k + 1, by omega⟩ [] (by show L'.length - (k + 1) < L'.length - k; omega) (by (repeat' (first | exact trivial | exact rfl | exact w4 | exact fun _ => w4 | refine And.intro ?_ ?_))) (by repeat' (first | exact trivial | exact rfl | refine And.intro ?_ ?_)) rfl
          · have v1 : (L'[k].2 != IntKind.i64.wrap (L[k].2 + 1)) = false := by rw [w5, hs2]; simp
            have v2 : (L'[k].2 == L[k].2) = false := by rw [hs2]; simp; omega
            have p1 : polB false (L'[k].1 == L[k].1 && (L'[k].2 == L[k].2 && true)) = true := by rw [v2]; cases (L'[k].1 == L[k].1) <;> rfl
            have p2 : (!polB false (L'[k].1 == L[k].1 && (L'[k].2 == L[k].2 && true))) = false := by rw [v2]; cases (L'[k].1 == L[k].1) <;> rfl
            refine rn [(143, .ld [iT L'[k].1, iT L'[k].2]), (147, .ld [iT L[k].1, iT L[k].2]), (150, .dec true), (152, .dec false), (157, .ld [iT L'[k].2]), (162, .ld [iT L[k].2]), (167, .dec false), (170, .dec false), (183, .dec false)] rfl (by (repeat' (first | exact trivial | exact rfl | exact trivial | exact fun _ => trivial | first | exact ⟨x1, x2, trivial⟩ | exact ⟨y1, y2, trivial⟩ | exact x2 | exact y2 | exact ⟨x2, trivial⟩ | exact ⟨y2, trivial⟩ | exact d0 | exact d1 | exact d2 | exact d3 | exact d4 | exact v1 | exact hs1 | exact p1 | exact p2 | (rw [lcells_length]; omega) | rfl | decide | refine And.intro ?_ ?_))) ?_
            exact roundEnd ⟨k + 1, by omega⟩ [] (by show L'.length - (k + 1) < L'.length - k; omega) (by (repeat' (first | exact trivial | exact rfl | exact w4 | exact fun _ => w4 | refine And.intro ?_ ?_))) (by repeat' (first | exact trivial | exact rfl | refine And.intro ?_ ?_)) rfl
        · refine rn [] rfl (by repeat' (first | exact trivial | exact rfl | refine And.intro ?_ ?_)) (roundExit rfl ?_)
          have hh0 := fun (H : HL) (nx : Nat) (h2 : lookH H 2 = some (true, .ab (dP S' [] 0 b))) => lheldO (nx := nx) h2 hI'.ok (node := 0) (hI'.sn (by omega))
          have hh1 := fun (H : HL) (nx : Nat) (h2 : lookH H 2 = some (true, .ab (dP S' [] 0 b))) => lheldO (nx := nx) h2 hI'.ok (node := 1) (hI'.sn (by omega))
          simp only [hdL, hI'.l] at hh0 hh1
          have hdj : ∀ x ∈ held L' (0 + 1) L'.length, x ∉ held L' (1 + 1) L'.length := held_dj L'
          have hle0 := held_le L' (0 + 1) L'.length
          have hle1 := held_le L' (1 + 1) L'.length
          generalize held L' (0 + 1) L'.length = o1 at *
          generalize held L' (1 + 1) L'.length = o2 at *
          have hsh := fun (H : HL) (nx : Nat) (h7 : lookH H 7 = some (true, .own 3 1 o1.length (ivs o1))) (h8 : lookH H 8 = some (true, .own 3 1 o2.length (ivs o2))) => shared_h (nx := nx) (SlR.own h7) (SlR.own h8) (by omega) (by omega) hdj
          have hnext : ∀ x ∈ L', x.2 ≤ ((i + 1 : Nat) : Int) := fun x hx => by have := hSt.bd x hx; omega
          have hfin : i + 1 ≤ 60 ∧ i + 1 ≤ acts.length := by omega
          by_cases hk0 : kd = 0
          · subst hk0
            by_cases he0 : e = 0
            · subst he0
              have hr' : r < L'.length := by omega
              have hown := hcl rfl rfl hr'
              have y1 : (lcells L')[(r : Int).toNat * 2]? = some (.int .i64 L'[r].1) := by rw [Int.toNat_natCast]; exact (lcells_get L' r hr').1
              have d0 : (0 : Int) ≤ (r : Int) := by omega
              have d1 : (r : Int) < (L'.length : Int) := by omega
              have d3 : (r : Int).toNat * 2 < (lcells L').length := by rw [lcells_length]; omega
              have gO : (L'[r].1 != IntKind.i64.wrap (1 + 1)) = false := by rw [hown]; rfl
              refine rnA [(187, .ret (.t (.c (iT ((0 : Nat) : Int))))), (189, .dec true), (193, .dec true), (198, .ld [iT L'[r].1]), (202, .dec false), (206, .spec ⟨.tup [.c (.nm 7), .c (iT 0)], [(true, .own 3 1 o1.length (ivs o1))], [(2, some (.ab (dP S' [] 0 b)))], []⟩), (212, .spec ⟨.tup [.c (.nm 8), .c (iT 0)], [(true, .own 3 1 o2.length (ivs o2))], [(2, some (.ab (dP S' [] 0 b)))], []⟩), (217, .dec false), (221, .dec false), (224, .spec ⟨.t (.c (.b false)), [], [], []⟩), (225, .dec false)] rfl
                (by (repeat' (first | exact trivial | exact rfl | exact trivial | exact fun _ => trivial | first | exact am5 | exact y1 | exact ⟨y1, trivial⟩ | exact d0 | exact d1 | exact d3 | exact gO | exact hh0 _ _ rfl | exact hh1 _ _ rfl | exact hsh _ _ rfl rfl | (rw [lcells_length]; omega) | rfl | decide | refine And.intro ?_ ?_))) ?_
              exact roundEnd ⟨i + 1, S', L', g0, g1, hI', hl8', hnext, hg0, hg1, hfin.1, hfin.2⟩ [] (by show acts.length - (i + 1) < acts.length - i; omega) (by (repeat' (first | exact trivial | exact rfl | exact w3 | exact fun _ => w3 | refine And.intro ?_ ?_))) (by repeat' (first | exact trivial | exact rfl | refine And.intro ?_ ?_)) rfl
            · have gE : (e == 0) = false := by simpa using he0
              refine rnA [(187, .ret (.t (.c (iT ((0 : Nat) : Int))))), (189, .dec true), (193, .dec false), (202, .dec false), (206, .spec ⟨.tup [.c (.nm 7), .c (iT 0)], [(true, .own 3 1 o1.length (ivs o1))], [(2, some (.ab (dP S' [] 0 b)))], []⟩), (212, .spec ⟨.tup [.c (.nm 8), .c (iT 0)], [(true, .own 3 1 o2.length (ivs o2))], [(2, some (.ab (dP S' [] 0 b)))], []⟩), (217, .dec false), (221, .dec false), (224, .spec ⟨.t (.c (.b false)), [], [], []⟩), (225, .dec false)] rfl
                (by (repeat' (first | exact trivial | exact rfl | exact trivial | exact fun _ => trivial | first | exact am5 | exact gE | exact hh0 _ _ rfl | exact hh1 _ _ rfl | exact hsh _ _ rfl rfl | rfl | decide | refine And.intro ?_ ?_))) ?_
              exact roundEnd ⟨i + 1, S', L', g0, g1, hI', hl8', hnext, hg0, hg1, hfin.1, hfin.2⟩ [] (by show acts.length - (i + 1) < acts.length - i; omega) (by (repeat' (first | exact trivial | exact rfl | exact w3 | exact fun _ => w3 | refine And.intro ?_ ?_))) (by repeat' (first | exact trivial | exact rfl | refine And.intro ?_ ?_)) rfl
          · have gK : ((kd : Int) == 0) = false := by simp; omega
            refine rnA [(187, .ret (.t (.c (iT (kd : Nat))))), (189, .dec false), (193, .dec false), (202, .dec false), (206, .spec ⟨.tup [.c (.nm 7), .c (iT 0)], [(true, .own 3 1 o1.length (ivs o1))], [(2, some (.ab (dP S' [] 0 b)))], []⟩), (212, .spec ⟨.tup [.c (.nm 8), .c (iT 0)], [(true, .own 3 1 o2.length (ivs o2))], [(2, some (.ab (dP S' [] 0 b)))], []⟩), (217, .dec false), (221, .dec false), (224, .spec ⟨.t (.c (.b false)), [], [], []⟩), (225, .dec false)] rfl
              (by (repeat' (first | exact trivial | exact rfl | exact trivial | exact fun _ => trivial | first | exact am5 | exact gK | exact hh0 _ _ rfl | exact hh1 _ _ rfl | exact hsh _ _ rfl rfl | rfl | decide | refine And.intro ?_ ?_))) ?_
            exact roundEnd ⟨i + 1, S', L', g0, g1, hI', hl8', hnext, hg0, hg1, hfin.1, hfin.2⟩ [] (by show acts.length - (i + 1) < acts.length - i; omega) (by (repeat' (first | exact trivial | exact rfl | exact w3 | exact fun _ => w3 | refine And.intro ?_ ?_))) (by repeat' (first | exact trivial | exact rfl | refine And.intro ?_ ?_)) rfl
  | false =>
    refine rn [(53, .dec false)] rfl (by (repeat' (first | exact trivial | exact rfl | exact trivial | exact fun _ => trivial | exact hc | refine And.intro ?_ ?_))) (roundExit rfl ?_)
    refine rnA [] rfl (by repeat' (first | exact trivial | exact rfl | refine And.intro ?_ ?_)) ?_
    exact ret0 tysOk rfl (by repeat' (first | exact trivial | exact rfl | refine And.intro ?_ ?_)) rfl
theorem leaseOne_true (acts : List LAct) (A1 : Option Addr) (c1 : Nat) (w : World) (zl : acts.length ≤ 100000000000000) (h1 : Vc.Rds w A1 acts.length c1 5 (lacells acts)) :
    Calls Tryz.prog 4 #[.slice A1 acts.length c1] w fun e w' => e = .returned (.bool true) ∧ RowKit.Below w.heap.size w w' := by
  obtain ⟨e, M, v0⟩ := memr1 h1
  have := fnh_law (leaseOne_h acts zl) rfl rfl M
  rw [show ([.c (.nm 0)] : List TV).map (TV.den e) = [e.val 0] from rfl, v0] at this
  exact this
end Cw
