/- The statement LeasePlays: the walk. -/
import Derived.Test.YtjnbdhgkoolhnaaGreatSid
import Derived.Test.YtjnbdhgkoolhnaaGreatFmt
namespace Cw
open Go Vc
open Go.Proofs
set_option maxRecDepth 100000
/-- No disk. -/
theorem ltabN (a b c : Int) : Fn0 Tryz.prog 10 [.c .np, geoT a b c] (.tup [.c .nsl, .c (iT 5)]) := by
  refine fn0 (fn := Tryz.f10) 52 rfl rfl rfl rfl rfl fun w => ?_
  refine rn [(15, .dec true)] rfl (by (repeat' (first | exact trivial | exact rfl | exact trivial | exact fun _ => trivial | first | rfl | decide | refine And.intro ?_ ?_))) ?_
  exact ret0 tysOk rfl (by repeat' (first | exact trivial | exact rfl | refine And.intro ?_ ?_)) rfl
theorem lseenN (a b c n : Int) : Fn0 Tryz.prog 70 [.c .np, geoT a b c, .c (iT n)] (.tup [.c .nsl, .c (iT 5)]) := by
  refine fn0 (fn := Tryz.f70) 28 rfl rfl rfl rfl rfl fun w => ?_
  refine rn [(13, .ret (.tup [.c .nsl, .c (iT 5)])), (16, .dec true)] rfl (by (repeat' (first | exact trivial | exact rfl | exact ltabN a b c | exact fun _ => ltabN a b c | first | rfl | decide | refine And.intro ?_ ?_))) ?_
  exact ret0 tysOk rfl (by repeat' (first | exact trivial | exact rfl | refine And.intro ?_ ?_)) rfl
theorem lleaseN (a b c n ep r : Int) : Fn0 Tryz.prog 60 [.agg [.np, iT a, iT b, iT c, iT n, iT ep], .c (iT r)] (.tup [lT (0, 0), .c (iT 5)]) := by
  refine fn0 (fn := Tryz.f60) 37 rfl rfl rfl rfl rfl fun w => ?_
  refine rn [(15, .ret (.tup [.c .nsl, .c (iT 5)])), (18, .dec true)] rfl (by (repeat' (first | exact trivial | exact rfl | exact lseenN a b c n | exact fun _ => lseenN a b c n | first | rfl | decide | refine And.intro ?_ ?_))) ?_
  exact ret0 tysOk rfl (by repeat' (first | exact trivial | exact rfl | refine And.intro ?_ ?_)) rfl
theorem lclaimN (a b c n ep r : Int) : Fn0 Tryz.prog 12 [.c .np, geoT a b c, .c (iT n), .c (iT ep), .c (iT r)] (.t (.c (iT 5))) := by
  refine fn0 (fn := Tryz.f12) 46 rfl rfl rfl rfl rfl fun w => ?_
  refine rn [(22, .ret (.tup [lT (0, 0), .c (iT 5)])), (28, .dec true), (25, .dec true)] rfl (by (repeat' (first | exact trivial | exact rfl | exact lleaseN a b c n ep r | exact fun _ => lleaseN a b c n ep r | first | rfl | decide | refine And.intro ?_ ?_))) ?_
  exact ret0 tysOk rfl (by repeat' (first | exact trivial | exact rfl | refine And.intro ?_ ?_)) rfl
theorem lawayN (a b c n ep r o : Int) : Fn0 Tryz.prog 62 [.agg [.np, iT a, iT b, iT c, iT n, iT ep], .c (iT r), .c (iT o)] (.t (.c (iT 5))) := by
  refine fn0 (fn := Tryz.f62) 31 rfl rfl rfl rfl rfl fun w => ?_
  refine rn [(12, .ret (.tup [lT (0, 0), .c (iT 5)])), (15, .dec true)] rfl (by (repeat' (first | exact trivial | exact rfl | exact lleaseN a b c n ep r | exact fun _ => lleaseN a b c n ep r | first | rfl | decide | refine And.intro ?_ ?_))) ?_
  exact ret0 tysOk rfl (by repeat' (first | exact trivial | exact rfl | refine And.intro ?_ ?_)) rfl
theorem lpassN (a b c n ep r : Int) : Fn0 Tryz.prog 13 [.c .np, geoT a b c, .c (iT n), .c (iT ep), .c (iT r)] (.t (.c (iT 5))) := by
  refine fn0 (fn := Tryz.f13) 21 rfl rfl rfl rfl rfl fun w => ?_
  refine rn [(18, .ret (.t (.c (iT (IntKind.i64.wrap (1 - n)))))), (20, .ret (.t (.c (iT 5))))] rfl (by (repeat' (first | exact trivial | exact rfl | exact other0 n | exact fun _ => other0 n | first | exact lawayN a b c n ep r _ | rfl | decide | refine And.intro ?_ ?_))) ?_
  exact ret0 tysOk rfl (by repeat' (first | exact trivial | exact rfl | refine And.intro ?_ ?_)) rfl
theorem sameY_h {H : HL} {nx x n : Nat} {N : SdN} (hx : lookH H x = some (true, .ab (sideY N n))) (hn : n ≤ 100) :
    FnH Tryz.prog 9 [.c (.nm x)] H nx ⟨.t (.c (.b true)), [], [(x, some (.ab (sideY N n)))], []⟩ :=
  fnh_ex hx (fun _ => side_st _ _) (fun _ => side_st _ _) fun S => sdsame_h look_eq S.2 hn
theorem sideX_nn (n : Nat) : NotNil (sideX n) := fun v F w ⟨N, h⟩ => ⟨N.bx, sideY_pins N n v F w h⟩
theorem pair_ne (x y : Int) : (!polB false (x == x && (y == y && true))) = true := by simp [polB]
theorem pair_eq (x y : Int) : polB false (x == x && (y == y && true)) = false := by simp [polB]
set_option maxRecDepth 100000 in
set_option maxHeartbeats 16000000 in
theorem leasePlays_h (a b c p q r : Int) (acts : List PAct) (zl : acts.length ≤ 100000000000000) (ht : ∀ y ∈ acts, y.text.size ≤ maxLen) :
    FnH Tryz.prog 3 [geoT a b c, geoT p q r, .c (.nm 0)] [(0, some (false, .rd 5 acts.length (pacells acts)))] 1 ⟨.t (.c (.b true)), [], [], []⟩ := by
  refine fnR (fn := Tryz.f3) 123 rfl rfl rfl (args' := [geoT a b c, geoT p q r, .c (.nm 0)]) (H' := [(0, some (false, .rd 5 acts.length (pacells acts)))]) (nx' := 1) (fun e w M => ⟨_, mem_rd (fun n => n) (H' := [(0, some (false, .rd 5 acts.length (pacells acts)))]) ⟨⟨false, rfl⟩, trivial⟩ M, rfl⟩) rfl rfl rfl rfl fun w => ?_
  by_cases hg : ¬ Gok a b c
  · refine rn [(18, .spec ⟨.t (.c (.b true)), [], [], []⟩), (19, .dec false), (22, .spec ⟨.tup [.c .nsl, .c (iT 4)], [], [], []⟩), (27, .dec true), (31, .dec true)] rfl (by (repeat' (first | exact trivial | exact rfl | exact trivial | exact fun _ => trivial | first | exact lworks_h | exact rformat_no hg | rfl | decide | refine And.intro ?_ ?_))) ?_
    exact ret0 tysOk rfl (by repeat' (first | exact trivial | exact rfl | refine And.intro ?_ ?_)) rfl
  have hg := Decidable.not_not.1 hg
  obtain ⟨an, rfl⟩ := Int.eq_ofNat_of_zero_le (show 0 ≤ a by have := hg.1; omega)
  obtain ⟨bn, rfl⟩ := Int.eq_ofNat_of_zero_le (show 0 ≤ b by have := hg.2.2.1; omega)
  obtain ⟨cn, rfl⟩ := Int.eq_ofNat_of_zero_le (show 0 ≤ c by have := hg.2.2.2.2.1; omega)
  have hfm := fun (H : HL) (nx : Nat) => rformat_h (H := H) (nx := nx) hg
  have hsb := size_bdN hg
  have hsz : ∀ s ∈ fmtR an bn cn, s.size ≤ maxLen := fmtR_sz
  have hfl := fmtR_len an bn cn
  have hnt := ltabN an bn cn
  have hnc := lclaimN an bn cn 0 0 0
  have hnp := lpassN an bn cn 0 0 0
  generalize fmtR an bn cn = l at *
  generalize size an bn cn = n at *
  by_cases h100 : 100 < n
  · have g : decide ((100 : Int) < (n : Int)) = true := decide_eq_true (by omega)
    refine rn [(18, .spec ⟨.t (.c (.b true)), [], [], []⟩), (19, .dec false), (22, .spec ⟨.tup [.c (.nm 3), .c (iT 0)], [(true, .own 9 1 n (svs l))], [], []⟩), (27, .dec false), (31, .dec true)] rfl (by (repeat' (first | exact trivial | exact rfl | exact trivial | exact fun _ => trivial | first | exact lworks_h | exact hfm _ _ | exact g | rfl | decide | refine And.intro ?_ ?_))) ?_
    exact ret0 tysOk rfl (by repeat' (first | exact trivial | exact rfl | refine And.intro ?_ ?_)) rfl
  have g : decide ((100 : Int) < (n : Int)) = false := decide_eq_false (by omega)
  have hbe := fun (H : HL) (nx : Nat) (h3 : lookH H 3 = some (true, .own 9 1 n (svs l))) => by
    have := beside_h (H := H) (nx := nx) (v := .c (.nm 3)) (l := l) (by rw [hfl]; exact SlR.own h3) (by omega) (by omega) hsz
    rw [hfl] at this
    exact this
  refine rn [(18, .spec ⟨.t (.c (.b true)), [], [], []⟩), (19, .dec false), (22, .spec ⟨.tup [.c (.nm 3), .c (iT 0)], [(true, .own 9 1 n (svs l))], [], []⟩), (27, .dec false), (31, .dec false), (35, .spec ⟨.t (.c (.nm 4)), [(true, .ab (sideX n))], [], []⟩), (37, .spec ⟨.t (.c (.b false)), [], [], []⟩)] rfl
    (by (repeat' (first | exact trivial | exact rfl | exact trivial | exact fun _ => trivial | first | exact lworks_h | exact hfm _ _ | exact hbe _ _ rfl | exact g | exact spec_nil tysOk rfl rfl rfl rfl rfl rfl (sideX_nn _) | rfl | decide | refine And.intro ?_ ?_))) ?_
  refine ⟨fun h => (by cases h), fun _ => ?_⟩
  refine At.ex (φ := fun N => sideY N n) 4 rfl (fun _ => sideY_st _ _) fun N => ?_
  refine rn [] rfl (by repeat' (first | exact trivial | exact rfl | refine And.intro ?_ ?_)) ?_
  refine At.loop (X := (i : Nat) ×' (i ≤ 40 ∧ i ≤ acts.length)) 5 (fun x => acts.length - x.1)
    (fun x => [(2, .t (.c (.nm 0))), (3, .t (.c (.p 1 0))), (4, .t (.c (.p 2 0))), (9, .t (.c (.nm 4))), (10, .t (.c (iT (x.1 : Nat))))])
    (fun x => [(0, some (false, .rd 5 acts.length (pacells acts))), (1, some (true, .cells [iT an, iT bn, iT cn] 23)), (2, some (true, .cells [iT p, iT q, iT r] 23)), (4, some (true, .ab (sideY N n)))]) ⟨0, by omega, by omega⟩ [] (fun x => wf rfl rfl) (by repeat' (first | exact trivial | exact rfl | refine And.intro ?_ ?_)) (by repeat' (first | exact trivial | exact rfl | refine And.intro ?_ ?_)) rfl fun x => ?_
  obtain ⟨i, hi40, hil⟩ := x
  have w3 : IntKind.i64.wrap ((i : Int) + 1) = ((i + 1 : Nat) : Int) := by rw [wrap_sm (by omega) (by omega)]; omega
  cases hc : decide ((i : Int) < (acts.length : Nat)) && decide ((i : Int) < 40) with
  | false =>
    refine rn [(45, .dec false)] rfl (by (repeat' (first | exact trivial | exact rfl | exact trivial | exact fun _ => trivial | exact hc | refine And.intro ?_ ?_))) (roundExit rfl ?_)
    refine rnA [(106, .ret (.tup [.c .nsl, .c (iT 5)])), (109, .dec true), (113, .dec true), (115, .ret (.t (.c (iT 5)))), (118, .dec true), (120, .ret (.t (.c (iT 5))))] rfl (by (repeat' (first | exact trivial | exact rfl | exact trivial | exact fun _ => trivial | first | exact hnt | exact hnc | exact hnp | rfl | decide | refine And.intro ?_ ?_))) ?_
    exact ret0 tysOk rfl (by repeat' (first | exact trivial | exact rfl | refine And.intro ?_ ?_)) rfl
  | true =>
    have hlt : i < acts.length := by have := of_decide_eq_true (Bool.and_eq_true_iff.1 hc).1; omega
    have h40 : i < 40 := by have := of_decide_eq_true (Bool.and_eq_true_iff.1 hc).2; omega
    have r1 := pacells_rd hlt
    have b0 : (0 : Int) ≤ (i : Int) := by omega
    have b1 : (i : Int) < (acts.length : Int) := by omega
    have c5 : (i : Int).toNat * 5 < (pacells acts).length := by rw [pacells_len]; omega
    have hty := ht _ (List.getElem_mem hlt)
    obtain ⟨z, hz⟩ : ∃ z : Bool, z = true := ⟨_, rfl⟩
    have hsm : ∀ (H : HL) (nx : Nat), lookH H 4 = some (true, .ab (sideY N n)) → FnH Tryz.prog 9 [.c (.nm 4)] H nx ⟨.t (.c (.b z)), [], [(4, some (.ab (sideY N n)))], []⟩ := fun H nx h4 => by
      rw [hz]
      exact sameY_h h4 (by omega)
    refine At.ex (φ := fun S : { S : List ByteArray // DOk n S [] 0 } => sideP N S.1) 4 rfl (fun _ => side_st _ _) fun ⟨S0, hD0⟩ => ?_
    have hst := fun (H : HL) (nx : Nat) (h4 : lookH H 4 = some (true, .ab (sideP N S0))) => pstep_h (nx := nx) h4 hD0 (by omega) p q r acts[i] hty
    refine rn [(45, .dec true), (53, .ld [iT acts[i].kind, iT acts[i].node, iT acts[i].ep, iT acts[i].reg, .s acts[i].text]), (54, .spec ⟨.t (.c (.b true)), [], [(4, some (.ab (sideY N n)))], []⟩), (56, .dec false), (58, .spec ⟨.t (.c (.b z)), [], [(4, some (.ab (sideY N n)))], []⟩)] rfl
      (by (repeat' (first | exact trivial | exact rfl | exact trivial | exact fun _ => trivial | first | exact hc | exact r1 | exact b0 | exact b1 | exact c5 | exact hst _ _ rfl | exact hsm _ _ rfl | rfl | decide | refine And.intro ?_ ?_))) ?_
    refine ⟨fun h => ?_, fun _ => ?_⟩
    · exact absurd (show (!z) = true from h) (by rw [hz]; decide)
    · refine At.ex (φ := fun S : { S : List ByteArray // DOk n S [] 0 } => sideP N S.1) 4 rfl (fun _ => side_st _ _) fun ⟨S, hD⟩ => ?_
      obtain ⟨b, bs, bd, br, bk, bc, bx⟩ := N
      refine At.unfoldTo 4 (L1 := _) (H1 := (5, some (true, .cells [.p 10 0, .p 11 0, .p 12 0, .p 13 0] 43)) :: (6, some (true, .ab (dP S [] 0 b))) :: (7, some (true, .ab (sfB [] [] 0 bs bd b))) :: (8, some (true, .ab (rdP S [] 0 br))) :: (9, some (true, .ab (kP bk bc br))) :: (10, some (false, .pin 10 b)) :: (11, some (false, .pin 11 bs)) :: (12, some (false, .pin 12 br)) :: (13, some (false, .pin 13 bk)) :: (14, some (false, .pin 14 bd)) :: (15, some (false, .pin 15 bc)) :: (16, some (false, .pin 5 bx)) :: (4, none) :: _) (nx1 := 17) rfl rfl rfl rfl rfl rfl ?_
      by_cases he : tbE S p q r = 0
      · have hP := fun (H : HL) (nx : Nat) (h : lookH H 6 = some (true, .ab (dP S [] 0 b))) => ltabO (nx := nx) h hD he
        have hR := fun (H : HL) (nx : Nat) (h : lookH H 8 = some (true, .ab (rdP S [] 0 br))) => rltabO (nx := nx) h hD he
        have hL132 := tbL_le S p q r
        generalize tbL S p q r = L at *
        have g2 : (((L.length : Nat) : Int) != (L.length : Nat)) = false := by simp
        refine rn [(67, .spec ⟨.tup [.c (.nm 17), .c (iT 0)], [(true, .own 46 2 L.length (lcells L))], [(6, some (.ab (dP S [] 0 b)))], []⟩), (76, .spec ⟨.tup [.c (.nm 18), .c (iT 0)], [(true, .own 46 2 L.length (lcells L))], [(8, some (.ab (rdP S [] 0 br)))], []⟩), (30067, .dec true), (30076, .dec true), (84, .dec false), (88, .dec false)] rfl
          (by (repeat' (first | exact trivial | exact rfl | exact trivial | exact fun _ => trivial | first | exact fnh_al1 (d := 6) rfl (disk_pins _ _ _ _) rfl (hP _ _ rfl) | exact fnh_al1 (d := 8) rfl (rd_pins _ _ _ _) rfl (hR _ _ rfl) | exact g2 | rfl | decide | refine And.intro ?_ ?_))) ?_
        refine At.loop (X := (k : Nat) ×' (k ≤ L.length)) 19 (fun x => L.length - x.1)
          (fun x => [(2, .t (.c (.nm 0))), (3, .t (.c (.p 1 0))), (4, .t (.c (.p 2 0))), (9, .t (.c (.p 5 0))), (10, .t (.c (iT (i : Nat)))), (11, .t (.c (.nm 17))), (13, .t (.c (.nm 18))), (15, .t (.c (iT (x.1 : Nat))))])
          (fun x => [(0, some (false, .rd 5 acts.length (pacells acts))), (1, some (true, .cells [iT an, iT bn, iT cn] 23)), (2, some (true, .cells [iT p, iT q, iT r] 23)),
            (5, some (true, .cells [.p 10 0, .p 11 0, .p 12 0, .p 13 0] 43)), (6, some (true, .ab (dP S [] 0 b))), (7, some (true, .ab (sfB [] [] 0 bs bd b))), (8, some (true, .ab (rdP S [] 0 br))), (9, some (true, .ab (kP bk bc br))), (10, some (false, .pin 10 b)), (11, some (false, .pin 11 bs)), (12, some (false, .pin 12 br)), (13, some (false, .pin 13 bk)), (14, some (false, .pin 14 bd)), (15, some (false, .pin 15 bc)), (16, some (false, .pin 5 bx)),
            (17, some (true, .own 46 2 L.length (lcells L))), (18, some (true, .own 46 2 L.length (lcells L)))]) ⟨0, by omega⟩ [] (fun x => wf rfl rfl) (by repeat' (first | exact trivial | exact rfl | refine And.intro ?_ ?_)) (by repeat' (first | exact trivial | exact rfl | refine And.intro ?_ ?_)) rfl fun x => ?_
        obtain ⟨k, hk⟩ := x
        have w4 : IntKind.i64.wrap ((k : Int) + 1) = ((k + 1 : Nat) : Int) := by rw [wrap_sm (by omega) (by omega)]; omega
        refine rn [] rfl (by repeat' (first | exact trivial | exact rfl | refine And.intro ?_ ?_)) ?_
        refine ⟨fun h1 => ?_, fun h1 => ?_⟩
        · have hkl : k < L.length := by have : (k : Int) < (L.length : Int) := of_decide_eq_true h1; omega
          clear h1
          have x1 : (lcells L)[(k : Int).toNat * 2]? = some (.int .i64 L[k].1) := by rw [Int.toNat_natCast]; exact (lcells_get L k hkl).1
          have x2 : (lcells L)[(k : Int).toNat * 2 + 1]? = some (.int .i64 L[k].2) := by rw [Int.toNat_natCast]; exact (lcells_get L k hkl).2
          have d0 : (0 : Int) ≤ (k : Int) := by omega
          have d1 : (k : Int) < (L.length : Int) := by omega
          have d3 : (k : Int).toNat * 2 < (lcells L).length := by rw [lcells_length]; omega
          refine rn [(98, .ld [iT L[k].1, iT L[k].2]), (102, .ld [iT L[k].1, iT L[k].2]), (103, .dec false)] rfl (by (repeat' (first | exact trivial | exact rfl | exact trivial | exact fun _ => trivial | first | exact ⟨x1, x2, trivial⟩ | exact d0 | exact d1 | exact d3 | exact pair_ne _ _ | exact pair_eq _ _ | rfl | decide | refine And.intro ?_ ?_))) ?_
          exact roundEnd ⟨k + 1, by omega⟩ [] (by show L.length - (k + 1) < L.length - k; omega) (by (repeat' (first | exact trivial | exact rfl | exact w4 | exact fun _ => w4 | refine And.intro ?_ ?_))) (by repeat' (first | exact trivial | exact rfl | refine And.intro ?_ ?_)) rfl
        · refine rn [] rfl (by repeat' (first | exact trivial | exact rfl | refine And.intro ?_ ?_)) (roundExit rfl ?_)
          refine rnA [] rfl (by repeat' (first | exact trivial | exact rfl | refine And.intro ?_ ?_)) ?_
          refine Done.foldR 9 (.p 5 0) [(0, 5), (1, 6), (2, 7), (3, 8), (4, 9), (5, 10), (6, 11), (7, 12), (8, 13), (9, 14), (10, 15), (11, 16)] (sideO ⟨b, bs, bd, br, bk, bc, bx⟩ S) (.p 0 0) rfl (by repeat' (first | exact trivial | exact rfl | refine And.intro ?_ ?_)) (by repeat' (first | exact trivial | exact rfl | refine And.intro ?_ ?_)) rfl rfl (fun _ => rfl) ?_
          refine Done.weak 19 (φ' := sideY ⟨b, bs, bd, br, bk, bc, bx⟩ n) rfl (sideY_st _ _) (fun v F w h => ⟨⟨S, hD⟩, h⟩) ?_
          exact roundEnd ⟨i + 1, by omega, by omega⟩ [(4, 19)] (by show acts.length - (i + 1) < acts.length - i; omega) (by (repeat' (first | exact trivial | exact rfl | exact w3 | exact fun _ => w3 | refine And.intro ?_ ?_))) (by repeat' (first | exact trivial | exact rfl | refine And.intro ?_ ?_)) rfl
      · obtain ⟨e, hee⟩ : ∃ e, tbE S p q r = e := ⟨_, rfl⟩
        rw [hee] at he
        have hP := fun (H : HL) (nx : Nat) (h : lookH H 6 = some (true, .ab (dP S [] 0 b))) => ltabE (nx := nx) h hD hee he
        have hR := fun (H : HL) (nx : Nat) (h : lookH H 8 = some (true, .ab (rdP S [] 0 br))) => rltabE (nx := nx) h hD hee he
        have g2 : (e != e) = false := by simp
        refine rn [(67, .spec ⟨.tup [.c .nsl, .c (iT e)], [], [(6, some (.ab (dP S [] 0 b)))], []⟩), (76, .spec ⟨.tup [.c .nsl, .c (iT e)], [], [(8, some (.ab (rdP S [] 0 br)))], []⟩), (30067, .dec true), (30076, .dec true), (84, .dec false), (88, .dec false)] rfl
          (by (repeat' (first | exact trivial | exact rfl | exact trivial | exact fun _ => trivial | first | exact fnh_al1 (d := 6) rfl (disk_pins _ _ _ _) rfl (hP _ _ rfl) | exact fnh_al1 (d := 8) rfl (rd_pins _ _ _ _) rfl (hR _ _ rfl) | exact g2 | rfl | decide | refine And.intro ?_ ?_))) ?_
        refine At.unroll ?_
        refine rn [(92, .dec false)] rfl (by (repeat' (first | exact trivial | exact rfl | exact trivial | exact fun _ => trivial | first | rfl | decide | refine And.intro ?_ ?_))) (nextExit rfl ?_)
        refine rnA [] rfl (by repeat' (first | exact trivial | exact rfl | refine And.intro ?_ ?_)) ?_
        refine Done.foldR 9 (.p 5 0) [(0, 5), (1, 6), (2, 7), (3, 8), (4, 9), (5, 10), (6, 11), (7, 12), (8, 13), (9, 14), (10, 15), (11, 16)] (sideO ⟨b, bs, bd, br, bk, bc, bx⟩ S) (.p 0 0) rfl (by repeat' (first | exact trivial | exact rfl | refine And.intro ?_ ?_)) (by repeat' (first | exact trivial | exact rfl | refine And.intro ?_ ?_)) rfl rfl (fun _ => rfl) ?_
        refine Done.weak 17 (φ' := sideY ⟨b, bs, bd, br, bk, bc, bx⟩ n) rfl (sideY_st _ _) (fun v F w h => ⟨⟨S, hD⟩, h⟩) ?_
        exact roundEnd ⟨i + 1, by omega, by omega⟩ [(4, 17)] (by show acts.length - (i + 1) < acts.length - i; omega) (by (repeat' (first | exact trivial | exact rfl | exact w3 | exact fun _ => w3 | refine And.intro ?_ ?_))) (by repeat' (first | exact trivial | exact rfl | refine And.intro ?_ ?_)) rfl
theorem leasePlays_true (a b c p q r : Int) (acts : List PAct) (A1 : Option Addr) (c1 : Nat) (w : World) (zl : acts.length ≤ 100000000000000) (ht : ∀ y ∈ acts, y.text.size ≤ maxLen) (h1 : Vc.Rds w A1 acts.length c1 5 (pacells acts)) :
    Calls Tryz.prog 3 #[geo a b c, geo p q r, .slice A1 acts.length c1] w fun e w' => e = .returned (.bool true) ∧ RowKit.Below w.heap.size w w' := by
  obtain ⟨e, M, v0⟩ := memr1 h1
  have := fnh_law (leasePlays_h a b c p q r acts zl ht) rfl rfl M
  rw [show ([geoT a b c, geoT p q r, .c (.nm 0)] : List TV).map (TV.den e) = [geo a b c, geo p q r, e.val 0] from rfl, v0] at this
  exact this
end Cw
