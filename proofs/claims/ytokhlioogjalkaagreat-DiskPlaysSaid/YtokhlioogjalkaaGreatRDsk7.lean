/- The statement DiskPlays, by reckoning. -/
import Derived.Test.YtokhlioogjalkaaGreatRDsk6
namespace Cw
open Go Vc
open Go.Proofs
set_option maxRecDepth 100000
/-- How long the sectors' slice is: a thing that is shut, read by its number. -/
theorem spec_lenS {L : LL} {H : HL} {nx d q b : Nat} {b1 b2 : Bool} {o : Oper} {T : TypeId} {I : Ty} {x : Operand} {S : List ByteArray} {W : List (Int × Wr)} {last : Int} (hop : o.op = .load T x) (hI : Vc.look T tys = some I) (hsz : I.size = 1) (hmk : ∀ v, mkV I [.raw v] = some (.c (.raw v)))
    (hx : ev L x = some (.c (.p q 0))) (hq : lookH H q = some (b2, .pin q b)) (hd : lookH H d = some (b1, .ab (rdP S W last b))) : Spec Tryz.prog L H nx o ⟨.t (.c (.nm nx)), [(false, .rd 0 S.length [])], [], []⟩ := by
  refine ⟨fun F => ?_⟩
  have hT := tysOk _ _ hI
  intro hlow e a w S' K Q hK
  obtain ⟨⟨e1, hv, hO, _⟩, _⟩ := (S'.ob d b1 _ hd).1
  have hblk := (hO 0 _ _ rfl).1.2
  have hp : e1.blk 0 = b := (hO 3 _ _ rfl).1.2
  have hown := (hO 1 _ _ rfl).1.1
  have hb : e.blk q = b := (S'.ob q b2 _ hq).1.2
  rw [hp] at hblk
  have hev : a.eval x = .pointer (some ⟨b, 0, none⟩) := by
    rw [ev_ok S' hx]
    simp only [TV.den, CV.den, hb]
  obtain ⟨A, c, hs, h1, h2, h3⟩ : ∃ A c, e1.val 1 = .slice A S.length c ∧ S.length ≤ c ∧ c ≤ maxLen ∧ (A = none → c = 0) := by
    rcases hown.2 with ⟨h, h0⟩ | ⟨g, cap, cur, h, _, _, h1, h2, _⟩
    · exact ⟨none, 0, by rw [h, h0], by omega, by decide, fun _ => rfl⟩
    · exact ⟨_, cap, h, h1, h2, fun h => by cases h⟩
  have hrun := run_loadVar (P := Tryz.prog) (w := w) hT ⟨b, 0, none⟩ e (l := [.raw (e1.val 1)]) (by rw [hsz]; rfl) (hmk _) fun j u hu => by
    cases j with
    | zero =>
      rw [lit_add, cell_of_row w b (0 + 0) _ _ (0, 0) hblk]
      simp [CV.den] at hu
      rw [← hu]
      rfl
    | succ j => simp at hu
  let e' := e.put3 nx 0 (e1.val 1) (fun _ => False)
  have hv' : e'.val nx = e1.val 1 := Env.put3_val e (e1.one 1)
  refine wp_value (v := (SV.t (.c (.nm nx))).den e') (w' := w) ?_ (hK e' _ (.old ⟨fun n hn => Env.put3_same e (by simp only [List.length_cons, List.length_nil] at hn; omega), rfl, rfl, rfl, Nat.le_refl _, fun g hg _ => rfl, fun k b o hk => ?_, fun j k hj hk hne => ?_, fun n o ho => (by cases ho)⟩))
  · simp only [execOp, hop, hev, Instr.loadAt, Instr.sureAddr, Sem.run_bind, Sem.run_pure, Result.andThen_ok, hrun, SV.den, TV.den, CV.den, hv']
  · cases k with
    | zero =>
      cases hk
      have hfp : e'.fp nx = fun _ => False := Env.put3_fp e
      refine ⟨⟨A, c, by rw [Nat.add_zero, hv', hs], ⟨by simp, h1, h2, h3, fun j u hu => by simp at hu⟩, fun a _ h => by simp at h⟩, fun g hg => ?_⟩
      rw [Nat.add_zero, hfp] at hg
      exact hg.elim
    | succ k => simp at hk
  · simp only [List.length_cons, List.length_nil] at hj hk
    omega
theorem nilRD {H : HL} {nx d : Nat} {S : List ByteArray} {W : List (Int × Wr)} {last : Int} (hd : lookH H d = some (true, .ab (rdX S W last))) {Lc : LL} {o : Oper} {x y : Operand} (hop : o.op = .binOp .eql 27 x y 27) (hx : ev Lc x = some (.c (.nm d))) (hy : ev Lc y = some (.c .np)) : Spec Tryz.prog Lc H nx o ⟨.t (.c (.b false)), [], [], []⟩ :=
  spec_nil tysOk hop hx hy rfl rfl hd (rdX_nn _ _ _)
theorem nilDP {H : HL} {nx d b : Nat} {S : List ByteArray} {W : List (Int × Wr)} {last : Int} (hd : lookH H d = some (true, .ab (dP S W last b))) {Lc : LL} {o : Oper} {x y : Operand} (hop : o.op = .binOp .eql 23 x y 23) (hx : ev Lc x = some (.c (.nm d))) (hy : ev Lc y = some (.c .np)) : Spec Tryz.prog Lc H nx o ⟨.t (.c (.b false)), [], [], []⟩ :=
  spec_nil tysOk hop hx hy rfl rfl hd (NotNil.pins (disk_pins _ _ _ _))
def fkB : ByteArray := fit ⟨#[102, 111, 114, 107]⟩
theorem sbn (s : ByteArray) : (s.toList != s.toList) = false := by simp
set_option maxRecDepth 100000 in
set_option maxHeartbeats 8000000 in
theorem diskPlays_h (sz : Int) (acts : List DAct) (z : acts.length ≤ 100000000000000) (ht : ∀ a ∈ acts, a.text.size ≤ maxLen ∧ a.wb.size ≤ maxLen ∧ a.nb.size ≤ maxLen) :
    FnH Tryz.prog 3 [.c (iT sz), .c (.nm 0)] [(0, some (false, .rd 11 acts.length (dacells acts)))] 1 ⟨.t (.c (.b true)), [], [], []⟩ := by
  refine fnR (fn := Tryz.f3) 207 rfl rfl rfl (args' := [.c (iT sz), .c (.nm 0)]) (H' := [(0, some (false, .rd 11 acts.length (dacells acts)))]) (nx' := 1) (fun e w M => ⟨_, mem_rd (fun n => n) (H' := [(0, some (false, .rd 11 acts.length (dacells acts)))]) ⟨⟨false, rfl⟩, trivial⟩ M, rfl⟩) rfl rfl rfl rfl fun w => ?_
  by_cases hm : sz < 2 ∨ 2048 < sz
  · refine rn [(29, .spec ⟨.tup [.c .np, .c (iT 1)], [], [], []⟩), (34, .spec ⟨.tup [.c .np, .c (iT 1)], [], [], []⟩), (37, .dec false), (42, .dec false), (49, .dec false), (50, .spec ⟨.t (.c (.b true)), [], [], []⟩), (52, .dec false)] rfl (by (repeat' (first | exact trivial | exact rfl | exact trivial | exact fun _ => trivial | first | exact newBad hm | exact rnewBad hm | exact dworks_h | decide | refine And.intro ?_ ?_))) ?_
    refine At.unroll ?_
    refine rn [(55, .dec false), (61, .dec false), (64, .dec false)] rfl (by repeat' (first | exact trivial | exact rfl | refine And.intro ?_ ?_)) (nextExit rfl ?_)
    refine rnA [] rfl (by repeat' (first | exact trivial | exact rfl | refine And.intro ?_ ?_)) ?_
    exact ret0 tysOk rfl (by repeat' (first | exact trivial | exact rfl | refine And.intro ?_ ?_)) rfl
  · obtain ⟨n, rfl⟩ : ∃ n : Nat, sz = (n : Int) := ⟨sz.toNat, by omega⟩
    have h0 : 2 ≤ n := by omega
    have h1 : n ≤ 2048 := by omega
    refine rn [(29, .spec ⟨.tup [.c (.nm 1), .c (iT 0)], [(true, .ab (dX (S0 n) [] 0))], [], []⟩), (34, .spec ⟨.tup [.c (.nm 2), .c (iT 0)], [(true, .ab (rdX (S0 n) [] 0))], [], []⟩), (37, .dec false), (42, .dec false), (44, .spec ⟨.t (.c (.b false)), [], [], []⟩), (46, .spec ⟨.t (.c (.b false)), [], [], []⟩), (49, .dec false), (50, .spec ⟨.t (.c (.b true)), [], [], []⟩), (52, .dec false)] rfl (by (repeat' (first | exact trivial | exact rfl | exact trivial | exact fun _ => trivial | first | exact newA h0 h1 | exact rnewA h0 h1 | exact nilD rfl rfl rfl rfl | exact nilRD rfl rfl rfl rfl | exact dworks_h | decide | refine And.intro ?_ ?_))) ?_
    refine At.ex 1 rfl (dP_st _ _ _) fun b => ?_
    refine At.ex 2 rfl (rd_st _ _ _) fun b' => ?_
    refine At.num b' ?_
    refine At.alias (φ := rdP (S0 n) [] 0 b') 7 2 3 rfl (rd_pins _ _ _ _) rfl rfl ?_
    refine At.loop (X := (x : Nat × List ByteArray × List (Int × Wr) × Int) ×' (x.1 ≤ acts.length ∧ x.1 ≤ 80 ∧ DIv n x.1 x.2.1 x.2.2.1 x.2.2.2)) 4 (fun x => acts.length - x.1.1)
      (fun x => [(1, .t (.c (.nm 0))), (5, .t (.c (.nm 1))), (7, .t (.c (.p 3 0))), (9, .t (.c (iT (x.1.1 : Nat))))])
      (fun x => [(0, some (false, .rd 11 acts.length (dacells acts))), (1, some (true, .ab (dP x.1.2.1 x.1.2.2.1 x.1.2.2.2 b))), (2, some (true, .ab (rdP x.1.2.1 x.1.2.2.1 x.1.2.2.2 b'))), (3, some (false, .pin 3 b'))])
      ⟨(0, S0 n, [], 0), by omega, by omega, DIv.new h0⟩ [] (fun x => wf rfl rfl) (by repeat' (first | exact trivial | exact rfl | refine And.intro ?_ ?_)) (by repeat' (first | exact trivial | exact rfl | refine And.intro ?_ ?_)) rfl fun x => ?_
    obtain ⟨⟨i, S, W, last⟩, hi1, hi2, iv⟩ := x
    simp only at hi1 hi2 iv
    have w2 : IntKind.i64.wrap ((i : Int) + 1) = ((i + 1 : Nat) : Int) := by rw [wrap_sm (by omega) (by omega)]; omega
    refine rn [(55, .dec true)] rfl (by repeat' (first | exact trivial | exact rfl | refine And.intro ?_ ?_)) ?_
    refine ⟨fun h => ?_, fun h => ?_⟩
    · have hlt : i < acts.length := by have := of_decide_eq_true (Bool.and_eq_true_iff.1 h).1; simp only at this; omega
      have h80 : i < 80 := by have := of_decide_eq_true (Bool.and_eq_true_iff.1 h).2; simp only at this; omega
      have hcv := dacells_rd hlt
      have hcn := dacells_n hlt
      have htx := ht _ (List.getElem_mem hlt)
      have b0 : (0 : Int) ≤ (i : Int) := by omega
      have b1 : (i : Int) < (acts.length : Int) := by omega
      have b2 : (i : Int).toNat * 11 < (dacells acts).length := by rw [fcs_length (c := 11) fun _ => rfl]; omega
      generalize acts[i] = a at *
      have iv1 := iv.step a
      have hok := iv.ok
      have hsl : 0 < S.length := by have := hok.len; omega
      have hsm : S.length ≤ 1000000 := by have := hok.len; omega
      have hwm : W.length ≤ 1000000 := by have := iv.wl; omega
      obtain ⟨S1, hS1⟩ : ∃ S1, stS S W last a = S1 := ⟨_, rfl⟩
      obtain ⟨W1, hW1⟩ : ∃ W1, stW S W last a = W1 := ⟨_, rfl⟩
      obtain ⟨l1, hl1⟩ : ∃ l1, stL S W last a = l1 := ⟨_, rfl⟩
      have hst : ∀ (H : HL) (nx d r c c' : Nat), lookH H d = some (true, .ab (dP S W last c)) → lookH H r = some (true, .ab (rdP S W last c')) → d ≠ r → FnH Tryz.prog 9 [.c (.nm d), .c (.nm r), .agg a.cv] H nx ⟨.t (.c (.b true)), [], [(d, some (.ab (dP S1 W1 l1 c))), (r, some (.ab (rdP S1 W1 l1 c')))], []⟩ := fun H nx d r c c' g1 g2 g3 => by
        rw [← hS1, ← hW1, ← hl1]
        exact dstep_h g1 g2 g3 iv (by omega) htx.1 htx.2.1 htx.2.2
      rw [hS1, hW1, hl1] at iv1
      have ok1 := iv1.ok
      have two1 : 2 ≤ S1.length := ok1.len ▸ ok1.two
      have hw1 : W1.length ≤ 1000 := by have := iv1.wl; omega
      have hla : l1 ≤ 1000000 := by have := iv1.ll; omega
      have hsn : S1.length ≤ 2048 := by have := ok1.len; omega
      have hf := fit0 ⟨#[102, 111, 114, 107]⟩ (by decide)
      have hn : ∀ node, (waitL W1 node).length ≤ 1000 := fun node => Nat.le_trans (waitL_le W1 node) hw1
      have g1 : ∀ node, decide (waitL W1 node = waitL W1 node) = true := fun node => decide_eq_true rfl
      have g2 : (((S1.length : Nat) : Int) != (S1.length : Nat)) = false := by simp
      have okL := ok1.lay 0 fkB
      have two2 : 2 ≤ (layS S1 0 fkB).length := okL.len ▸ okL.two
      refine rn [(68, .spec ⟨.t (.c (.nm 4)), [(true, .ab (dX S W last))], [(1, some (.ab (dP S W last b)))], []⟩), (70, .spec ⟨.t (.c (.nm 5)), [(true, .ab (rdX S W last))], [(2, some (.ab (rdP S W last b')))], []⟩), (20009, .dec true)] rfl
        (by (repeat' (first | exact trivial | exact rfl | exact trivial | exact fun _ => trivial | first | exact forkA rfl hsl hsm | exact fnh_al1 (d := 2) rfl (rd_pins _ _ _ _) rfl (rforkA rfl hsm hwm) | decide | refine And.intro ?_ ?_))) ?_
      refine At.ex 4 rfl (dP_st _ _ _) fun c => ?_
      refine At.ex 5 rfl (rd_st _ _ _) fun c' => ?_
      refine rn [(72, .spec ⟨.t (.c (.b false)), [], [], []⟩), (73, .dec false), (79, .ld a.cv), (80, .spec ⟨.t (.c (.b true)), [], [(4, some (.ab (dP S1 W1 l1 c))), (5, some (.ab (rdP S1 W1 l1 c')))], []⟩), (83, .dec false), (89, .ld a.cv), (30090, .dec true), (30099, .dec true), (90, .spec ⟨.t (.c (.b true)), [], [(1, some (.ab (dP S1 W1 l1 b))), (2, some (.ab (rdP S1 W1 l1 b')))], []⟩), (93, .dec false), (95, .spec ⟨.t (.c (iT (S1.length : Nat))), [], [(1, some (.ab (dP S1 W1 l1 b)))], []⟩), (99, .spec ⟨.t (.c (.nm 6)), [(false, .rd 0 S1.length [])], [], []⟩), (103, .dec false), (105, .spec ⟨.t (.c (.nm 7)), [(true, .own 3 1 (waitL W1 0).length (ivs (waitL W1 0)))], [(4, some (.ab (dP S1 W1 l1 c)))], []⟩), (107, .spec ⟨.t (.c (.nm 8)), [(true, .own 3 1 (waitL W1 0).length (ivs (waitL W1 0)))], [(5, some (.ab (rdP S1 W1 l1 c')))], []⟩), (108, .spec ⟨.t (.c (.b (decide (waitL W1 0 = waitL W1 0)))), [], [], []⟩), (110, .dec false),
        (112, .ret (.t (.c (.s fkB)))), (113, .spec ⟨.t (.c (iT (wrE S1.length 0 fkB))), [], [(4, some (.ab (dP (layS S1 0 fkB) W1 l1 c)))], []⟩), (115, .ret (.t (.c (.s fkB)))), (116, .spec ⟨.tup [.c (iT (isuN (layS S1 0 fkB) W1 l1 0 4294967295 0 fkB)), .c (iT (isuE (layS S1 0 fkB) W1 0 4294967295 0 fkB))], [], [(4, some (.ab (dP (layS S1 0 fkB) (isuW (layS S1 0 fkB) W1 l1 0 4294967295 0 fkB) (isuL (layS S1 0 fkB) W1 l1 0 4294967295 0 fkB) c)))], []⟩)] rfl
        (by (repeat' (first | exact trivial | exact rfl | exact trivial | exact fun _ => trivial | first | exact hcv | exact b0 | exact b1 | exact b2 | exact nilDP rfl rfl rfl rfl | exact hst _ _ _ _ _ _ rfl rfl (by decide) | exact fnh_al2 (d := 2) rfl (rd_pins _ _ _ _) rfl (hst _ _ _ _ _ _ rfl rfl (by decide)) | exact sizeA rfl | exact spec_lenS (d := 2) rfl rfl rfl (fun _ => rfl) rfl rfl rfl | exact waitA rfl ok1.key (by omega) 0 | exact rwaitA rfl (by omega) 0 | exact sameInts_h (SlR.own rfl) (SlR.own rfl) (by have := hn 0; omega) | (rw [g1]; rfl) | exact g2 | exact hf | exact layA rfl 0 fkB | exact issueA rfl two2 okL.sz okL.l0 hla (fun p hp => (okL.le p hp).2) 0 4294967295 0 fkB | decide | refine And.intro ?_ ?_))) ?_
      refine At.loop (X := (k : Int) ×' (-1 ≤ k ∧ k ≤ 60)) 9 (fun s => (60 - s.1).toNat)
        (fun s => [(1, .t (.c (.nm 0))), (5, .t (.c (.nm 1))), (7, .t (.c (.p 3 0))), (9, .t (.c (iT (i : Nat)))), (12, .t (.c (iT s.1)))])
        (fun s => [(0, some (false, .rd 11 acts.length (dacells acts))), (1, some (true, .ab (dP S1 W1 l1 b))), (2, some (true, .ab (rdP S1 W1 l1 b'))), (3, some (false, .pin 3 b'))])
        ⟨-1, by omega, by omega⟩ [] (fun x => wf rfl rfl) (by repeat' (first | exact trivial | exact rfl | refine And.intro ?_ ?_)) (by repeat' (first | exact trivial | exact rfl | refine And.intro ?_ ?_)) rfl fun s => ?_
      obtain ⟨k, hk1, hk2⟩ := s
      refine rn [(121, .spec ⟨.t (.c (.nm 9)), [(false, .rd 0 S1.length [])], [], []⟩)] rfl (by (repeat' (first | exact trivial | exact rfl | exact trivial | exact fun _ => trivial | first | exact spec_lenS (d := 2) rfl rfl rfl (fun _ => rfl) rfl rfl rfl | decide | refine And.intro ?_ ?_))) ?_
      refine ⟨fun h => ?_, fun h => ?_⟩
      · have hk60 : k < 60 := of_decide_eq_true (Bool.and_eq_true_iff.1 h).2
        have w3 : IntKind.i64.wrap (k + 1) = k + 1 := wrap_sm (by omega) (by omega)
        have g3 := sbn (rdT S1 k)
        have g4 : (rdE S1.length k != rdE S1.length k) = false := by simp
        refine rn [(133, .spec ⟨.tup [.c (.s (rdT S1 k)), .c (iT (rdE S1.length k))], [], [(1, some (.ab (dP S1 W1 l1 b)))], []⟩), (139, .spec ⟨.tup [.c (.s (rdT S1 k)), .c (iT (rdE S1.length k))], [], [(2, some (.ab (rdP S1 W1 l1 b')))], []⟩), (145, .dec false), (149, .dec false)] rfl
          (by (repeat' (first | exact trivial | exact rfl | exact trivial | exact fun _ => trivial | first | exact readA rfl k | exact fnh_al1 (d := 2) rfl (rd_pins _ _ _ _) rfl (rreadA rfl k) | exact g3 | exact g4 | decide | refine And.intro ?_ ?_))) ?_
        exact roundEnd ⟨k + 1, by omega, by omega⟩ [] (by show (60 - (k + 1)).toNat < (60 - k).toNat; omega) (by (repeat' (first | exact trivial | exact rfl | exact w3 | exact fun _ => w3 | refine And.intro ?_ ?_))) (by repeat' (first | exact trivial | exact rfl | refine And.intro ?_ ?_)) rfl
      · refine rn [] rfl (by repeat' (first | exact trivial | exact rfl | refine And.intro ?_ ?_)) (roundExit rfl ?_)
        refine rnA [] rfl (by repeat' (first | exact trivial | exact rfl | refine And.intro ?_ ?_)) ?_
        refine At.loop (X := (k : Int) ×' (-1 ≤ k ∧ k ≤ 3)) 9 (fun s => (3 - s.1).toNat)
          (fun s => [(1, .t (.c (.nm 0))), (5, .t (.c (.nm 1))), (7, .t (.c (.p 3 0))), (9, .t (.c (iT (i : Nat)))), (17, .t (.c (iT s.1)))])
          (fun s => [(0, some (false, .rd 11 acts.length (dacells acts))), (1, some (true, .ab (dP S1 W1 l1 b))), (2, some (true, .ab (rdP S1 W1 l1 b'))), (3, some (false, .pin 3 b'))])
          ⟨-1, by omega, by omega⟩ [] (fun x => wf rfl rfl) (by repeat' (first | exact trivial | exact rfl | refine And.intro ?_ ?_)) (by repeat' (first | exact trivial | exact rfl | refine And.intro ?_ ?_)) rfl fun s => ?_
        obtain ⟨nd, hn1, hn2⟩ := s
        refine rn [] rfl (by repeat' (first | exact trivial | exact rfl | refine And.intro ?_ ?_)) ?_
        refine ⟨fun h => ?_, fun h => ?_⟩
        · have hn3 : nd < 3 := of_decide_eq_true h
          have w3 : IntKind.i64.wrap (nd + 1) = nd + 1 := wrap_sm (by omega) (by omega)
          refine rn [(156, .spec ⟨.t (.c (.nm 9)), [(true, .own 3 1 (waitL W1 nd).length (ivs (waitL W1 nd)))], [(1, some (.ab (dP S1 W1 l1 b)))], []⟩), (160, .spec ⟨.t (.c (.nm 10)), [(true, .own 3 1 (waitL W1 nd).length (ivs (waitL W1 nd)))], [(2, some (.ab (rdP S1 W1 l1 b')))], []⟩), (161, .spec ⟨.t (.c (.b (decide (waitL W1 nd = waitL W1 nd)))), [], [], []⟩), (162, .dec false), (164, .spec ⟨.tup [], [], [(9, none)], []⟩)] rfl
            (by (repeat' (first | exact trivial | exact rfl | exact trivial | exact fun _ => trivial | first | exact waitA rfl ok1.key (by omega) nd | exact fnh_al1 (d := 2) rfl (rd_pins _ _ _ _) rfl (rwaitA rfl (by omega) nd) | exact sameInts_h (SlR.own rfl) (SlR.own rfl) (by have := hn nd; omega) | (rw [g1]; rfl) | exact spoilI_h rfl (by have := hn nd; omega) | decide | refine And.intro ?_ ?_))) ?_
          exact roundEnd ⟨nd + 1, by omega, by omega⟩ [] (by show (3 - (nd + 1)).toNat < (3 - nd).toNat; omega) (by (repeat' (first | exact trivial | exact rfl | exact w3 | exact fun _ => w3 | refine And.intro ?_ ?_))) (by repeat' (first | exact trivial | exact rfl | refine And.intro ?_ ?_)) rfl
        · refine rn [] rfl (by repeat' (first | exact trivial | exact rfl | refine And.intro ?_ ?_)) (roundExit rfl ?_)
          have n1 : ((abW W1 a.n).node != (abW W1 a.n).node) = false := by simp
          have n2 : ((abW W1 a.n).ep != (abW W1 a.n).ep) = false := by simp
          have n3 : ((abW W1 a.n).pl != (abW W1 a.n).pl) = false := by simp
          have n4 : (drE W1 a.n != drE W1 a.n) = false := by simp
          refine rnA [(171, .ld [iT a.n]), (172, .spec ⟨.tup [.c (iT (abW W1 a.n).node), .c (iT (abW W1 a.n).ep), .c (iT (abW W1 a.n).pl), .c (iT (drE W1 a.n))], [], [(1, some (.ab (dP S1 W1 l1 b)))], []⟩), (183, .ld [iT a.n]), (184, .spec ⟨.tup [.c (iT (abW W1 a.n).node), .c (iT (abW W1 a.n).ep), .c (iT (abW W1 a.n).pl), .c (iT (drE W1 a.n))], [], [(2, some (.ab (rdP S1 W1 l1 b')))], []⟩), (192, .dec false), (197, .dec false), (202, .dec false), (206, .dec false)] rfl
            (by (repeat' (first | exact trivial | exact rfl | exact trivial | exact fun _ => trivial | first | exact hcn | exact ⟨hcn, trivial⟩ | exact b0 | exact b1 | exact b2 | exact aboutA rfl a.n | exact fnh_al1 (d := 2) rfl (rd_pins _ _ _ _) rfl (raboutA rfl (by omega) a.n) | exact n1 | exact n2 | exact n3 | exact n4 | decide | refine And.intro ?_ ?_))) ?_
          exact roundEnd ⟨(i + 1, S1, W1, l1), by omega, by omega, iv1⟩ [] (by show acts.length - (i + 1) < acts.length - i; omega) (by (repeat' (first | exact trivial | exact rfl | exact w2 | exact fun _ => w2 | refine And.intro ?_ ?_))) (by repeat' (first | exact trivial | exact rfl | refine And.intro ?_ ?_)) rfl
    · refine rn [] rfl (by repeat' (first | exact trivial | exact rfl | refine And.intro ?_ ?_)) (roundExit rfl ?_)
      refine rnA [] rfl (by repeat' (first | exact trivial | exact rfl | refine And.intro ?_ ?_)) ?_
      exact ret0 tysOk rfl (by repeat' (first | exact trivial | exact rfl | refine And.intro ?_ ?_)) rfl
theorem diskPlays_true (sz : Int) (acts : List DAct) (A1 : Option Addr) (c1 : Nat) (w : World) (zl : acts.length ≤ 100000000000000) (ht : ∀ a ∈ acts, a.text.size ≤ maxLen ∧ a.wb.size ≤ maxLen ∧ a.nb.size ≤ maxLen) (h1 : Vc.Rds w A1 acts.length c1 11 (dacells acts)) :
    Calls Tryz.prog 3 #[.int .i64 sz, .slice A1 acts.length c1] w fun e w' => e = .returned (.bool true) ∧ RowKit.Below w.heap.size w w' := by
  obtain ⟨e, M, v0⟩ := memr1 h1
  have := fnh_law (diskPlays_h sz acts zl ht) rfl rfl M
  rw [show ([.c (iT sz), .c (.nm 0)] : List TV).map (TV.den e) = [.int .i64 sz, e.val 0] from rfl, v0] at this
  exact this
end Cw
