/- The statement DepsClosed: the walk. -/
import Derived.Test.YtkcgmjjngpppdaaDepZ
import Derived.Test.YtkcgmjjngpppdaaDepC
namespace Cw
open Go Vc
open Go.Proofs
set_option maxRecDepth 100000
/-- A change of the arguments. -/
structure AC where
  at' : Int
  off : Int
  by' : Int
  back : List Int
  A : Option Addr
  m : Nat
def AC.q (a : AC) : QC := (a.at', a.off, a.by', a.A, a.back.length, a.m)
def AC.w (a : AC) : List Int × Option Addr × Nat := (a.back, a.A, a.m)
def acells (ls : List AC) : List Value := fcs (fun a => chQ a.q) ls
theorem acells_len (ls : List AC) : (acells ls).length = ls.length * 4 := fcs_length (f := fun a : AC => chQ a.q) (c := 4) (fun _ => rfl) ls
theorem acells_rd {ls : List AC} {i : Nat} (h : i < ls.length) : Vc.rowAt (acells ls) ((i : Int).toNat * 4) [iT ls[i].at', iT ls[i].off, .i .u8 ls[i].by', .raw (.slice ls[i].A ls[i].back.length ls[i].m)] :=
  have g := fun (j : Nat) (u : Value) (hu : (chQ ls[i].q)[j]? = some u) => fcs_at (f := fun a : AC => chQ a.q) (c := 4) (fun _ => rfl) h hu
  ⟨g 0 _ rfl, g 1 _ rfl, g 2 _ rfl, g 3 _ rfl, trivial⟩
def mvC (m : Int × Bool) : List Value := [.int .i64 m.1, .bool m.2]
def mcells (ms : List (Int × Bool)) : List Value := fcs mvC ms
theorem mcells_at {ms : List (Int × Bool)} {i : Nat} (h : i < ms.length) : (mcells ms)[(i : Int).toNat * 2 + 0]? = some (.int .i64 ms[i].1) ∧ (mcells ms)[(i : Int).toNat * 2 + 1]? = some (.bool ms[i].2) :=
  ⟨fcs_at (f := mvC) (c := 2) (j := 0) (fun _ => rfl) h rfl, fcs_at (f := mvC) (c := 2) (j := 1) (fun _ => rfl) h rfl⟩
theorem runX_nn (R : List Ch) : NotNil (runX R) := fun v F w ⟨p, h⟩ => ⟨p.1, runB_pins R p.1 p.2 v F w h⟩
theorem nilDq {H : HL} {nx d : Nat} {V : DV} {last : Int} {b : Nat} (hd : lookH H d = some (true, .ab (depP V last b))) {Lc : LL} {o : Oper} {x y : Operand} (hop : o.op = .binOp .eql 23 x y 23) (hx : ev Lc x = some (.c (.nm d))) (hy : ev Lc y = some (.c .np)) : Spec Try.prog Lc H nx o ⟨.t (.c (.b false)), [], [], []⟩ :=
  spec_nil tysOk hop hx hy rfl rfl hd (NotNil.pins (dep_pins _ _ _))
theorem notTrue : (!true) = false := rfl
set_option maxRecDepth 100000 in
set_option maxHeartbeats 8000000 in
theorem depsClosed_h (ls : List AC) (ms : List (Int × Bool)) (zl : ls.length ≤ 100000000000000) (zm : ms.length ≤ 100000000000000) (zb : ∀ a ∈ ls, a.back.length ≤ 17592186043904) :
    FnH Try.prog 6 [.c (.nm 0), .c (.nm 1)] [(0, some (false, .rd 4 ls.length (acells ls))), (1, some (false, .rd 2 ms.length (mcells ms))), (2, some (false, .ab (frzP (ls.map AC.w))))] 3 ⟨.t (.c (.b true)), [], [], []⟩ := by
  refine fnR (fn := Try.f6) 65 rfl rfl rfl (args' := [.c (.nm 0), .c (.nm 1)]) (H' := [(0, some (false, .rd 4 ls.length (acells ls))), (1, some (false, .rd 2 ms.length (mcells ms))), (2, some (false, .ab (frzP (ls.map AC.w))))]) (nx' := 3) (fun e w M => ⟨_, mem_rd (fun n => n) (H' := [(0, some (false, .rd 4 ls.length (acells ls))), (1, some (false, .rd 2 ms.length (mcells ms))), (2, some (false, .ab (frzP (ls.map AC.w))))]) ⟨⟨false, rfl⟩, ⟨false, rfl⟩, ⟨false, rfl⟩, trivial⟩ M, rfl⟩) rfl rfl rfl rfl fun w => ?_
  refine rn [(8, .spec ⟨.t (.c (.nm 3)), [(true, .ab (runX []))], [], []⟩), (20002, .dec true)] rfl (by (repeat' (first | exact trivial | exact rfl | exact begunA | exact fun _ => begunA | refine And.intro ?_ ?_))) ?_
  refine At.ex (φ := fun p : Nat × Nat => runB [] p.1 p.2) 3 rfl (fun p => runB_st _ _ _) fun p => ?_
  obtain ⟨b, bd⟩ := p
  refine At.ex (φ := fun x : { x : RunSt // RunOk x [] } => runP x.1 ([] : List Ch).length b bd) 3 rfl (fun x => absP_stable _ _) fun x => ?_
  obtain ⟨⟨V, W, D, F, Q, A⟩, ok⟩ := x
  obtain ⟨d0, d1, d2, d3, d4, d5, d6, d7, rfl⟩ := eight ok.dk.d8
  obtain ⟨f0, f1, f2, f3, f4, f5, f6, f7, rfl⟩ := eight ok.dk.f8
  refine At.unfold 3 rfl rfl rfl ?_
  refine rn [(13, .spec ⟨.t (.c (.b false)), [], [], []⟩), (14, .dec false), (15, .spec ⟨.t (.c (.b true)), [], [], []⟩), (17, .dec false)] rfl (by (repeat' (first | exact trivial | exact rfl | exact trivial | exact fun _ => trivial | first | exact nilDq rfl rfl rfl rfl | exact dworks_h | rfl | refine And.intro ?_ ?_))) ?_
  refine At.foldR 5 (.p 4 0) [(0, 4), (1, 5), (2, 6), (3, 7), (4, 8), (5, 9)] (runO ⟨V, W, [d0, d1, d2, d3, d4, d5, d6, d7], [f0, f1, f2, f3, f4, f5, f6, f7], Q, A⟩ 0 b bd) (.p 0 0) rfl (by repeat' (first | exact trivial | exact rfl | refine And.intro ?_ ?_)) (by repeat' (first | exact trivial | exact rfl | refine And.intro ?_ ?_)) rfl rfl (fun _ => rfl) ?_
  refine At.weak (φ' := runB [] b bd) 10 rfl (runB_st _ _ _) (fun v F w h => ⟨⟨_, ok⟩, h⟩) ?_
  refine At.loop (X := (i : Nat) ×' (n : Nat) ×' (R : List Ch) ×' (i ≤ ls.length ∧ i ≤ 40 ∧ n ≤ ms.length ∧ R.length ≤ i)) 11 (fun x => ls.length - x.1)
    (fun x => [(0, .t (.c (.nm 0))), (1, .t (.c (.nm 1))), (5, .t (.c (.nm 10))), (6, .t (.c (iT (x.2.1 : Nat)))), (7, .t (.c (iT (x.1 : Nat))))])
    (fun x => [(0, some (false, .rd 4 ls.length (acells ls))), (1, some (false, .rd 2 ms.length (mcells ms))), (2, some (false, .ab (frzP (ls.map AC.w)))), (10, some (true, .ab (runB x.2.2.1 b bd)))]) ⟨0, 0, [], by omega, by omega, by omega, by simp⟩ [] (fun x => wf rfl rfl) (by repeat' (first | exact trivial | exact rfl | refine And.intro ?_ ?_)) (by repeat' (first | exact trivial | exact rfl | refine And.intro ?_ ?_)) rfl fun x => ?_
  obtain ⟨i, n, R, hi1, hi2, hn, hRl⟩ := x
  have w3 : IntKind.i64.wrap ((i : Int) + 1) = ((i + 1 : Nat) : Int) := by rw [wrap_sm (by omega) (by omega)]; omega
  cases hc : decide ((i : Int) < (ls.length : Nat)) && decide ((i : Int) < 40) with
  | true =>
    have hlt : i < ls.length := by have := of_decide_eq_true (Bool.and_eq_true_iff.1 hc).1; omega
    have h40 : i < 40 := by have := of_decide_eq_true (Bool.and_eq_true_iff.1 hc).2; omega
    have r1 := acells_rd hlt
    have b0 : (0 : Int) ≤ (i : Int) := by omega
    have b1 : (i : Int) < (ls.length : Int) := by omega
    have c5 : (i : Int).toNat * 4 < (acells ls).length := by rw [acells_len]; omega
    have hadd := fun (H : HL) (nx : Nat) (h1 : lookH H 10 = some (true, .ab (runB R b bd))) (h2 : lookH H 2 = some (false, .ab (frzP (ls.map AC.w)))) => raddB (nx := nx) (at' := ls[i].at') (off := ls[i].off) (by' := ls[i].by') (back := ls[i].back) (A0 := ls[i].A) (m0 := ls[i].m) h1 h2 (List.mem_map.2 ⟨ls[i], List.getElem_mem hlt, rfl⟩) (by decide) (by omega) (zb _ (List.getElem_mem hlt))
    have hR1l : (R ++ [rnC R ls[i].at' ls[i].off ls[i].by' ls[i].back]).length ≤ i + 1 := by simp; omega
    generalize R ++ [rnC R ls[i].at' ls[i].off ls[i].by' ls[i].back] = R1 at *
    refine rn [(25, .dec true), (32, .ld [iT ls[i].at', iT ls[i].off, .i .u8 ls[i].by', .raw (.slice ls[i].A ls[i].back.length ls[i].m)]), (33, .spec ⟨.t (.c (.b true)), [], [(10, some (.ab (runB R1 b bd)))], []⟩), (34, .dec false)] rfl (by (repeat' (first | exact trivial | exact rfl | exact trivial | exact fun _ => trivial | first | exact hc | exact r1 | exact b0 | exact b1 | exact c5 | exact hadd _ _ rfl rfl | rfl | decide | refine And.intro ?_ ?_))) ?_
    refine At.loop (X := (k : Nat) ×' (n : Nat) ×' (R : List Ch) ×' (k ≤ 2 ∧ n ≤ ms.length ∧ R.length ≤ i + 1)) 11 (fun x => 2 - x.1)
      (fun x => [(0, .t (.c (.nm 0))), (1, .t (.c (.nm 1))), (5, .t (.c (.nm 10))), (6, .t (.c (iT (x.2.1 : Nat)))), (7, .t (.c (iT (i : Nat)))), (35, .t (.c (iT (x.1 : Nat))))])
      (fun x => [(0, some (false, .rd 4 ls.length (acells ls))), (1, some (false, .rd 2 ms.length (mcells ms))), (2, some (false, .ab (frzP (ls.map AC.w)))), (10, some (true, .ab (runB x.2.2.1 b bd)))]) ⟨0, n, R1, by omega, by omega, by omega⟩ [] (fun x => wf rfl rfl) (by repeat' (first | exact trivial | exact rfl | refine And.intro ?_ ?_)) (by repeat' (first | exact trivial | exact rfl | refine And.intro ?_ ?_)) rfl fun x => ?_
    obtain ⟨k, n, R, hk, hn, hRl⟩ := x
    have w4 : IntKind.i64.wrap ((k : Int) + 1) = ((k + 1 : Nat) : Int) := by rw [wrap_sm (by omega) (by omega)]; omega
    have w5 : IntKind.i64.wrap ((n : Int) + 1) = ((n + 1 : Nat) : Int) := by rw [wrap_sm (by omega) (by omega)]; omega
    refine rn [] rfl (by repeat' (first | exact trivial | exact rfl | refine And.intro ?_ ?_)) ?_
    refine ⟨fun h => ?_, fun h => ?_⟩
    · have hk2 : k < 2 := by have : (k : Int) < 2 := of_decide_eq_true h; omega
      cases hm : decide ((n : Int) < (ms.length : Nat)) with
      | true =>
        have hnl : n < ms.length := by have := of_decide_eq_true hm; omega
        obtain ⟨q1, q2⟩ := mcells_at hnl
        have d0 : (0 : Int) ≤ (n : Int) := by omega
        have d1 : (n : Int) < (ms.length : Int) := by omega
        have hml : (mcells ms).length = ms.length * 2 := fcs_length (f := mvC) (c := 2) (fun _ => rfl) ms
        have d2 : (n : Int).toNat * 2 < (mcells ms).length := by omega
        have hmv := fun (H : HL) (nx : Nat) (h1 : lookH H 10 = some (true, .ab (runB R b bd))) => moveB (nx := nx) h1 (by omega) ms[n].1 ms[n].2
        have hR2l := mvR_len R (ms[n].1 % 8) ms[n].2
        generalize mvR R (ms[n].1 % 8) ms[n].2 = R2 at *
        refine rn [(40, .dec true), (46, .ld [iT ms[n].1]), (51, .ld [.b ms[n].2]), (52, .spec ⟨.t (.c (.b true)), [], [(10, some (.ab (runB R2 b bd)))], []⟩), (53, .dec false)] rfl (by (repeat' (first | exact trivial | exact rfl | exact trivial | exact fun _ => trivial | first | exact hm | exact q1 | exact q2 | exact ⟨q1, trivial⟩ | exact ⟨q2, trivial⟩ | exact d0 | exact d1 | exact d2 | exact hmv _ _ rfl | rfl | decide | refine And.intro ?_ ?_))) ?_
        exact roundEnd ⟨k + 1, n + 1, R2, by omega, by omega, by omega⟩ [] (by show 2 - (k + 1) < 2 - k; omega) (by (repeat' (first | exact trivial | exact rfl | exact w4 | exact fun _ => w4 | first | exact w4 | exact w5 | refine And.intro ?_ ?_))) (by repeat' (first | exact trivial | exact rfl | refine And.intro ?_ ?_)) rfl
      | false =>
        refine rn [(40, .dec false)] rfl (by (repeat' (first | exact trivial | exact rfl | exact trivial | exact fun _ => trivial | exact hm | refine And.intro ?_ ?_))) ?_
        exact roundEnd ⟨k + 1, n, R, by omega, by omega, by omega⟩ [] (by show 2 - (k + 1) < 2 - k; omega) (by (repeat' (first | exact trivial | exact rfl | exact w4 | exact fun _ => w4 | refine And.intro ?_ ?_))) (by repeat' (first | exact trivial | exact rfl | refine And.intro ?_ ?_)) rfl
    · refine rn [] rfl (by repeat' (first | exact trivial | exact rfl | refine And.intro ?_ ?_)) (roundExit rfl ?_)
      have hcl := fun (H : HL) (nx : Nat) (h1 : lookH H 10 = some (true, .ab (runB R b bd))) => closedB (nx := nx) h1 (by omega)
      have hse := fun (H : HL) (nx : Nat) (h1 : lookH H 10 = some (true, .ab (runB R b bd))) => seenB (nx := nx) h1 (by omega)
      refine rnA [(58, .spec ⟨.t (.c (.b true)), [], [], []⟩), (60, .dec false), (62, .spec ⟨.t (.c (.b true)), [], [], []⟩), (64, .dec false)] rfl (by (repeat' (first | exact trivial | exact rfl | exact trivial | exact fun _ => trivial | first | exact hcl _ _ rfl | exact hse _ _ rfl | rfl | refine And.intro ?_ ?_))) ?_
      exact roundEnd ⟨i + 1, n, R, by omega, by omega, by omega, by omega⟩ [] (by show ls.length - (i + 1) < ls.length - i; omega) (by (repeat' (first | exact trivial | exact rfl | exact w3 | exact fun _ => w3 | refine And.intro ?_ ?_))) (by repeat' (first | exact trivial | exact rfl | refine And.intro ?_ ?_)) rfl
  | false =>
    refine rn [(25, .dec false)] rfl (by (repeat' (first | exact trivial | exact rfl | exact trivial | exact fun _ => trivial | exact hc | refine And.intro ?_ ?_))) (roundExit rfl ?_)
    refine rnA [] rfl (by repeat' (first | exact trivial | exact rfl | refine And.intro ?_ ?_)) ?_
    exact ret0 tysOk rfl (by repeat' (first | exact trivial | exact rfl | refine And.intro ?_ ?_)) rfl
end Cw
namespace Cw
open Go Vc
open Go.Proofs
set_option maxRecDepth 100000
section
variable {H : HL} {nx d q b bd r m l : Nat} {b1 b2 b3 : Bool} {V : DV} {W : List (List Int × Option Addr × Nat)} {R : List Ch} {last : Int}
theorem leftU0 (hd : lookH H d = some (b1, .cells [.nm l, iT last] 72)) (hl : lookH H l = some (b2, .own 86 6 V.length (dpc V))) :
    FnH Try.prog 22 [.c (.p d 0), .c .nsl] H nx ⟨.t (.c (iT (V.length : Nat))), [], [], []⟩ := by
  refine fnR (fn := Try.f22) 33 rfl rfl rfl (args' := [.c (.p 0 0), .c .nsl]) (H' := hDp V last) (nx' := 2) (fun e w M => ⟨_, mem_rd (r2p d l) (memDp hd hl) M, rfl⟩) rfl rfl rfl rfl fun w => ?_
  show At _ _ _ _ _ _ [(0, some (false, .cells [.nm 1, iT last] 72)), (1, some (false, .own 86 6 V.length (dpc V)))] 2
  refine rn [(10, .dec true)] rfl (by (repeat' (first | exact trivial | exact rfl | exact trivial | exact fun _ => trivial | rfl | refine And.intro ?_ ?_))) ?_
  exact ret0 tysOk rfl (by repeat' (first | exact trivial | exact rfl | refine And.intro ?_ ?_)) rfl
theorem left0 (hd : lookH H d = some (b1, .ab (depP V R.length b))) (h : DR V W R) :
    FnH Try.prog 22 [.c (.nm d), .c .nsl] H nx ⟨.t (.c (iT ((und R).length : Nat))), [], [], []⟩ := by
  have := fnh_in (nx := nx) (u := .c (.nm d)) (bs := [.c .nsl]) (O := depO V R.length b) (x := .p 0 0) (y := .p 0 0) (v' := .t (.c (iT (V.length : Nat)))) (news' := []) hd rfl rfl rfl rfl rfl (nm_ptr (k := 2) hd (dep_pins _ _ _) rfl) (leftU0 (d := 0) (l := 1) rfl rfl)
  rw [h.len] at this
  exact this
theorem sectors0 (hd : lookH H d = some (true, .ab (depP V R.length b))) (hq : lookH H q = some (b1, .ab (frzP W))) (hdq : d ≠ q) (h : DR V W R) :
    FnH Try.prog 18 [.c (.nm d)] H nx ⟨.t (.c (.nm nx)), [(true, .own 3 1 (secs (und R)).length (ivs (secs (und R))))], [], []⟩ := by
  have := fnh_shutQ0 (nx := nx) (bs := []) (O := depO V R.length b) (x := .p 0 0) (v' := .t (.c (.nm 0))) (news' := [(true, .own 3 1 (secs (chs V)).length (ivs (secs (chs V))))]) hd hq hdq rfl rfl rfl rfl rfl (sectorsU (d := 0) (l := 1) (q := 3) rfl rfl rfl h.sub h.ok)
  rw [h.eq] at this
  exact this
theorem p_ptr {φ : AbP} {O : List (Bool × Ob)} {k : Nat} (hm : lookH H m = some (b1, .pin m bd)) (hO : O[k]? = some (true, .ab φ)) (hp : Pins φ (ptr bd)) : ∀ e e1 w, MemOk H e w → MemOk (newsH 0 O) e1 w → (TV.c (.p m 0)).den e = CV.den e1 (.nm k) := by
  intro e e1 w M M1
  have h1 : e.blk m = bd := (M.ob m b1 _ hm).1.2
  have h2 := hp _ _ _ (M1.ob k true (.ab φ) (by rw [lookH_newsH, if_pos (Nat.zero_le _), Nat.sub_zero]; exact hO)).1.1
  show Value.pointer (some ⟨e.blk m, 0, none⟩) = e1.val k
  rw [h1, h2]
  rfl
theorem leftP0 {x : RunSt} (hr : lookH H r = some (b2, .ab (runP x R.length b bd))) (hm : lookH H m = some (b1, .pin m bd)) (ok : RunOk x R) :
    FnH Try.prog 22 [.c (.p m 0), .c .nsl] H nx ⟨.t (.c (iT ((und R).length : Nat))), [], [], []⟩ := by
  obtain ⟨V, W, D, F, Q, A⟩ := x
  obtain ⟨d0, d1, d2, d3, d4, d5, d6, d7, rfl⟩ := eight ok.dk.d8
  obtain ⟨f0, f1, f2, f3, f4, f5, f6, f7, rfl⟩ := eight ok.dk.f8
  exact fnh_in (nx := nx) (u := .c (.p m 0)) (bs := [.c .nsl]) (O := runO ⟨V, W, [d0, d1, d2, d3, d4, d5, d6, d7], [f0, f1, f2, f3, f4, f5, f6, f7], Q, A⟩ R.length b bd) (x := .p 0 0) (y := .nm 1) (v' := .t (.c (iT ((und R).length : Nat)))) (news' := []) hr rfl rfl rfl rfl rfl (p_ptr (k := 1) hm rfl (dep_pins _ _ _)) (left0 (b1 := true) (V := V) (b := bd) rfl ok.dr)
theorem sectP0 {x : RunSt} (hr : lookH H r = some (b2, .ab (runP x R.length b bd))) (hm : lookH H m = some (b1, .pin m bd)) (ok : RunOk x R) :
    FnH Try.prog 18 [.c (.p m 0)] H nx ⟨.t (.c (.nm nx)), [(true, .own 3 1 (secs (und R)).length (ivs (secs (und R))))], [], []⟩ := by
  obtain ⟨V, W, D, F, Q, A⟩ := x
  obtain ⟨d0, d1, d2, d3, d4, d5, d6, d7, rfl⟩ := eight ok.dk.d8
  obtain ⟨f0, f1, f2, f3, f4, f5, f6, f7, rfl⟩ := eight ok.dk.f8
  exact fnh_in (nx := nx) (u := .c (.p m 0)) (bs := []) (O := runO ⟨V, W, [d0, d1, d2, d3, d4, d5, d6, d7], [f0, f1, f2, f3, f4, f5, f6, f7], Q, A⟩ R.length b bd) (x := .p 0 0) (y := .nm 1) (v' := .t (.c (.nm 0))) (news' := [(true, .own 3 1 (secs (und R)).length (ivs (secs (und R))))]) hr rfl rfl rfl rfl rfl (p_ptr (k := 1) hm rfl (dep_pins _ _ _)) (sectors0 (b1 := true) (V := V) (b := bd) (q := 2) rfl rfl (by decide) ok.dr)
theorem leftB (hr : lookH H r = some (true, .ab (runB R b bd))) (hm : lookH H m = some (b1, .pin m bd)) (hrm : r ≠ m) :
    FnH Try.prog 22 [.c (.p m 0), .c .nsl] H nx ⟨.t (.c (iT ((und R).length : Nat))), [], [], []⟩ :=
  fnh_ex2 hr (fun _ => absP_stable _ _) fun x => leftP0 (b := b) (bd := bd) look_eq ((look_ne hrm).trans hm) x.2
theorem sectB (hr : lookH H r = some (true, .ab (runB R b bd))) (hm : lookH H m = some (b1, .pin m bd)) (hrm : r ≠ m) :
    FnH Try.prog 18 [.c (.p m 0)] H nx ⟨.t (.c (.nm nx)), [(true, .own 3 1 (secs (und R)).length (ivs (secs (und R))))], [], []⟩ :=
  fnh_ex2 hr (fun _ => absP_stable _ _) fun x => sectP0 (b := b) (bd := bd) look_eq ((look_ne hrm).trans hm) x.2
/-- The changes of a run that is shut: their number. -/
theorem spec_rd {L : LL} {o : Oper} {T : TypeId} {I : Ty} {x : Operand} (hop : o.op = .load T x) (hI : Vc.look T tys = some I) (hsz : I.size = 1) (hmk : ∀ v, mkV I [.raw v] = some (.c (.raw v)))
    (hx : ev L x = some (.c (.p q 0))) (hq : lookH H q = some (b2, .pin q b)) (hm : lookH H m = some (b3, .pin m bd)) (hr : lookH H r = some (b1, .ab (runB R b bd))) : Spec Try.prog L H nx o ⟨.t (.c (.p m 0)), [], [], []⟩ := by
  refine ⟨fun F => step_pure fun e a w S' => ?_⟩
  have hT := tysOk _ _ hI
  obtain ⟨⟨y, e1, hv, hO, _⟩, _⟩ := (S'.ob r b1 _ hr).1
  have hblk := (hO 0 _ _ rfl).1.2
  have hp : e1.blk 0 = b := (hO 5 _ _ rfl).1.2
  have hdv : e1.val 1 = ptr bd := dep_pins _ _ _ _ _ _ (hO 1 _ _ rfl).1.1
  have hb : e.blk q = b := (S'.ob q b2 _ hq).1.2
  have hbm : e.blk m = bd := (S'.ob m b3 _ hm).1.2
  rw [hp] at hblk
  have hev : a.eval x = .pointer (some ⟨b, 0, none⟩) := by
    rw [ev_ok S' hx]
    simp only [TV.den, CV.den, hb]
  have hrun := run_loadVar (P := Try.prog) (w := w) hT ⟨b, 0, none⟩ e (l := [.raw (ptr bd)]) (by rw [hsz]; rfl) (hmk _) fun j u hu => by
    cases j with
    | zero =>
      rw [lit_add, cell_of_row w b (0 + 0) _ _ (0, 0) hblk]
      simp [CV.den] at hu
      rw [← hu, ← hdv]
      rfl
    | succ j => simp at hu
  simp only [execOp, hop, hev, Instr.loadAt, Instr.sureAddr, Sem.run_bind, Sem.run_pure, Result.andThen_ok, hrun, SV.den, TV.den, CV.den, hbm]
  rfl
end
theorem At.factE {P : Program} {F : Frm} {Q : Exit → Act → World → Prop} {c : Code} {ks : List KI} {L : LL} {H : HL} {nx : Nat} {φ : AbP} {b : Bool} {p : Prop} (d : Nat) (hd : lookH H d = some (b, .ab φ)) (hp : ∀ v F w, φ v F w → p) (h : p → At P F Q c ks L H nx) : At P F Q c ks L H nx :=
  ⟨fun hW e a w S => (h (hp _ _ _ (S.ob d b _ hd).1.1)).h hW e a w S⟩
/-- What is sent and done: nothing is under way before and behind it. -/
def noFly (R : List Ch) : Prop := ∀ c ∈ R, c.st ≠ 2
theorem noFly.of0 {R : List Ch} (h : noFly R) (k : Int) : ofN R k 2 = [] := by
  rw [ofN, List.map_eq_nil_iff, List.filter_eq_nil_iff]
  intro c hc
  have := h c hc
  simp [this]
theorem sent_some {R : List Ch} {k : Int} (hr : rdyN R k ≠ []) : ∃ c ∈ setN (rdyN R k) 2 R, flyB k c = true := by
  obtain ⟨n, hn⟩ := List.exists_mem_of_ne_nil _ hr
  obtain ⟨c, hc, h1, h2, h3, _⟩ := rdyN_ok hn
  exact ⟨{ c with st := 2 }, List.mem_map.2 ⟨c, hc, by rw [if_pos (List.contains_iff_mem.2 (h1 ▸ hn))]⟩, by simp [flyB, h2]⟩
theorem round_mv {R : List Ch} (hd : DepOk R) (h : noFly R) {k : Int} (hr : rdyN R k ≠ []) (b1 : Bool) : mvR R k b1 = setN (rdyN R k) 2 R ∧ mvR (setN (rdyN R k) 2 R) k false = roundC k R := by
  refine ⟨by rw [mvR, h.of0, if_pos rfl], ?_⟩
  obtain ⟨c, hc, hf⟩ := sent_some hr
  have : ofN (setN (rdyN R k) 2 R) k 2 ≠ [] := fun hn => by
    have hm : c.no ∈ ofN (setN (rdyN R k) 2 R) k 2 := List.mem_map.2 ⟨c, List.mem_filter.2 ⟨hc, hf⟩, rfl⟩
    rw [hn] at hm; cases hm
  rw [mvR, if_neg this, if_neg (by decide)]
  rfl
theorem noFly.round {R : List Ch} (hd : DepOk R) (h : noFly R) (k : Int) : noFly (roundC k R) := by
  intro x hx
  obtain ⟨c, hc, rfl⟩ := setF_mem hx
  by_cases hf : flyB k c = true
  · rw [if_pos hf]; show (0 : Int) ≠ 2; decide
  · rw [if_neg hf]
    obtain ⟨c0, hc0, rfl⟩ := setF_mem hc
    by_cases hn : (rdyN R k).contains c0.no = true
    · exfalso
      refine hf ?_
      rw [if_pos hn]
      obtain ⟨y, hy, h1, h2, _⟩ := rdyN_ok (List.contains_iff_mem.1 hn)
      rw [uniq hd.num.nodup hy hc0 h1] at h2
      simp [flyB, h2]
    · rw [if_neg hn]; exact h c0 hc0
theorem und_round {R : List Ch} (hd : DepOk R) {k : Int} (hr : rdyN R k ≠ []) : (und (roundC k R)).length < (und R).length := by
  have h1 : und (roundC k R) = delK k (setN (rdyN R k) 2 (und R)) := by rw [roundC, und_delK, und_send hd.num.nodup]
  obtain ⟨c, hc, hf⟩ := sent_some (R := und R) (k := k) (by rw [rdyN_und hd.num.nodup]; exact hr)
  rw [rdyN_und hd.num.nodup] at hc
  have hl : (setN (rdyN R k) 2 (und R)).length = (und R).length := setN_len _ _ _
  rw [h1, delK, ← hl]
  refine Nat.lt_of_le_of_ne (List.length_filter_le _ _) fun he => ?_
  have := List.length_filter_eq_length_iff.1 he c hc
  rw [hf] at this
  cases this
theorem secs_some {R : List Ch} (hd : DepOk R) (h : noFly R) (hu : und R ≠ []) : secs (und R) ≠ [] := by
  obtain ⟨c, hc, h1, h2⟩ := hd.some_ready h hu
  have : c.at' ∈ secs (und R) := by
    rw [secs_mem, ofN_und R _ (by decide), h.of0, rdyN_und hd.num.nodup]
    exact ⟨⟨c, und_mem.2 ⟨hc, by rw [h1]; decide⟩, rfl⟩, rfl, fun hn => by rw [hn] at h2; cases h2⟩
  intro hn
  rw [hn] at this
  cases this
theorem secs_ok {R : List Ch} (hd : DepOk R) (ho : okB R) {k : Int} (hk : k ∈ secs (und R)) : rdyN R k ≠ [] ∧ 0 ≤ k ∧ k < 8 := by
  obtain ⟨⟨c, hc, rfl⟩, _, h2⟩ := secs_mem.1 hk
  rw [rdyN_und hd.num.nodup] at h2
  exact ⟨h2, (ho c (und_mem.1 hc).1).1⟩
theorem noFly.add {R : List Ch} (h : noFly R) (a b c : Int) (l : List Int) : noFly (R ++ [rnC R a b c l]) := by
  intro x hx
  rcases List.mem_append.1 hx with hx | hx
  · exact h x hx
  · rw [List.mem_singleton.1 hx]; show (1 : Int) ≠ 2; decide
end Cw
namespace Cw
open Go Vc
open Go.Proofs
set_option maxRecDepth 100000
set_option maxRecDepth 100000 in
set_option maxHeartbeats 8000000 in
theorem depsEnd_h (ls : List AC) (ps : List Int) (zl : ls.length ≤ 100000000000000) (zp : ps.length ≤ 100000000000000) (zb : ∀ a ∈ ls, a.back.length ≤ 17592186043904) :
    FnH Try.prog 7 [.c (.nm 0), .c (.nm 1)] [(0, some (false, .rd 4 ls.length (acells ls))), (1, some (false, .rd 1 ps.length (ivs ps))), (2, some (false, .ab (frzP (ls.map AC.w))))] 3 ⟨.t (.c (.b true)), [], [], []⟩ := by
  refine fnR (fn := Try.f7) 110 rfl rfl rfl (args' := [.c (.nm 0), .c (.nm 1)]) (H' := [(0, some (false, .rd 4 ls.length (acells ls))), (1, some (false, .rd 1 ps.length (ivs ps))), (2, some (false, .ab (frzP (ls.map AC.w))))]) (nx' := 3) (fun e w M => ⟨_, mem_rd (fun n => n) (H' := [(0, some (false, .rd 4 ls.length (acells ls))), (1, some (false, .rd 1 ps.length (ivs ps))), (2, some (false, .ab (frzP (ls.map AC.w))))]) ⟨⟨false, rfl⟩, ⟨false, rfl⟩, ⟨false, rfl⟩, trivial⟩ M, rfl⟩) rfl rfl rfl rfl fun w => ?_
  refine rn [(11, .spec ⟨.t (.c (.nm 3)), [(true, .ab (runX []))], [], []⟩), (20002, .dec true)] rfl (by (repeat' (first | exact trivial | exact rfl | exact begunA | exact fun _ => begunA | refine And.intro ?_ ?_))) ?_
  refine At.ex (φ := fun p : Nat × Nat => runB [] p.1 p.2) 3 rfl (fun p => runB_st _ _ _) fun p => ?_
  obtain ⟨b, bd⟩ := p
  refine At.ex (φ := fun x : { x : RunSt // RunOk x [] } => runP x.1 ([] : List Ch).length b bd) 3 rfl (fun x => absP_stable _ _) fun x => ?_
  obtain ⟨⟨V, W, D, F, Q, A⟩, ok⟩ := x
  obtain ⟨d0, d1, d2, d3, d4, d5, d6, d7, rfl⟩ := eight ok.dk.d8
  obtain ⟨f0, f1, f2, f3, f4, f5, f6, f7, rfl⟩ := eight ok.dk.f8
  refine At.unfold 3 rfl rfl rfl ?_
  refine rn [(16, .spec ⟨.t (.c (.b false)), [], [], []⟩), (17, .dec false), (18, .spec ⟨.t (.c (.b true)), [], [], []⟩), (20, .dec false)] rfl (by (repeat' (first | exact trivial | exact rfl | exact trivial | exact fun _ => trivial | first | exact nilDq rfl rfl rfl rfl | exact dworks_h | rfl | refine And.intro ?_ ?_))) ?_
  refine At.foldR 5 (.p 4 0) [(0, 4), (1, 5), (2, 6), (3, 7), (4, 8), (5, 9)] (runO ⟨V, W, [d0, d1, d2, d3, d4, d5, d6, d7], [f0, f1, f2, f3, f4, f5, f6, f7], Q, A⟩ 0 b bd) (.p 0 0) rfl (by repeat' (first | exact trivial | exact rfl | refine And.intro ?_ ?_)) (by repeat' (first | exact trivial | exact rfl | refine And.intro ?_ ?_)) rfl rfl (fun _ => rfl) ?_
  refine At.weak (φ' := runB [] b bd) 10 rfl (runB_st _ _ _) (fun v F w h => ⟨⟨_, ok⟩, h⟩) ?_
  refine At.loop (X := (i : Nat) ×' (R : List Ch) ×' (i ≤ ls.length ∧ i ≤ 60 ∧ R.length ≤ i ∧ noFly R)) 11 (fun x => ls.length - x.1)
    (fun x => [(0, .t (.c (.nm 0))), (1, .t (.c (.nm 1))), (5, .t (.c (.nm 10))), (6, .t (.c (iT (x.1 : Nat))))])
    (fun x => [(0, some (false, .rd 4 ls.length (acells ls))), (1, some (false, .rd 1 ps.length (ivs ps))), (2, some (false, .ab (frzP (ls.map AC.w)))), (10, some (true, .ab (runB x.2.1 b bd)))]) ⟨0, [], by omega, by omega, by simp, fun c hc => (by cases hc)⟩ [] (fun x => wf rfl rfl) (by repeat' (first | exact trivial | exact rfl | refine And.intro ?_ ?_)) (by repeat' (first | exact trivial | exact rfl | refine And.intro ?_ ?_)) rfl fun x => ?_
  obtain ⟨i, R, hi1, hi2, hRl, hnf⟩ := x
  have w3 : IntKind.i64.wrap ((i : Int) + 1) = ((i + 1 : Nat) : Int) := by rw [wrap_sm (by omega) (by omega)]; omega
  cases hc : decide ((i : Int) < (ls.length : Nat)) && decide ((i : Int) < 60) with
  | true =>
    have hlt : i < ls.length := by have := of_decide_eq_true (Bool.and_eq_true_iff.1 hc).1; omega
    have h60 : i < 60 := by have := of_decide_eq_true (Bool.and_eq_true_iff.1 hc).2; omega
    have r1 := acells_rd hlt
    have b0 : (0 : Int) ≤ (i : Int) := by omega
    have b1 : (i : Int) < (ls.length : Int) := by omega
    have c5 : (i : Int).toNat * 4 < (acells ls).length := by rw [acells_len]; omega
    have hadd := fun (H : HL) (nx : Nat) (h1 : lookH H 10 = some (true, .ab (runB R b bd))) (h2 : lookH H 2 = some (false, .ab (frzP (ls.map AC.w)))) => raddB (nx := nx) (at' := ls[i].at') (off := ls[i].off) (by' := ls[i].by') (back := ls[i].back) (A0 := ls[i].A) (m0 := ls[i].m) h1 h2 (List.mem_map.2 ⟨ls[i], List.getElem_mem hlt, rfl⟩) (by decide) (by omega) (zb _ (List.getElem_mem hlt))
    have hR1l : (R ++ [rnC R ls[i].at' ls[i].off ls[i].by' ls[i].back]).length ≤ i + 1 := by simp; omega
    have hnf1 := hnf.add ls[i].at' ls[i].off ls[i].by' ls[i].back
    generalize R ++ [rnC R ls[i].at' ls[i].off ls[i].by' ls[i].back] = R1 at *
    refine rn [(28, .dec true), (35, .ld [iT ls[i].at', iT ls[i].off, .i .u8 ls[i].by', .raw (.slice ls[i].A ls[i].back.length ls[i].m)]), (36, .spec ⟨.t (.c (.b true)), [], [(10, some (.ab (runB R1 b bd)))], []⟩), (37, .dec false)] rfl (by (repeat' (first | exact trivial | exact rfl | exact trivial | exact fun _ => trivial | first | exact hc | exact r1 | exact b0 | exact b1 | exact c5 | exact hadd _ _ rfl rfl | rfl | decide | refine And.intro ?_ ?_))) ?_
    exact roundEnd ⟨i + 1, R1, by omega, by omega, by omega, hnf1⟩ [] (by show ls.length - (i + 1) < ls.length - i; omega) (by (repeat' (first | exact trivial | exact rfl | exact w3 | exact fun _ => w3 | refine And.intro ?_ ?_))) (by repeat' (first | exact trivial | exact rfl | refine And.intro ?_ ?_)) rfl
  | false =>
    refine rn [(28, .dec false)] rfl (by (repeat' (first | exact trivial | exact rfl | exact trivial | exact fun _ => trivial | exact hc | refine And.intro ?_ ?_))) (roundExit rfl ?_)
    refine rnA [] rfl (by repeat' (first | exact trivial | exact rfl | refine And.intro ?_ ?_)) ?_
    refine At.num b ?_
    refine At.num bd ?_
    refine At.alias 5 10 11 rfl (runB_pins R b bd) rfl rfl ?_
    refine At.loop (X := (j : Nat) ×' (R : List Ch) ×' (j + (und R).length ≤ 60 ∧ R.length ≤ 60 ∧ noFly R)) 13 (fun x => 60 - x.1)
      (fun x => [(1, .t (.c (.nm 1))), (5, .t (.c (.p 11 0))), (7, .t (.c (iT (x.1 : Nat))))])
      (fun x => [(1, some (false, .rd 1 ps.length (ivs ps))), (10, some (true, .ab (runB x.2.1 b bd))), (11, some (false, .pin 11 b)), (12, some (false, .pin 12 bd))]) ⟨0, R, by have := List.length_filter_le (fun c : Ch => c.st != 0) R; rw [und]; omega, by omega, hnf⟩ [] (fun x => wf rfl rfl) (by repeat' (first | exact trivial | exact rfl | refine And.intro ?_ ?_)) (by repeat' (first | exact trivial | exact rfl | refine And.intro ?_ ?_)) rfl fun x => ?_
    obtain ⟨j, R, hj, hRl, hnf⟩ := x
    refine At.factE (p := DepOk R ∧ okB R) 10 rfl (fun v F w ⟨x, _⟩ => ⟨x.2.dr.dep, x.2.ok⟩) fun hf => ?_
    obtain ⟨hdp, hob⟩ := hf
    have w4 : IntKind.i64.wrap ((j : Int) + 1) = ((j + 1 : Nat) : Int) := by rw [wrap_sm (by omega) (by omega)]; omega
    have hL := fun (H : HL) (nx : Nat) (h1 : lookH H 10 = some (true, .ab (runB R b bd))) (h2 : lookH H 12 = some (false, .pin 12 bd)) => leftB (nx := nx) h1 h2 (by decide)
    have hS := fun (H : HL) (nx : Nat) (h1 : lookH H 10 = some (true, .ab (runB R b bd))) (h2 : lookH H 12 = some (false, .pin 12 bd)) => sectB (nx := nx) h1 h2 (by decide)
    cases hcl : decide (((und R).length : Int) > 0) with
    | true =>
      have hpos : 0 < (und R).length := by have := of_decide_eq_true hcl; omega
      have hu : und R ≠ [] := fun h => by rw [h] at hpos; simp at hpos
      have hsn := secs_some hdp hnf hu
      have hj60 : j < 60 := by omega
      have hsl : 0 < (secs (und R)).length := List.length_pos_iff.2 hsn
      have hall := fun k (hk : k ∈ secs (und R)) => secs_ok hdp hob hk
      have hsle : (secs (und R)).length ≤ 400000 := by
        have h1 : (secs (und R)).length ≤ (srtI (atK (und R))).length := List.length_filter_le _ _
        rw [srtI_length] at h1
        have h2 := atK_le (und R)
        omega
      generalize hSS : secs (und R) = SS at *
      have g1 : decide ((200 : Int) ≤ (j : Int)) = false := decide_eq_false (by omega)
      have g2 : ((SS.length : Int) == 0) = false := by simp; omega
      have e0 : (ivs SS)[(0 : Int).toNat * 1]? = some (.int .i64 SS[0]) := by simpa using ivs_at hsl
      have d1 : (0 : Int) < (SS.length : Int) := by omega
      have key : ∀ (a : Int), a ∈ SS → ∃ R1 R2 : List Ch, mvR R (a % 8) false = R1 ∧ mvR R1 (a % 8) false = R2 ∧ (und R2).length < (und R).length ∧ R1.length ≤ 60 ∧ R2.length ≤ 60 ∧ noFly R2 := by
        intro a ha
        obtain ⟨h1, h2, h3⟩ := hall a ha
        have h4 : a % 8 = a := Int.emod_eq_of_lt h2 h3
        obtain ⟨m1, m2⟩ := round_mv hdp hnf h1 false
        refine ⟨_, _, rfl, rfl, ?_, ?_, ?_, ?_⟩
        · rw [h4, m1, m2]; exact und_round hdp h1
        · rw [mvR_len]; exact hRl
        · rw [mvR_len, mvR_len]; exact hRl
        · rw [h4, m1, m2]; exact hnf.round hdp a
      cases hp : decide ((j : Int) < (ps.length : Nat)) with
      | false =>
        obtain ⟨R1, R2, m1, m2, hlt, hl1, hl2, hnf2⟩ := key SS[0] (List.getElem_mem hsl)
        have hm1 := fun (H : HL) (nx : Nat) (h1 : lookH H 10 = some (true, .ab (runB R b bd))) (h2 : lookH H 11 = some (false, .pin 11 b)) => fnh_al1 h1 (runB_pins R b bd) h2 (moveB (nx := nx) h1 (by omega) SS[0] false)
        have hm2 := fun (H : HL) (nx : Nat) (h1 : lookH H 10 = some (true, .ab (runB R1 b bd))) (h2 : lookH H 11 = some (false, .pin 11 b)) => fnh_al1 h1 (runB_pins R1 b bd) h2 (moveB (nx := nx) h1 (by omega) SS[0] false)
        rw [m1] at hm1
        rw [m2] at hm2
        have hL2 := fun (H : HL) (nx : Nat) (h1 : lookH H 10 = some (true, .ab (runB R2 b bd))) (h2 : lookH H 12 = some (false, .pin 12 bd)) => leftB (nx := nx) h1 h2 (by decide)
        have g3 : decide (((und R).length : Int) ≤ ((und R2).length : Int)) = false := decide_eq_false (by omega)
        refine rn [(41, .spec ⟨.t (.c (.p 12 0)), [], [], []⟩), (42, .spec ⟨.t (.c (iT ((und R).length : Nat))), [], [], []⟩), (43, .dec true), (49, .spec ⟨.t (.c (.p 12 0)), [], [], []⟩), (50, .spec ⟨.t (.c (.nm 13)), [(true, .own 3 1 SS.length (ivs SS))], [], []⟩), (53, .dec false), (57, .dec false), (60, .ld [iT SS[0]]), (64, .dec false), (78, .spec ⟨.t (.c (.p 12 0)), [], [], []⟩), (79, .spec ⟨.t (.c (iT ((und R).length : Nat))), [], [], []⟩),
          (82, .spec ⟨.t (.c (.b true)), [], [(10, some (.ab (runB R1 b bd)))], []⟩), (84, .dec false), (87, .spec ⟨.t (.c (.b true)), [], [(10, some (.ab (runB R2 b bd)))], []⟩), (90, .dec false), (94, .spec ⟨.t (.c (.p 12 0)), [], [], []⟩), (95, .spec ⟨.t (.c (iT ((und R2).length : Nat))), [], [], []⟩), (98, .dec false)] rfl
          (by (repeat' (first | exact trivial | exact rfl | exact trivial | exact fun _ => trivial | first | exact spec_rd (r := 10) (q := 11) (m := 12) rfl rfl rfl (fun _ => rfl) rfl rfl rfl rfl | exact hL _ _ rfl rfl | exact hL2 _ _ rfl rfl | exact hS _ _ rfl rfl | exact hm1 _ _ rfl rfl | exact hm2 _ _ rfl rfl | exact hcl | exact g1 | exact g2 | exact g3 | exact e0 | exact ⟨e0, trivial⟩ | exact d1 | exact hp | rfl | decide | refine And.intro ?_ ?_))) ?_
        exact roundEnd ⟨j + 1, R2, by omega, hl2, hnf2⟩ [] (by show 60 - (j + 1) < 60 - j; omega) (by (repeat' (first | exact trivial | exact rfl | exact w4 | exact fun _ => w4 | refine And.intro ?_ ?_))) (by repeat' (first | exact trivial | exact rfl | refine And.intro ?_ ?_)) rfl
      | true =>
        have hpl : j < ps.length := by have := of_decide_eq_true hp; omega
        have e1 : (ivs ps)[(j : Int).toNat * 1]? = some (.int .i64 ps[j]) := by simpa using ivs_at hpl
        have c0 : (0 : Int) ≤ (j : Int) := by omega
        have c1 : (j : Int) < (ps.length : Int) := by omega
        have am := among0 ps[j] (SS.length : Int) (by omega) (by omega)
        have hz0 := Int.emod_nonneg ps[j] (show (SS.length : Int) ≠ 0 by omega)
        have hz1 := Int.emod_lt_of_pos ps[j] (show (0 : Int) < (SS.length : Int) by omega)
        generalize ps[j] % (SS.length : Int) = z at *
        have hzn : z.toNat < SS.length := by omega
        have e2 : (ivs SS)[z.toNat * 1]? = some (.int .i64 SS[z.toNat]) := by simpa using ivs_at hzn
        obtain ⟨R1, R2, m1, m2, hlt, hl1, hl2, hnf2⟩ := key SS[z.toNat] (List.getElem_mem hzn)
        have hm1 := fun (H : HL) (nx : Nat) (h1 : lookH H 10 = some (true, .ab (runB R b bd))) (h2 : lookH H 11 = some (false, .pin 11 b)) => fnh_al1 h1 (runB_pins R b bd) h2 (moveB (nx := nx) h1 (by omega) SS[z.toNat] false)
        have hm2 := fun (H : HL) (nx : Nat) (h1 : lookH H 10 = some (true, .ab (runB R1 b bd))) (h2 : lookH H 11 = some (false, .pin 11 b)) => fnh_al1 h1 (runB_pins R1 b bd) h2 (moveB (nx := nx) h1 (by omega) SS[z.toNat] false)
        rw [m1] at hm1
        rw [m2] at hm2
        have hL2 := fun (H : HL) (nx : Nat) (h1 : lookH H 10 = some (true, .ab (runB R2 b bd))) (h2 : lookH H 12 = some (false, .pin 12 bd)) => leftB (nx := nx) h1 h2 (by decide)
        have g3 : decide (((und R).length : Int) ≤ ((und R2).length : Int)) = false := decide_eq_false (by omega)
        refine rn [(41, .spec ⟨.t (.c (.p 12 0)), [], [], []⟩), (42, .spec ⟨.t (.c (iT ((und R).length : Nat))), [], [], []⟩), (43, .dec true), (49, .spec ⟨.t (.c (.p 12 0)), [], [], []⟩), (50, .spec ⟨.t (.c (.nm 13)), [(true, .own 3 1 SS.length (ivs SS))], [], []⟩), (53, .dec false), (57, .dec false), (60, .ld [iT SS[0]]), (64, .dec true), (69, .ld [iT ps[j]]), (72, .ret (.t (.c (iT z)))), (74, .ld [iT SS[z.toNat]]), (78, .spec ⟨.t (.c (.p 12 0)), [], [], []⟩), (79, .spec ⟨.t (.c (iT ((und R).length : Nat))), [], [], []⟩),
          (82, .spec ⟨.t (.c (.b true)), [], [(10, some (.ab (runB R1 b bd)))], []⟩), (84, .dec false), (87, .spec ⟨.t (.c (.b true)), [], [(10, some (.ab (runB R2 b bd)))], []⟩), (90, .dec false), (94, .spec ⟨.t (.c (.p 12 0)), [], [], []⟩), (95, .spec ⟨.t (.c (iT ((und R2).length : Nat))), [], [], []⟩), (98, .dec false)] rfl
          (by (repeat' (first | exact trivial | exact rfl | exact trivial | exact fun _ => trivial | first | exact spec_rd (r := 10) (q := 11) (m := 12) rfl rfl rfl (fun _ => rfl) rfl rfl rfl rfl | exact hL _ _ rfl rfl | exact hL2 _ _ rfl rfl | exact hS _ _ rfl rfl | exact hm1 _ _ rfl rfl | exact hm2 _ _ rfl rfl | exact hcl | exact g1 | exact g2 | exact g3 | exact e0 | exact ⟨e0, trivial⟩ | exact e1 | exact ⟨e1, trivial⟩ | exact e2 | exact ⟨e2, trivial⟩ | exact am | exact c0 | exact c1 | exact hz0 | exact hz1 | exact d1 | exact hp | rfl | decide | refine And.intro ?_ ?_))) ?_
        exact roundEnd ⟨j + 1, R2, by omega, hl2, hnf2⟩ [] (by show 60 - (j + 1) < 60 - j; omega) (by (repeat' (first | exact trivial | exact rfl | exact w4 | exact fun _ => w4 | refine And.intro ?_ ?_))) (by repeat' (first | exact trivial | exact rfl | refine And.intro ?_ ?_)) rfl
    | false =>
      have h0 : (und R).length = 0 := by have := of_decide_eq_false hcl; omega
      have hun : und R = [] := List.length_eq_zero_iff.1 h0
      have hse := fun (H : HL) (nx : Nat) (h1 : lookH H 10 = some (true, .ab (runB R b bd))) (h2 : lookH H 11 = some (false, .pin 11 b)) => fnh_al1 h1 (runB_pins R b bd) h2 (seenB (nx := nx) h1 (by omega))
      rw [hun, show secs [] = [] by simp [secs, atK, srtI]] at hS
      refine rn [(41, .spec ⟨.t (.c (.p 12 0)), [], [], []⟩), (42, .spec ⟨.t (.c (iT ((und R).length : Nat))), [], [], []⟩), (43, .dec false)] rfl (by (repeat' (first | exact trivial | exact rfl | exact trivial | exact fun _ => trivial | first | exact spec_rd (r := 10) (q := 11) (m := 12) rfl rfl rfl (fun _ => rfl) rfl rfl rfl rfl | exact hL _ _ rfl rfl | exact hcl | refine And.intro ?_ ?_))) (roundExit rfl ?_)
      refine rnA [(100, .spec ⟨.t (.c (.b true)), [], [], []⟩), (101, .dec true), (105, .spec ⟨.t (.c (.p 12 0)), [], [], []⟩), (106, .spec ⟨.t (.c (.nm 13)), [(true, .own 3 1 0 (ivs []))], [], []⟩)] rfl (by (repeat' (first | exact trivial | exact rfl | exact trivial | exact fun _ => trivial | first | exact spec_rd (r := 10) (q := 11) (m := 12) rfl rfl rfl (fun _ => rfl) rfl rfl rfl rfl | exact hS _ _ rfl rfl | exact hse _ _ rfl rfl | rfl | refine And.intro ?_ ?_))) ?_
      exact ret0 tysOk rfl (by repeat' (first | exact trivial | exact rfl | refine And.intro ?_ ?_)) rfl
end Cw
namespace Cw
open Go Vc
open Go.Proofs
set_option maxRecDepth 100000
theorem rdsG_lt {w : World} {A : Option Addr} {n c s : Nat} {xs : List Value} (h : Vc.Rds w A n c s xs) (a : Addr) (ha : A = some a) (h0 : 0 < xs.length) : a.block < w.heap.size := by
  obtain ⟨_, _, _, _, h5⟩ := h
  obtain ⟨a', h6, h7⟩ := h5 0 xs[0] (by simp [h0])
  rw [ha] at h6
  cases h6
  have hb : (a.add 0).block = a.block := addr_blk a 0
  rcases Nat.lt_or_ge a.block w.heap.size with h | h
  · exact h
  · exfalso
    unfold World.cell? at h7
    rw [hb, Array.getElem?_eq_none h] at h7
    cases h7
theorem memG {w : World} {A1 A2 : Option Addr} {n1 c1 s1 n2 c2 s2 : Nat} {xs1 xs2 : List Value} {Wl : List (List Int × Option Addr × Nat)} (h1 : Vc.Rds w A1 n1 c1 s1 xs1) (h2 : Vc.Rds w A2 n2 c2 s2 xs2) (hf : ∀ y ∈ Wl, Vc.Rds w y.2.1 y.1.length y.2.2 1 (ivs y.1)) :
    ∃ e : Env, MemOk [(0, some (false, .rd s1 n1 xs1)), (1, some (false, .rd s2 n2 xs2)), (2, some (false, .ab (frzP Wl)))] e w ∧ e.val 0 = .slice A1 n1 c1 ∧ e.val 1 = .slice A2 n2 c2 := by
  refine ⟨⟨fun _ => 0, fun q => if q = 0 then .slice A1 n1 c1 else .slice A2 n2 c2, fun q g => if q = 0 then ∃ a, A1 = some a ∧ 0 < xs1.length ∧ g = a.block else if q = 1 then ∃ a, A2 = some a ∧ 0 < xs2.length ∧ g = a.block else ∃ y ∈ Wl, ∃ p, y.2.1 = some p ∧ 0 < y.1.length ∧ g = p.block, fun q => by
      show (if q = 0 then Value.slice A1 n1 c1 else Value.slice A2 n2 c2).oneCell' = true
      split <;> rfl⟩, ⟨fun m b o hm' => ?_, fun m o k c' q hm' hk => ?_⟩, rfl, rfl⟩
  · rw [lookH_cons] at hm'
    split at hm'
    · rename_i h0
      cases hm'
      subst h0
      exact ⟨⟨A1, c1, rfl, h1, fun a ha h0 => ⟨a, ha, h0, rfl⟩⟩, fun g ⟨a, ha, h0, hg⟩ => hg ▸ rdsG_lt h1 a ha h0⟩
    · rw [lookH_cons] at hm'
      split at hm'
      · rename_i h0
        cases hm'
        subst h0
        exact ⟨⟨A2, c2, rfl, h2, fun a ha h0 => ⟨a, ha, h0, rfl⟩⟩, fun g ⟨a, ha, h0, hg⟩ => hg ▸ rdsG_lt h2 a ha h0⟩
      · rw [lookH_cons] at hm'
        split at hm'
        · rename_i h0
          cases hm'
          subst h0
          exact ⟨⟨fun y hy => ⟨hf y hy, fun p hp h0 => ⟨y, hy, p, hp, h0, rfl⟩⟩, frzP_stable Wl⟩, fun g ⟨y, hy, p, hp, h0, hg⟩ => hg ▸ rdsG_lt (hf y hy) p hp (by rw [ivs_length]; exact h0)⟩
        · cases hm'
  · rw [lookH_cons] at hm'
    split at hm'
    · cases hm'
    · rw [lookH_cons] at hm'
      split at hm'
      · cases hm'
      · rw [lookH_cons] at hm'
        split at hm'
        · cases hm'
        · cases hm'
theorem depsClosed_true (ls : List AC) (ms : List (Int × Bool)) (A1 A2 : Option Addr) (c1 c2 : Nat) (w : World) (zl : ls.length ≤ 100000000000000) (zm : ms.length ≤ 100000000000000) (zb : ∀ a ∈ ls, a.back.length ≤ 17592186043904) (hb : ∀ a ∈ ls, Vc.Rds w a.A a.back.length a.m 1 (ivs a.back)) (h1 : Vc.Rds w A1 ls.length c1 4 (acells ls)) (h2 : Vc.Rds w A2 ms.length c2 2 (mcells ms)) :
    Calls Try.prog 6 #[.slice A1 ls.length c1, .slice A2 ms.length c2] w fun e w' => e = .returned (.bool true) ∧ RowKit.Below w.heap.size w w' := by
  obtain ⟨e, M, v0, v1⟩ := memG (Wl := ls.map AC.w) h1 h2 fun y hy => by
    obtain ⟨a, ha, rfl⟩ := List.mem_map.1 hy
    exact hb a ha
  have := fnh_law (depsClosed_h ls ms zl zm zb) rfl rfl M
  rw [show ([.c (.nm 0), .c (.nm 1)] : List TV).map (TV.den e) = [e.val 0, e.val 1] from rfl, v0, v1] at this
  exact this
theorem depsEnd_true (ls : List AC) (ps : List Int) (A1 A2 : Option Addr) (c1 c2 : Nat) (w : World) (zl : ls.length ≤ 100000000000000) (zm : ps.length ≤ 100000000000000) (zb : ∀ a ∈ ls, a.back.length ≤ 17592186043904) (hb : ∀ a ∈ ls, Vc.Rds w a.A a.back.length a.m 1 (ivs a.back)) (h1 : Vc.Rds w A1 ls.length c1 4 (acells ls)) (h2 : Vc.Rds w A2 ps.length c2 1 (ivs ps)) :
    Calls Try.prog 7 #[.slice A1 ls.length c1, .slice A2 ps.length c2] w fun e w' => e = .returned (.bool true) ∧ RowKit.Below w.heap.size w w' := by
  obtain ⟨e, M, v0, v1⟩ := memG (Wl := ls.map AC.w) h1 h2 fun y hy => by
    obtain ⟨a, ha, rfl⟩ := List.mem_map.1 hy
    exact hb a ha
  have := fnh_law (depsEnd_h ls ps zl zm zb) rfl rfl M
  rw [show ([.c (.nm 0), .c (.nm 1)] : List TV).map (TV.den e) = [e.val 0, e.val 1] from rfl, v0, v1] at this
  exact this
end Cw
