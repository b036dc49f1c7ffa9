/- The statement SoftDrains: the walk. -/
import Derived.Test.YtapmgndnjgoimaaGreatSoft
namespace Cw
open Go Vc
open Go.Proofs
set_option maxRecDepth 100000
theorem gdel_head (n k : Int) (l : List (Int × Int)) : gdel n ((n, k) :: l) = l := by
  unfold gdel
  rw [if_pos rfl]
theorem txt_no (x : ByteArray) : (!x.toList == x.toList) = false := by simp
section
variable {H : HL} {nx d q b bd bk r m l : Nat} {b1 b2 b3 : Bool} {V : DV} {W : List (List Int × Option Addr × Nat)} {R : List Ch} {fly : List (Int × Int)} {last node : Int}
theorem leftU1 (hd : lookH H d = some (b1, .cells [.nm l, iT last] 83)) (hl : lookH H l = some (b2, .own 85 6 V.length (dpc V))) :
    FnH Tryz.prog 17 [.c (.p d 0), .c .nsl] H nx ⟨.t (.c (iT (V.length : Nat))), [], [], []⟩ := by
  refine fnR (fn := Tryz.f17) 33 rfl rfl rfl (args' := [.c (.p 0 0), .c .nsl]) (H' := hDp V last) (nx' := 2) (fun e w M => ⟨_, mem_rd (r2p d l) (memDp hd hl) M, rfl⟩) rfl rfl rfl rfl fun w => ?_
  show At _ _ _ _ _ _ [(0, some (false, .cells [.nm 1, iT last] 83)), (1, some (false, .own 85 6 V.length (dpc V)))] 2
  refine rn [(10, .dec true)] rfl (by (repeat' (first | exact trivial | exact rfl | exact trivial | exact fun _ => trivial | rfl | refine And.intro ?_ ?_))) ?_
  exact ret0 tysOk rfl (by repeat' (first | exact trivial | exact rfl | refine And.intro ?_ ?_)) rfl
theorem left1 (hd : lookH H d = some (b1, .ab (depP V R.length b))) (h : DR V W R) :
    FnH Tryz.prog 17 [.c (.nm d), .c .nsl] H nx ⟨.t (.c (iT ((und R).length : Nat))), [], [], []⟩ := by
  have := fnh_in (nx := nx) (u := .c (.nm d)) (bs := [.c .nsl]) (O := depO V R.length b) (x := .p 0 0) (y := .p 0 0) (v' := .t (.c (iT (V.length : Nat)))) (news' := []) hd rfl rfl rfl rfl rfl (nm_ptr2 (k := 2) hd (dep_pins _ _ _) rfl) (leftU1 (d := 0) (l := 1) rfl rfl)
  rw [h.len] at this
  exact this
theorem p_ptr2 {φ : AbP} {O : List (Bool × Ob)} {k : Nat} (hm : lookH H m = some (b1, .pin m bd)) (hO : O[k]? = some (true, .ab φ)) (hp : Pins φ (ptr bd)) : ∀ e e1 w, MemOk H e w → MemOk (newsH 0 O) e1 w → (TV.c (.p m 0)).den e = CV.den e1 (.nm k) := by
  intro e e1 w M M1
  have h1 : e.blk m = bd := (M.ob m b1 _ hm).1.2
  have h2 := hp _ _ _ (M1.ob k true (.ab φ) (by rw [lookH_newsH, if_pos (Nat.zero_le _), Nat.sub_zero]; exact hO)).1.1
  show Value.pointer (some ⟨e.blk m, 0, none⟩) = e1.val k
  rw [h1, h2]
  rfl
theorem leftS (hr : lookH H r = some (true, .ab (sfB R fly node b bd bk))) (hm : lookH H m = some (b1, .pin m bd)) (hrm : r ≠ m) :
    FnH Tryz.prog 17 [.c (.p m 0), .c .nsl] H nx ⟨.t (.c (iT ((und R).length : Nat))), [], [], []⟩ :=
  fnh_ex2 hr (fun _ => absP_stable _ _) fun x => fnh_in (nx := nx) (u := .c (.p m 0)) (bs := [.c .nsl]) (O := sfO x.1.1 x.1.2 R.length fly node b bd bk) (x := .p 0 0) (y := .nm 1) (v' := .t (.c (iT ((und R).length : Nat)))) (news' := []) look_eq rfl rfl rfl rfl rfl (p_ptr2 (k := 1) ((look_ne hrm).trans hm) rfl (dep_pins _ _ _)) (left1 (b1 := true) (V := x.1.1) (b := bd) rfl x.2)
/-- The changes of a side that is shut. -/
theorem spec_rdS {L : LL} {o : Oper} {T : TypeId} {I : Ty} {x : Operand} (hop : o.op = .load T x) (hI : Vc.look T tys = some I) (hsz : I.size = 1) (hmk : ∀ v, mkV I [.raw v] = some (.c (.raw v)))
    (hx : ev L x = some (.c (.p q 0))) (hq : lookH H q = some (b2, .pin q b)) (hm : lookH H m = some (b3, .pin m bd)) (hr : lookH H r = some (b1, .ab (sfB R fly node b bd bk))) : Spec Tryz.prog L H nx o ⟨.t (.c (.p m 0)), [], [], []⟩ := by
  refine ⟨fun F => step_pure fun e a w S' => ?_⟩
  have hT := tysOk _ _ hI
  obtain ⟨⟨y, e1, hv, hO, _⟩, _⟩ := (S'.ob r b1 _ hr).1
  have hblk := (hO 0 _ _ rfl).1.2
  have hp : e1.blk 0 = b := (hO 5 _ _ rfl).1.2
  have hdv : e1.val 1 = ptr bd := dep_pins _ _ _ _ _ _ (hO 1 _ _ rfl).1.1
  have hb : e.blk q = b := (S'.ob q b2 _ hq).1.2
  have hbm : e.blk m = bd := (S'.ob m b3 _ hm).1.2
  rw [hp] at hblk
  have hev : a.eval x = .pointer (some ⟨b, 0, none⟩) := by
    rw [ev_ok S' hx]
    simp only [TV.den, CV.den, hb]
  have hrun := run_loadVar (P := Tryz.prog) (w := w) hT ⟨b, 0, none⟩ e (l := [.raw (ptr bd)]) (by rw [hsz]; rfl) (hmk _) fun j u hu => by
    cases j with
    | zero =>
      rw [lit_add, cell_of_row w b (0 + 0) _ _ (0, 0) hblk]
      simp [CV.den] at hu
      rw [← hu, ← hdv]
      rfl
    | succ j => simp at hu
  simp only [execOp, hop, hev, Instr.loadAt, Instr.sureAddr, Sem.run_bind, Sem.run_pure, Result.andThen_ok, hrun, SV.den, TV.den, CV.den, hbm]
  rfl
end
set_option maxRecDepth 100000 in
set_option maxHeartbeats 16000000 in
theorem softDrains_h (ls : List SC) (zl : ls.length ≤ 100000000000000) (zb : ∀ a ∈ ls, a.back.length ≤ 17592186043904) :
    FnH Tryz.prog 4 [.c (.nm 0)] [(0, some (false, .rd 4 ls.length (scells ls))), (1, some (false, .ab (frzP (ls.map SC.w))))] 2 ⟨.t (.c (.b true)), [], [], []⟩ := by
  refine fnR (fn := Tryz.f4) 186 rfl rfl rfl (args' := [.c (.nm 0)]) (H' := [(0, some (false, .rd 4 ls.length (scells ls))), (1, some (false, .ab (frzP (ls.map SC.w))))]) (nx' := 2) (fun e w M => ⟨_, mem_rd (fun n => n) (H' := [(0, some (false, .rd 4 ls.length (scells ls))), (1, some (false, .ab (frzP (ls.map SC.w))))]) ⟨⟨false, rfl⟩, ⟨false, rfl⟩, trivial⟩ M, rfl⟩) rfl rfl rfl rfl fun w => ?_
  refine rn [(26, .spec ⟨.tup [.c (.nm 2), .c (iT 0)], [(true, .ab (dkX 0))], [], []⟩), (30, .spec ⟨.t (.c (.b false)), [], [], []⟩), (35, .dec false), (36, .spec ⟨.t (.c (.b true)), [], [], []⟩), (38, .dec false), (20004, .dec true)] rfl (by (repeat' (first | exact trivial | exact rfl | exact newS 0 | exact fun _ => newS 0 | first | exact nilDkX rfl rfl rfl rfl | exact softWorks_h | rfl | refine And.intro ?_ ?_))) ?_
  refine At.ex (φ := fun bk => dkP ⟨[], [], 0⟩ 0 bk) 2 rfl (fun _ => absP_stable _ _) fun bk => ?_
  have hN := fun (H : HL) (nx : Nat) (h1 : lookH H 2 = some (true, .ab (dkP ⟨[], [], 0⟩ 0 bk))) => softNew (nx := nx) h1 (.inl rfl)
  obtain ⟨N, hNd⟩ : ∃ N : Nat, N = min ls.length 40 := ⟨_, rfl⟩
  have hNm : (if (40 : Int) < (ls.length : Int) then (40 : Int) else (ls.length : Int)) = (N : Int) := by split <;> omega
  refine rn [(41, .spec ⟨.tup [.c (.nm 3), .c (iT 0)], [(true, .ab (sfX 0 bk))], [(2, some (.ab (dkP ⟨[], [], 0⟩ 0 bk)))], []⟩), (45, .spec ⟨.t (.c (.b false)), [], [], []⟩), (49, .dec false)] rfl (by (repeat' (first | exact trivial | exact rfl | exact trivial | exact fun _ => trivial | first | exact hN _ _ rfl | exact nilSf rfl rfl rfl rfl | rfl | refine And.intro ?_ ?_))) ?_
  refine At.ex (φ := fun p : Nat × Nat => sfB [] [] 0 p.1 p.2 bk) 3 rfl (fun p => sfB_st _ _ _ _ _ _) fun p => ?_
  obtain ⟨b, bd⟩ := p
  refine At.loop (X := (i : Nat) ×' (R : List Ch) ×' (i ≤ N ∧ SOk ⟨R, [], 0⟩ ∧ R.length = i)) 4 (fun x => N - x.1)
    (fun x => [(0, .t (.c (.nm 0))), (3, .t (.c (.nm 2))), (5, .t (.c (.nm 3))), (6, .t (.c (iT (N : Nat)))), (53, .t (.c (iT (N : Nat)))), (54, .t (.c (iT (x.1 : Nat))))])
    (fun x => [(0, some (false, .rd 4 ls.length (scells ls))), (1, some (false, .ab (frzP (ls.map SC.w)))), (2, some (true, .ab (dkP ⟨x.2.1, [], 0⟩ 0 bk))), (3, some (true, .ab (sfB x.2.1 [] 0 b bd bk)))]) ⟨0, [], by omega, SfOk.nil, rfl⟩ [] (fun x => wf rfl rfl) (by (repeat' (first | exact trivial | exact rfl | exact trivial | exact fun _ => trivial | first | exact hNm | rfl | refine And.intro ?_ ?_))) (by repeat' (first | exact trivial | exact rfl | refine And.intro ?_ ?_)) rfl fun x => ?_
  obtain ⟨i, R, hiN, hok, hlen⟩ := x
  have w3 : IntKind.i64.wrap ((i : Int) + 1) = ((i + 1 : Nat) : Int) := by rw [wrap_sm (by omega) (by omega)]; omega
  refine rn [] rfl (by repeat' (first | exact trivial | exact rfl | refine And.intro ?_ ?_)) ?_
  refine ⟨fun h1 => ?_, fun h1 => ?_⟩
  · have hlN : i < N := by have : (i : Int) < (N : Int) := of_decide_eq_true h1; omega
    clear h1
    have hlt : i < ls.length := by omega
    obtain ⟨r0, r1, r2, r3⟩ := scells_at hlt
    have b0 : (0 : Int) ≤ (i : Int) := by omega
    have b1 : (i : Int) < (ls.length : Int) := by omega
    have c5 : (i : Int).toNat * 4 < (scells ls).length := by rw [scells_len]; omega
    refine rn [(61, .ld [.raw (.slice ls[i].A ls[i].back.length ls[i].m)])] rfl (by (repeat' (first | exact trivial | exact rfl | exact trivial | exact fun _ => trivial | first | exact r3 | exact ⟨r3, trivial⟩ | exact b0 | exact b1 | exact c5 | decide | refine And.intro ?_ ?_))) ?_
    refine At.nil 8 3 1 rfl ?_
    refine At.rawF (xs := ls[i].back) (A := ls[i].A) (m := ls[i].m) 61 1 rfl (List.mem_map.2 ⟨ls[i], List.getElem_mem hlt, rfl⟩) rfl ?_
    have zbi := zb _ (List.getElem_mem hlt)
    refine At.loop (X := (k : Nat) ×' (k ≤ ls[i].back.length)) 6 (fun x => ls[i].back.length - x.1)
      (fun y => [(0, .t (.c (.nm 0))), (3, .t (.c (.nm 2))), (5, .t (.c (.nm 3))), (6, .t (.c (iT (N : Nat)))), (7, .t (.c (iT (i : Nat)))), (8, .t (.c (.nm 4))), (53, .t (.c (iT (N : Nat)))), (54, .t (.c (iT (i : Nat)))), (61, .t (.c (.nm 5))), (62, .t (.c (iT (ls[i].back.length : Nat)))), (63, .t (.c (iT (y.1 : Nat))))])
      (fun y => [(0, some (false, .rd 4 ls.length (scells ls))), (1, some (false, .ab (frzP (ls.map SC.w)))), (2, some (true, .ab (dkP ⟨R, [], 0⟩ 0 bk))), (3, some (true, .ab (sfB R [] 0 b bd bk))), (4, some (true, .own 3 1 (b5T i (ls[i].back.take y.1)).length (ivs (b5T i (ls[i].back.take y.1))))), (5, some (false, .rd 1 ls[i].back.length (ivs ls[i].back)))]) ⟨0, by omega⟩ [] (fun x => wf rfl rfl) (by repeat' (first | exact trivial | exact rfl | refine And.intro ?_ ?_)) (by repeat' (first | exact trivial | exact rfl | refine And.intro ?_ ?_)) rfl fun y => ?_
    obtain ⟨k, hk⟩ := y
    have w4 : IntKind.i64.wrap ((k : Int) + 1) = ((k + 1 : Nat) : Int) := by rw [wrap_sm (by omega) (by omega)]; omega
    refine rn [] rfl (by repeat' (first | exact trivial | exact rfl | refine And.intro ?_ ?_)) ?_
    refine ⟨fun h1 => ?_, fun h1 => ?_⟩
    · have hkl : k < ls[i].back.length := by have : (k : Int) < (ls[i].back.length : Int) := of_decide_eq_true h1; omega
      clear h1
      have e1 : (ivs ls[i].back)[(k : Int).toNat * 1]? = some (.int .i64 ls[i].back[k]) := by simpa using ivs_at hkl
      have d0 : (0 : Int) ≤ (k : Int) := by omega
      have d1 : (k : Int) < (ls[i].back.length : Int) := by omega
      have a5 := among0 ls[i].back[k] 5 (by decide) (by decide)
      have n0 := Int.emod_nonneg ls[i].back[k] (show (5 : Int) ≠ 0 by decide)
      have n5 := Int.emod_lt_of_pos ls[i].back[k] (show (0 : Int) < 5 by decide)
      have w5 : IntKind.i64.wrap ((i : Int) - ls[i].back[k] % 5) = (i : Int) - ls[i].back[k] % 5 := wrap_sm (by omega) (by omega)
      have ht : ls[i].back.take (k + 1) = ls[i].back.take k ++ [ls[i].back[k]] := List.take_succ_eq_append_getElem hkl
      have hsn := b5T_snoc i (ls[i].back.take k) ls[i].back[k]
      rw [← ht] at hsn
      have hle := b5T_le i (ls[i].back.take k)
      rw [List.length_take] at hle
      generalize hbb : ls[i].back[k] = bb at *
      generalize b5T i (ls[i].back.take k) = w0 at *
      have m1 : w0.length + 1 ≤ maxLen := by simp only [maxLen]; omega
      have m2 : (w0.length + 1) * 8 ≤ 140737488355328 := by omega
      cases hcb : decide ((i : Int) - bb % 5 ≥ 1) with
      | true =>
        rw [if_pos hcb] at hsn
        have g1 : decide (IntKind.i64.wrap ((i : Int) - bb % 5) ≥ 1) = true := by rw [w5]; exact hcb
        refine rn [(66, .ld [iT bb]), (69, .ret (.t (.c (iT (bb % 5))))), (72, .dec true)] rfl (by (repeat' (first | exact trivial | exact rfl | exact trivial | exact fun _ => trivial | first | exact e1 | exact ⟨e1, trivial⟩ | exact d0 | exact d1 | exact a5 | exact g1 | exact m1 | exact m2 | decide | refine And.intro ?_ ?_))) ?_
        refine roundEnd ⟨k + 1, by omega⟩ [(4, 7)] (by show ls[i].back.length - (k + 1) < ls[i].back.length - k; omega) (by (repeat' (first | exact trivial | exact rfl | exact w4 | exact fun _ => w4 | refine And.intro ?_ ?_))) ?_ rfl
        rw [hsn]
        repeat' (first | exact trivial | exact rfl | refine And.intro ?_ ?_)
        · simp
        · rw [ivsApp, app_eq, w5]; rfl
      | false =>
        rw [if_neg (by rw [hcb]; decide)] at hsn
        have g1 : decide (IntKind.i64.wrap ((i : Int) - bb % 5) ≥ 1) = false := by rw [w5]; exact hcb
        refine rn [(66, .ld [iT bb]), (69, .ret (.t (.c (iT (bb % 5))))), (72, .dec false)] rfl (by (repeat' (first | exact trivial | exact rfl | exact trivial | exact fun _ => trivial | first | exact e1 | exact ⟨e1, trivial⟩ | exact d0 | exact d1 | exact a5 | exact g1 | decide | refine And.intro ?_ ?_))) ?_
        refine roundEnd ⟨k + 1, by omega⟩ [] (by show ls[i].back.length - (k + 1) < ls[i].back.length - k; omega) (by (repeat' (first | exact trivial | exact rfl | exact w4 | exact fun _ => w4 | refine And.intro ?_ ?_))) ?_ rfl
        rw [hsn]
        repeat' (first | exact trivial | exact rfl | refine And.intro ?_ ?_)
    · have hke : k = ls[i].back.length := by have : ¬ (k : Int) < (ls[i].back.length : Int) := of_decide_eq_false h1; omega
      have htk : ls[i].back.take k = ls[i].back := by rw [hke, List.take_length]
      refine rn [] rfl (by repeat' (first | exact trivial | exact rfl | refine And.intro ?_ ?_)) (roundExit rfl ?_)
      rw [htk]
      have a6 := among0 ls[i].at' 6 (by decide) (by decide)
      have n0 := Int.emod_nonneg ls[i].at' (show (6 : Int) ≠ 0 by decide)
      have n6 := Int.emod_lt_of_pos ls[i].at' (show (0 : Int) < 6 by decide)
      have a64 := among0 ls[i].off 64 (by decide) (by decide)
      have o0 := Int.emod_nonneg ls[i].off (show (64 : Int) ≠ 0 by decide)
      have o6 := Int.emod_lt_of_pos ls[i].off (show (0 : Int) < 64 by decide)
      have hk6 : IntKind.i64.wrap (2 + ls[i].at' % 6) = 2 + ls[i].at' % 6 := wrap_sm (by omega) (by omega)
      have hb5 := fun n (hn : n ∈ b5T i ls[i].back) => b5T_mem (n := i) ls[i].back hn
      have hb5l := b5T_le i ls[i].back
      have hadd := fun (H : HL) (nx : Nat) (h3 : lookH H 3 = some (true, .ab (sfB R [] 0 b bd bk))) (h2 : lookH H 2 = some (true, .ab (dkP ⟨R, [], 0⟩ 0 bk))) (h4 : lookH H 4 = some (true, .own 3 1 (b5T i ls[i].back).length (ivs (b5T i ls[i].back)))) =>
        softAdd (nx := nx) (R := R) (fly := []) (last := 0) h3 h2 (by decide) (by decide) hok (by omega) (k := 2 + ls[i].at' % 6) (o := ls[i].off % 64) (y := ls[i].by') h4 (by decide) (by omega) (by omega) (fun n hn => by rw [hlen]; exact hb5 n hn) (by omega)
      have hok1 := (SfOk.plus (node := 0) hok (k := 2 + ls[i].at' % 6) (o := ls[i].off % 64) (b := ls[i].by') (xs := b5T i ls[i].back) (by omega) (by omega) (fun n hn => by rw [hlen]; exact hb5 n hn)).1
      have hR1l : (R ++ [sfC R (2 + ls[i].at' % 6) (ls[i].off % 64) ls[i].by' (b5T i ls[i].back)]).length = i + 1 := by simp [hlen]
      generalize R ++ [sfC R (2 + ls[i].at' % 6) (ls[i].off % 64) ls[i].by' (b5T i ls[i].back)] = R1 at *
      rw [← hk6] at hadd
      generalize b5T i ls[i].back = xs at *
      refine rnA [(84, .ld [iT ls[i].at']), (85, .ret (.t (.c (iT (ls[i].at' % 6))))), (91, .ld [iT ls[i].off]), (92, .ret (.t (.c (iT (ls[i].off % 64))))), (97, .ld [.i .u8 ls[i].by']), (30102, .dec true), (102, .spec ⟨.tup [.c (iT ((R.length : Int) + 1)), .c (iT 0)], [], [(3, some (.ab (sfB R1 [] 0 b bd bk))), (2, some (.ab (dkP ⟨R1, [], 0⟩ 0 bk)))], []⟩), (106, .dec false)] rfl
        (by (repeat' (first | exact trivial | exact rfl | exact trivial | exact fun _ => trivial | first | exact r0 | exact r1 | exact r2 | exact ⟨r0, trivial⟩ | exact ⟨r1, trivial⟩ | exact ⟨r2, trivial⟩ | exact b0 | exact b1 | exact c5 | exact a6 | exact a64 | exact hadd _ _ rfl rfl rfl | rfl | decide | refine And.intro ?_ ?_))) ?_
      exact roundEnd ⟨i + 1, R1, by omega, hok1, hR1l⟩ [] (by show N - (i + 1) < N - i; omega) (by (repeat' (first | exact trivial | exact rfl | exact w3 | exact fun _ => w3 | refine And.intro ?_ ?_))) (by repeat' (first | exact trivial | exact rfl | refine And.intro ?_ ?_)) rfl
  · have hiE : i = N := by have : ¬ (i : Int) < (N : Int) := of_decide_eq_false h1; omega
    have hsr := fun (k : Int) (hk : 0 ≤ k ∧ k < 8) (H : HL) (nx : Nat) (h3 : lookH H 3 = some (true, .ab (sfB R [] 0 b bd bk))) (h2 : lookH H 2 = some (true, .ab (dkP ⟨R, [], 0⟩ 0 bk))) => softRead (nx := nx) h3 h2 (by decide) hok (by omega) hk
    have hal0 : ∀ R' : List Ch, (∀ k, alB R' k = alB R k) → und R' = [] → ∀ k, dkT R' k = snT R k := fun R' ha hu k => by rw [dkT_done hu, snT_all ha]
    have hs0 := hsr 0 (by omega)
    have hs1 := hsr 1 (by omega)
    have hs2 := hsr 2 (by omega)
    have hs3 := hsr 3 (by omega)
    have hs4 := hsr 4 (by omega)
    have hs5 := hsr 5 (by omega)
    have hs6 := hsr 6 (by omega)
    have hs7 := hsr 7 (by omega)
    generalize snT R = T at *
    refine rn [] rfl (by repeat' (first | exact trivial | exact rfl | refine And.intro ?_ ?_)) (roundExit rfl ?_)
    refine rnA [] rfl (by repeat' (first | exact trivial | exact rfl | refine And.intro ?_ ?_)) ?_
    refine At.unroll ?_
    refine rn [(109, .dec true), (115, .spec ⟨.tup [.c (.s (T 0)), .c (iT 0)], [], [(3, some (.ab (sfB R [] 0 b bd bk))), (2, some (.ab (dkP ⟨R, [], 0⟩ 0 bk)))], []⟩)] rfl (by (repeat' (first | exact trivial | exact rfl | exact trivial | exact fun _ => trivial | first | exact hs0 _ _ rfl rfl | rfl | decide | refine And.intro ?_ ?_))) (nextRound ?_)
    refine rn [(109, .dec true), (115, .spec ⟨.tup [.c (.s (T 1)), .c (iT 0)], [], [(3, some (.ab (sfB R [] 0 b bd bk))), (2, some (.ab (dkP ⟨R, [], 0⟩ 0 bk)))], []⟩)] rfl (by (repeat' (first | exact trivial | exact rfl | exact trivial | exact fun _ => trivial | first | exact hs1 _ _ rfl rfl | rfl | decide | refine And.intro ?_ ?_))) (nextRound ?_)
    refine rn [(109, .dec true), (115, .spec ⟨.tup [.c (.s (T 2)), .c (iT 0)], [], [(3, some (.ab (sfB R [] 0 b bd bk))), (2, some (.ab (dkP ⟨R, [], 0⟩ 0 bk)))], []⟩)] rfl (by (repeat' (first | exact trivial | exact rfl | exact trivial | exact fun _ => trivial | first | exact hs2 _ _ rfl rfl | rfl | decide | refine And.intro ?_ ?_))) (nextRound ?_)
    refine rn [(109, .dec true), (115, .spec ⟨.tup [.c (.s (T 3)), .c (iT 0)], [], [(3, some (.ab (sfB R [] 0 b bd bk))), (2, some (.ab (dkP ⟨R, [], 0⟩ 0 bk)))], []⟩)] rfl (by (repeat' (first | exact trivial | exact rfl | exact trivial | exact fun _ => trivial | first | exact hs3 _ _ rfl rfl | rfl | decide | refine And.intro ?_ ?_))) (nextRound ?_)
    refine rn [(109, .dec true), (115, .spec ⟨.tup [.c (.s (T 4)), .c (iT 0)], [], [(3, some (.ab (sfB R [] 0 b bd bk))), (2, some (.ab (dkP ⟨R, [], 0⟩ 0 bk)))], []⟩)] rfl (by (repeat' (first | exact trivial | exact rfl | exact trivial | exact fun _ => trivial | first | exact hs4 _ _ rfl rfl | rfl | decide | refine And.intro ?_ ?_))) (nextRound ?_)
    refine rn [(109, .dec true), (115, .spec ⟨.tup [.c (.s (T 5)), .c (iT 0)], [], [(3, some (.ab (sfB R [] 0 b bd bk))), (2, some (.ab (dkP ⟨R, [], 0⟩ 0 bk)))], []⟩)] rfl (by (repeat' (first | exact trivial | exact rfl | exact trivial | exact fun _ => trivial | first | exact hs5 _ _ rfl rfl | rfl | decide | refine And.intro ?_ ?_))) (nextRound ?_)
    refine rn [(109, .dec true), (115, .spec ⟨.tup [.c (.s (T 6)), .c (iT 0)], [], [(3, some (.ab (sfB R [] 0 b bd bk))), (2, some (.ab (dkP ⟨R, [], 0⟩ 0 bk)))], []⟩)] rfl (by (repeat' (first | exact trivial | exact rfl | exact trivial | exact fun _ => trivial | first | exact hs6 _ _ rfl rfl | rfl | decide | refine And.intro ?_ ?_))) (nextRound ?_)
    refine rn [(109, .dec true), (115, .spec ⟨.tup [.c (.s (T 7)), .c (iT 0)], [], [(3, some (.ab (sfB R [] 0 b bd bk))), (2, some (.ab (dkP ⟨R, [], 0⟩ 0 bk)))], []⟩)] rfl (by (repeat' (first | exact trivial | exact rfl | exact trivial | exact fun _ => trivial | first | exact hs7 _ _ rfl rfl | rfl | decide | refine And.intro ?_ ?_))) (nextRound ?_)
    refine rn [(109, .dec false)] rfl (by (repeat' (first | exact trivial | exact rfl | exact trivial | exact fun _ => trivial | decide | refine And.intro ?_ ?_))) (nextExit rfl ?_)
    refine rnA [] rfl (by repeat' (first | exact trivial | exact rfl | refine And.intro ?_ ?_)) ?_
    refine At.loop (X := (j : Nat) ×' (x : SS) ×' (SOk x ∧ x.fly = [] ∧ x.R.length = N ∧ (und x.R).length ≤ N - j ∧ (∀ k, alB x.R k = alB R k) ∧ x.last ≤ 40 * (j : Int) ∧ j ≤ N)) 5 (fun x => N - x.1)
      (fun x => [(3, .t (.c (.nm 2))), (5, .t (.c (.nm 3))), (14, .t (.c (.p 4 0))), (120, .t (.c (iT (N : Nat)))), (121, .t (.c (iT (x.1 : Nat))))])
      (fun x => [(2, some (true, .ab (dkP x.2.1 0 bk))), (3, some (true, .ab (sfB x.2.1.R x.2.1.fly 0 b bd bk))), (4, some (true, .cells [.s (T 0), .s (T 1), .s (T 2), .s (T 3), .s (T 4), .s (T 5), .s (T 6), .s (T 7)] 47))]) ⟨0, ⟨R, [], 0⟩, hok, rfl, by show R.length = N; omega, by have := List.length_filter_le (fun c : Ch => c.st != 0) R; show (und R).length ≤ N - 0; rw [und]; omega, fun k => rfl, by show (0 : Int) ≤ 40 * ((0 : Nat) : Int); omega, by omega⟩ [] (fun x => wf rfl rfl) (by repeat' (first | exact trivial | exact rfl | refine And.intro ?_ ?_)) (by repeat' (first | exact trivial | exact rfl | refine And.intro ?_ ?_)) rfl fun x => ?_
    obtain ⟨j, x, x1, x2, x3, x4, x5, x6, x7⟩ := x
    obtain ⟨xR, xf, xl⟩ := x
    simp only at x2 x3 x4 x5 x6
    subst x2
    have w4 : IntKind.i64.wrap ((j : Int) + 1) = ((j + 1 : Nat) : Int) := by rw [wrap_sm (by omega) (by omega)]; omega
    refine rn [] rfl (by repeat' (first | exact trivial | exact rfl | refine And.intro ?_ ?_)) ?_
    refine ⟨fun h1 => ?_, fun h1 => ?_⟩
    · have hjN : j < N := by have : (j : Int) < (N : Int) := of_decide_eq_true h1; omega
      clear h1
      have hwa := fun (H : HL) (nx : Nat) (h3 : lookH H 3 = some (true, .ab (sfB xR [] 0 b bd bk))) (h2 : lookH H 2 = some (true, .ab (dkP ⟨xR, [], xl⟩ 0 bk))) => softWriteAll (nx := nx) (R := xR) (fly := []) (last := xl) h3 h2 (by decide) x1 (by omega) (by omega) (.inl rfl)
      have hgo := fun hu : und xR ≠ [] => SOk.goes (x := ⟨xR, [], xl⟩) x1 rfl hu
      have z1 := SOk.wA (x := ⟨xR, [], xl⟩) x1 (secs (und xR))
      have z2 := wrA_len (secs (und xR)) ⟨xR, [], xl⟩
      have z3 := wrA_last (secs (und xR)) ⟨xR, [], xl⟩
      have z4 := wrA_und (secs (und xR)) (x := ⟨xR, [], xl⟩) x1
      have z5 := fun k => wrA_al k (secs (und xR)) ⟨xR, [], xl⟩
      have z6 := secs_le (x := ⟨xR, [], xl⟩)
      have z7 : woA ⟨xR, [], xl⟩ (secs (und xR)) = (wrA ⟨xR, [], xl⟩ (secs (und xR))).fly.map Prod.fst := by rw [woA]; rfl
      simp only at hgo z2 z3 z4 z5 z6
      rw [z7] at hwa
      generalize secs (und xR) = ks at *
      generalize wrA ⟨xR, [], xl⟩ ks = y1 at *
      have z8 : y1.fly.length ≤ 8 := SfOk.flen z1
      refine rn [(124, .spec ⟨.t (.c (.nm 5)), [(true, .own 3 1 (y1.fly.map Prod.fst).length (ivs (y1.fly.map Prod.fst)))], [(3, some (.ab (sfB y1.R y1.fly 0 b bd bk))), (2, some (.ab (dkP y1 0 bk)))], []⟩)] rfl (by (repeat' (first | exact trivial | exact rfl | exact trivial | exact fun _ => trivial | first | exact hwa _ _ rfl rfl | rfl | decide | refine And.intro ?_ ?_))) ?_
      refine At.loop (X := (k : Nat) ×' (y : SS) ×' (SOk y ∧ y.fly = y1.fly.drop k ∧ y.R.length = N ∧ (und y.R).length + k ≤ (und y1.R).length ∧ (∀ k, alB y.R k = alB R k) ∧ y.last = y1.last ∧ k ≤ y1.fly.length)) 6 (fun x => y1.fly.length - x.1)
        (fun y => [(3, .t (.c (.nm 2))), (5, .t (.c (.nm 3))), (14, .t (.c (.p 4 0))), (120, .t (.c (iT (N : Nat)))), (121, .t (.c (iT (j : Nat)))), (124, .t (.c (.nm 5))), (125, .t (.c (iT ((y1.fly.map Prod.fst).length : Nat)))), (126, .t (.c (iT (y.1 : Nat))))])
        (fun y => [(2, some (true, .ab (dkP y.2.1 0 bk))), (3, some (true, .ab (sfB y.2.1.R y.2.1.fly 0 b bd bk))), (4, some (true, .cells [.s (T 0), .s (T 1), .s (T 2), .s (T 3), .s (T 4), .s (T 5), .s (T 6), .s (T 7)] 47)), (5, some (true, .own 3 1 (y1.fly.map Prod.fst).length (ivs (y1.fly.map Prod.fst))))]) ⟨0, y1, z1, rfl, by omega, by omega, fun k => (z5 k).trans (x5 k), rfl, by omega⟩ [] (fun x => wf rfl rfl) (by repeat' (first | exact trivial | exact rfl | refine And.intro ?_ ?_)) (by repeat' (first | exact trivial | exact rfl | refine And.intro ?_ ?_)) rfl fun y => ?_
      obtain ⟨k, y, v1, v2, v3, v4, v5, v6, v7⟩ := y
      obtain ⟨yR, yf, yl⟩ := y
      simp only at v2 v3 v4 v5 v6
      have w5 : IntKind.i64.wrap ((k : Int) + 1) = ((k + 1 : Nat) : Int) := by rw [wrap_sm (by omega) (by omega)]; omega
      have hml : (y1.fly.map Prod.fst).length = y1.fly.length := List.length_map _
      refine rn [] rfl (by repeat' (first | exact trivial | exact rfl | refine And.intro ?_ ?_)) ?_
      refine ⟨fun h1 => ?_, fun h1 => ?_⟩
      · have hkl : k < y1.fly.length := by have : (k : Int) < ((y1.fly.map Prod.fst).length : Int) := of_decide_eq_true h1; omega
        clear h1
        have e1 : (ivs (y1.fly.map Prod.fst))[(k : Int).toNat * 1]? = some (.int .i64 y1.fly[k].1) := by
          have := ivs_at (l := y1.fly.map Prod.fst) (k := k) (by omega)
          simpa using this
        have d0 : (0 : Int) ≤ (k : Int) := by omega
        have d1 : (k : Int) < ((y1.fly.map Prod.fst).length : Int) := by omega
        have hcons : yf = (y1.fly[k].1, y1.fly[k].2) :: y1.fly.drop (k + 1) := by rw [v2]; exact List.drop_eq_getElem_cons hkl
        generalize y1.fly[k].1 = nn at *
        generalize y1.fly[k].2 = kk at *
        have hin : (nn, kk) ∈ (⟨yR, yf, yl⟩ : SS).fly := by show (nn, kk) ∈ yf; rw [hcons]; simp
        have hD := fun (H : HL) (nx : Nat) (h2 : lookH H 2 = some (true, .ab (dkP ⟨yR, yf, yl⟩ 0 bk))) => diskDone (nx := nx) h2 v1 hin (.inl rfl)
        have hE := fun (H : HL) (nx : Nat) (h3 : lookH H 3 = some (true, .ab (sfB yR yf 0 b bd bk))) => softDone (nx := nx) h3 (gget_of v1.key hin) ((v1.fl kk).1 (List.mem_map.2 ⟨_, hin, rfl⟩))
        have u1 := SOk.d1 v1 hin
        have u2 := dn1_und v1 hin
        have u3 := dn1_len ⟨yR, yf, yl⟩ nn kk
        have u4 := fun j => dn1_al ⟨yR, yf, yl⟩ nn kk j
        have u5 : (dn1 ⟨yR, yf, yl⟩ nn kk).fly = y1.fly.drop (k + 1) := by show gdel nn yf = _; rw [hcons, gdel_head]
        have u6 : (dn1 ⟨yR, yf, yl⟩ nn kk).last = y1.last := v6
        rw [show setK kk 0 yR = (dn1 ⟨yR, yf, yl⟩ nn kk).R from rfl, show gdel nn yf = (dn1 ⟨yR, yf, yl⟩ nn kk).fly from rfl] at hE
        simp only at u2 u3 u4
        generalize dn1 ⟨yR, yf, yl⟩ nn kk = y2 at *
        refine rn [(129, .ld [iT nn]), (133, .spec ⟨.tup [.c (.b true), .c (iT 0)], [], [(2, some (.ab (dkP y2 0 bk)))], []⟩), (140, .spec ⟨.tup [.c (iT kk), .c (iT 0)], [], [(3, some (.ab (sfB y2.R y2.fly 0 b bd bk)))], []⟩), (152, .dec false)] rfl
          (by (repeat' (first | exact trivial | exact rfl | exact trivial | exact fun _ => trivial | first | exact e1 | exact ⟨e1, trivial⟩ | exact d0 | exact d1 | exact hD _ _ rfl | exact hE _ _ rfl | rfl | decide | refine And.intro ?_ ?_))) ?_
        exact roundEnd ⟨k + 1, y2, u1, u5, by omega, by omega, fun k => (u4 k).trans (v5 k), u6, by omega⟩ [] (by show y1.fly.length - (k + 1) < y1.fly.length - k; omega) (by (repeat' (first | exact trivial | exact rfl | exact w5 | exact fun _ => w5 | refine And.intro ?_ ?_))) (by repeat' (first | exact trivial | exact rfl | refine And.intro ?_ ?_)) rfl
      · have hke : k = y1.fly.length := by have : ¬ (k : Int) < ((y1.fly.map Prod.fst).length : Int) := of_decide_eq_false h1; omega
        have hyf : yf = [] := by rw [v2, hke]; exact List.drop_length
        subst hyf
        have hfin : (und yR).length ≤ N - (j + 1) := by
          by_cases hu : und xR = []
          · have h0 : (und xR).length = 0 := by rw [hu]; rfl
            omega
          · have := List.length_pos_iff.2 (hgo hu)
            omega
        refine rn [] rfl (by repeat' (first | exact trivial | exact rfl | refine And.intro ?_ ?_)) (roundExit rfl ?_)
        refine rnA [] rfl (by repeat' (first | exact trivial | exact rfl | refine And.intro ?_ ?_)) ?_
        exact roundEnd ⟨j + 1, ⟨yR, [], yl⟩, v1, rfl, v3, hfin, v5, by show yl ≤ _; omega, by omega⟩ [] (by show N - (j + 1) < N - j; omega) (by (repeat' (first | exact trivial | exact rfl | exact w4 | exact fun _ => w4 | refine And.intro ?_ ?_))) (by repeat' (first | exact trivial | exact rfl | refine And.intro ?_ ?_)) rfl
    · have hjE : j = N := by have : ¬ (j : Int) < (N : Int) := of_decide_eq_false h1; omega
      have hu0 : und xR = [] := List.length_eq_zero_iff.1 (by omega)
      have hdT := hal0 xR x5 hu0
      have hrd := fun (k : Int) (hk : 0 ≤ k ∧ k < 8) (H : HL) (nx : Nat) (h2 : lookH H 2 = some (true, .ab (dkP ⟨xR, [], xl⟩ 0 bk))) => readA (nx := nx) h2 k
      refine rn [] rfl (by repeat' (first | exact trivial | exact rfl | refine And.intro ?_ ?_)) (roundExit rfl ?_)
      have hd0 : ∀ (H : HL) (nx : Nat) (h2 : lookH H 2 = some (true, .ab (dkP ⟨xR, [], xl⟩ 0 bk))), FnH Tryz.prog 16 [.c (.nm 2), .c (iT 0)] H nx ⟨.tup [.c (.s (T 0)), .c (iT 0)], [], [(2, some (.ab (dkP ⟨xR, [], xl⟩ 0 bk)))], []⟩ := fun H nx h2 => by
        have := hrd 0 (by omega) H nx h2
        simp only [rdT_of xR (k := 0) (by omega), rdE_of xR (k := 0) (by omega), hdT] at this
        exact this
      have hd1 : ∀ (H : HL) (nx : Nat) (h2 : lookH H 2 = some (true, .ab (dkP ⟨xR, [], xl⟩ 0 bk))), FnH Tryz.prog 16 [.c (.nm 2), .c (iT 1)] H nx ⟨.tup [.c (.s (T 1)), .c (iT 0)], [], [(2, some (.ab (dkP ⟨xR, [], xl⟩ 0 bk)))], []⟩ := fun H nx h2 => by
        have := hrd 1 (by omega) H nx h2
        simp only [rdT_of xR (k := 1) (by omega), rdE_of xR (k := 1) (by omega), hdT] at this
        exact this
      have hd2 : ∀ (H : HL) (nx : Nat) (h2 : lookH H 2 = some (true, .ab (dkP ⟨xR, [], xl⟩ 0 bk))), FnH Tryz.prog 16 [.c (.nm 2), .c (iT 2)] H nx ⟨.tup [.c (.s (T 2)), .c (iT 0)], [], [(2, some (.ab (dkP ⟨xR, [], xl⟩ 0 bk)))], []⟩ := fun H nx h2 => by
        have := hrd 2 (by omega) H nx h2
        simp only [rdT_of xR (k := 2) (by omega), rdE_of xR (k := 2) (by omega), hdT] at this
        exact this
      have hd3 : ∀ (H : HL) (nx : Nat) (h2 : lookH H 2 = some (true, .ab (dkP ⟨xR, [], xl⟩ 0 bk))), FnH Tryz.prog 16 [.c (.nm 2), .c (iT 3)] H nx ⟨.tup [.c (.s (T 3)), .c (iT 0)], [], [(2, some (.ab (dkP ⟨xR, [], xl⟩ 0 bk)))], []⟩ := fun H nx h2 => by
        have := hrd 3 (by omega) H nx h2
        simp only [rdT_of xR (k := 3) (by omega), rdE_of xR (k := 3) (by omega), hdT] at this
        exact this
      have hd4 : ∀ (H : HL) (nx : Nat) (h2 : lookH H 2 = some (true, .ab (dkP ⟨xR, [], xl⟩ 0 bk))), FnH Tryz.prog 16 [.c (.nm 2), .c (iT 4)] H nx ⟨.tup [.c (.s (T 4)), .c (iT 0)], [], [(2, some (.ab (dkP ⟨xR, [], xl⟩ 0 bk)))], []⟩ := fun H nx h2 => by
        have := hrd 4 (by omega) H nx h2
        simp only [rdT_of xR (k := 4) (by omega), rdE_of xR (k := 4) (by omega), hdT] at this
        exact this
      have hd5 : ∀ (H : HL) (nx : Nat) (h2 : lookH H 2 = some (true, .ab (dkP ⟨xR, [], xl⟩ 0 bk))), FnH Tryz.prog 16 [.c (.nm 2), .c (iT 5)] H nx ⟨.tup [.c (.s (T 5)), .c (iT 0)], [], [(2, some (.ab (dkP ⟨xR, [], xl⟩ 0 bk)))], []⟩ := fun H nx h2 => by
        have := hrd 5 (by omega) H nx h2
        simp only [rdT_of xR (k := 5) (by omega), rdE_of xR (k := 5) (by omega), hdT] at this
        exact this
      have hd6 : ∀ (H : HL) (nx : Nat) (h2 : lookH H 2 = some (true, .ab (dkP ⟨xR, [], xl⟩ 0 bk))), FnH Tryz.prog 16 [.c (.nm 2), .c (iT 6)] H nx ⟨.tup [.c (.s (T 6)), .c (iT 0)], [], [(2, some (.ab (dkP ⟨xR, [], xl⟩ 0 bk)))], []⟩ := fun H nx h2 => by
        have := hrd 6 (by omega) H nx h2
        simp only [rdT_of xR (k := 6) (by omega), rdE_of xR (k := 6) (by omega), hdT] at this
        exact this
      have hd7 : ∀ (H : HL) (nx : Nat) (h2 : lookH H 2 = some (true, .ab (dkP ⟨xR, [], xl⟩ 0 bk))), FnH Tryz.prog 16 [.c (.nm 2), .c (iT 7)] H nx ⟨.tup [.c (.s (T 7)), .c (iT 0)], [], [(2, some (.ab (dkP ⟨xR, [], xl⟩ 0 bk)))], []⟩ := fun H nx h2 => by
        have := hrd 7 (by omega) H nx h2
        simp only [rdT_of xR (k := 7) (by omega), rdE_of xR (k := 7) (by omega), hdT] at this
        exact this
      refine rnA [] rfl (by repeat' (first | exact trivial | exact rfl | refine And.intro ?_ ?_)) ?_
      refine At.unroll ?_
      refine rn [(156, .dec true), (161, .spec ⟨.tup [.c (.s (T 0)), .c (iT 0)], [], [(2, some (.ab (dkP ⟨xR, [], xl⟩ 0 bk)))], []⟩), (166, .dec false), (172, .dec false)] rfl (by (repeat' (first | exact trivial | exact rfl | exact trivial | exact fun _ => trivial | first | exact hd0 _ _ rfl | exact txt_no _ | rfl | decide | refine And.intro ?_ ?_))) (nextRound ?_)
      refine rn [(156, .dec true), (161, .spec ⟨.tup [.c (.s (T 1)), .c (iT 0)], [], [(2, some (.ab (dkP ⟨xR, [], xl⟩ 0 bk)))], []⟩), (166, .dec false), (172, .dec false)] rfl (by (repeat' (first | exact trivial | exact rfl | exact trivial | exact fun _ => trivial | first | exact hd1 _ _ rfl | exact txt_no _ | rfl | decide | refine And.intro ?_ ?_))) (nextRound ?_)
      refine rn [(156, .dec true), (161, .spec ⟨.tup [.c (.s (T 2)), .c (iT 0)], [], [(2, some (.ab (dkP ⟨xR, [], xl⟩ 0 bk)))], []⟩), (166, .dec false), (172, .dec false)] rfl (by (repeat' (first | exact trivial | exact rfl | exact trivial | exact fun _ => trivial | first | exact hd2 _ _ rfl | exact txt_no _ | rfl | decide | refine And.intro ?_ ?_))) (nextRound ?_)
      refine rn [(156, .dec true), (161, .spec ⟨.tup [.c (.s (T 3)), .c (iT 0)], [], [(2, some (.ab (dkP ⟨xR, [], xl⟩ 0 bk)))], []⟩), (166, .dec false), (172, .dec false)] rfl (by (repeat' (first | exact trivial | exact rfl | exact trivial | exact fun _ => trivial | first | exact hd3 _ _ rfl | exact txt_no _ | rfl | decide | refine And.intro ?_ ?_))) (nextRound ?_)
      refine rn [(156, .dec true), (161, .spec ⟨.tup [.c (.s (T 4)), .c (iT 0)], [], [(2, some (.ab (dkP ⟨xR, [], xl⟩ 0 bk)))], []⟩), (166, .dec false), (172, .dec false)] rfl (by (repeat' (first | exact trivial | exact rfl | exact trivial | exact fun _ => trivial | first | exact hd4 _ _ rfl | exact txt_no _ | rfl | decide | refine And.intro ?_ ?_))) (nextRound ?_)
      refine rn [(156, .dec true), (161, .spec ⟨.tup [.c (.s (T 5)), .c (iT 0)], [], [(2, some (.ab (dkP ⟨xR, [], xl⟩ 0 bk)))], []⟩), (166, .dec false), (172, .dec false)] rfl (by (repeat' (first | exact trivial | exact rfl | exact trivial | exact fun _ => trivial | first | exact hd5 _ _ rfl | exact txt_no _ | rfl | decide | refine And.intro ?_ ?_))) (nextRound ?_)
      refine rn [(156, .dec true), (161, .spec ⟨.tup [.c (.s (T 6)), .c (iT 0)], [], [(2, some (.ab (dkP ⟨xR, [], xl⟩ 0 bk)))], []⟩), (166, .dec false), (172, .dec false)] rfl (by (repeat' (first | exact trivial | exact rfl | exact trivial | exact fun _ => trivial | first | exact hd6 _ _ rfl | exact txt_no _ | rfl | decide | refine And.intro ?_ ?_))) (nextRound ?_)
      refine rn [(156, .dec true), (161, .spec ⟨.tup [.c (.s (T 7)), .c (iT 0)], [], [(2, some (.ab (dkP ⟨xR, [], xl⟩ 0 bk)))], []⟩), (166, .dec false), (172, .dec false)] rfl (by (repeat' (first | exact trivial | exact rfl | exact trivial | exact fun _ => trivial | first | exact hd7 _ _ rfl | exact txt_no _ | rfl | decide | refine And.intro ?_ ?_))) (nextRound ?_)
      refine rn [(156, .dec false)] rfl (by (repeat' (first | exact trivial | exact rfl | exact trivial | exact fun _ => trivial | decide | refine And.intro ?_ ?_))) (nextExit rfl ?_)
      refine rnA [(20047, .dec true)] rfl (by repeat' (first | exact trivial | exact rfl | refine And.intro ?_ ?_)) ?_
      refine At.num b ?_
      refine At.num bd ?_
      refine At.alias 5 3 5 rfl (sfB_pins _ _ _ _ _ _) rfl rfl ?_
      have hL := fun (H : HL) (nx : Nat) (h3 : lookH H 3 = some (true, .ab (sfB xR [] 0 b bd bk))) (h6 : lookH H 6 = some (false, .pin 6 bd)) => leftS (nx := nx) h3 h6 (by decide)
      rw [hu0] at hL
      have hU := fun (H : HL) (nx : Nat) (h3 : lookH H 3 = some (true, .ab (sfB xR [] 0 b bd bk))) (h5 : lookH H 5 = some (false, .pin 5 b)) => fnh_al1 h3 (sfB_pins _ _ _ _ _ _) h5 (softUnder (nx := nx) h3 (by simp) (by simp))
      refine rn [(177, .spec ⟨.t (.c (.p 6 0)), [], [], []⟩), (178, .spec ⟨.t (.c (iT 0)), [], [], []⟩), (180, .dec true), (182, .spec ⟨.t (.c (.nm 7)), [(true, .own 3 1 0 (ivs []))], [(3, some (.ab (sfB xR [] 0 b bd bk)))], []⟩)] rfl
        (by (repeat' (first | exact trivial | exact rfl | exact trivial | exact fun _ => trivial | first | exact spec_rdS (r := 3) (q := 5) (m := 6) rfl rfl rfl (fun _ => rfl) rfl rfl rfl rfl | exact hL _ _ rfl rfl | exact hU _ _ rfl rfl | rfl | decide | refine And.intro ?_ ?_))) ?_
      exact ret0 tysOk rfl (by repeat' (first | exact trivial | exact rfl | refine And.intro ?_ ?_)) rfl
end Cw
namespace Cw
open Go Vc
open Go.Proofs
set_option maxRecDepth 100000
theorem rdsS_lt {w : World} {A : Option Addr} {n c s : Nat} {xs : List Value} (h : Vc.Rds w A n c s xs) (a : Addr) (ha : A = some a) (h0 : 0 < xs.length) : a.block < w.heap.size := by
  obtain ⟨_, _, _, _, h5⟩ := h
  obtain ⟨a', h6, h7⟩ := h5 0 xs[0] (by simp [h0])
  rw [ha] at h6
  cases h6
  have hb : (a.add 0).block = a.block := addr_blk a 0
  rcases Nat.lt_or_ge a.block w.heap.size with h | h
  · exact h
  · exfalso
    unfold World.cell? at h7
    rw [hb, Array.getElem?_eq_none h] at h7
    cases h7
theorem memS1 {w : World} {A1 : Option Addr} {n1 c1 s1 : Nat} {xs1 : List Value} {Wl : List (List Int × Option Addr × Nat)} (h1 : Vc.Rds w A1 n1 c1 s1 xs1) (hf : ∀ y ∈ Wl, Vc.Rds w y.2.1 y.1.length y.2.2 1 (ivs y.1)) :
    ∃ e : Env, MemOk [(0, some (false, .rd s1 n1 xs1)), (1, some (false, .ab (frzP Wl)))] e w ∧ e.val 0 = .slice A1 n1 c1 := by
  refine ⟨⟨fun _ => 0, fun q => .slice A1 n1 c1, fun q g => if q = 0 then ∃ a, A1 = some a ∧ 0 < xs1.length ∧ g = a.block else ∃ y ∈ Wl, ∃ p, y.2.1 = some p ∧ 0 < y.1.length ∧ g = p.block, fun q => rfl⟩, ⟨fun m b o hm' => ?_, fun m o k c' q hm' hk => ?_⟩, rfl⟩
  · rw [lookH_cons] at hm'
    split at hm'
    · rename_i h0
      cases hm'
      subst h0
      exact ⟨⟨A1, c1, rfl, h1, fun a ha h0 => ⟨a, ha, h0, rfl⟩⟩, fun g ⟨a, ha, h0, hg⟩ => hg ▸ rdsS_lt h1 a ha h0⟩
    · rw [lookH_cons] at hm'
      split at hm'
      · rename_i h0
        cases hm'
        subst h0
        exact ⟨⟨fun y hy => ⟨hf y hy, fun p hp h0 => ⟨y, hy, p, hp, h0, rfl⟩⟩, frzP_stable Wl⟩, fun g ⟨y, hy, p, hp, h0, hg⟩ => hg ▸ rdsS_lt (hf y hy) p hp (by rw [ivs_length]; exact h0)⟩
      · cases hm'
  · rw [lookH_cons] at hm'
    split at hm'
    · cases hm'
    · rw [lookH_cons] at hm'
      split at hm'
      · cases hm'
      · cases hm'
theorem softDrains_true (ls : List SC) (A1 : Option Addr) (c1 : Nat) (w : World) (zl : ls.length ≤ 100000000000000) (zb : ∀ a ∈ ls, a.back.length ≤ 17592186043904) (hb : ∀ a ∈ ls, Vc.Rds w a.A a.back.length a.m 1 (ivs a.back)) (h1 : Vc.Rds w A1 ls.length c1 4 (scells ls)) :
    Calls Tryz.prog 4 #[.slice A1 ls.length c1] w fun e w' => e = .returned (.bool true) ∧ RowKit.Below w.heap.size w w' := by
  obtain ⟨e, M, v0⟩ := memS1 (Wl := ls.map SC.w) h1 fun y hy => by
    obtain ⟨a, ha, rfl⟩ := List.mem_map.1 hy
    exact hb a ha
  have := fnh_law (softDrains_h ls zl zb) rfl rfl M
  rw [show ([.c (.nm 0)] : List TV).map (TV.den e) = [e.val 0] from rfl, v0] at this
  exact this
end Cw
