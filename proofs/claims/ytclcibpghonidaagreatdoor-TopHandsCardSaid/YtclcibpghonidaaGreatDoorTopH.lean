/- What the statement TopHands needs besides. -/
import Derived.Test.YtclcibpghonidaaGreatDoorTop
namespace Cw
open Go Vc
open Go.Proofs
set_option maxRecDepth 100000
section
variable {H : HL} {nx : Nat} {a bb c : Int}
set_option maxRecDepth 100000 in
set_option maxHeartbeats 8000000 in
/-- A disk is laid, and a side begins: the disk itself, and a pointer to the side. -/
theorem laidB_h (hg : Gok a bb c) :
    FnH Tryz.prog 12 [geoT a bb c] H nx ⟨.tup [.c (.nm nx), .c (.nm (nx + 1))], [(true, .ab (exP (dP (fmtL a bb c) [] 0))), (true, .ab ptrX)], [], []⟩ := by
  obtain ⟨hn, hs, h2, h132, hz, h403, hme, hmp, hie, his⟩ := fgeo hg
  refine fnM (fn := Tryz.f12) 34 rfl rfl rfl (args' := [geoT a bb c]) (H' := []) (nx' := 0) [] (fun e w M => ⟨e, ⟨fun n b o h => (by cases h), fun n o m c q h => (by cases h)⟩, rfl⟩) rfl rfl rfl (fun e w M u hu => by cases hu) (fun u hu => by cases hu) (by simp) (v' := .tup [.c (.nm 0), .c (.nm 1)]) (news' := [(true, .ab (exP (dP (fmtL a bb c) [] 0))), (true, .ab ptrX)]) rfl rfl rfl rfl rfl fun w Wh => ?_
  have hsz := gsize0 a bb c
  rw [hs] at hsz
  have hnew := fun (H : HL) (nx : Nat) => newA (H := H) (nx := nx) (n := fZ a bb c) (by omega) (by omega)
  refine rn [(9, .ret (.t (.c (iT (fZ a bb c : Nat))))), (10, .spec ⟨.tup [.c (.nm 1), .c (iT 0)], [(true, .ab (exP (dP (S0 (fZ a bb c)) [] 0)))], [], []⟩), (20002, .dec true)] rfl (by (repeat' (first | exact trivial | exact rfl | exact trivial | exact fun _ => trivial | first | exact hsz | exact hnew _ _ | rfl | decide | refine And.intro ?_ ?_))) ?_
  refine At.ex (φ := dP (S0 (fZ a bb c)) [] 0) 1 rfl (fun _ => absP_stable _ _) fun bk => ?_
  have hlay := fun (H : HL) (nx : Nat) (h1 : lookH H 1 = some (true, .ab (dP (S0 (fZ a bb c)) [] 0 bk))) => alay_h (nx := nx) h1 hg (S0_len _)
  have hso := fun (H : HL) (nx : Nat) (h1 : lookH H 1 = some (true, .ab (dP (fmtL a bb c) [] 0 bk))) => softNewG (nx := nx) (node := 0) h1 (.inl rfl)
  refine rn [(14, .spec ⟨.t (.c (.b false)), [], [], []⟩), (15, .dec false), (19, .dec false), (22, .spec ⟨.t (.c (iT 0)), [], [(1, some (.ab (dP (fmtL a bb c) [] 0 bk)))], []⟩), (24, .dec false), (27, .spec ⟨.tup [.c (.nm 2), .c (iT 0)], [(true, .ab (sfX 0 bk))], [(1, some (.ab (dP (fmtL a bb c) [] 0 bk)))], []⟩)] rfl (by (repeat' (first | exact trivial | exact rfl | exact trivial | exact fun _ => trivial | first | exact nilDq2 rfl rfl rfl rfl | exact hlay _ _ rfl | exact hso _ _ rfl | rfl | decide | refine And.intro ?_ ?_))) ?_
  refine ⟨fun h => absurd h (by decide), fun _ => ?_⟩
  refine At.ex (φ := fun p : Nat × Nat => sfB [] [] 0 p.1 p.2 bk) 2 rfl (fun _ => sfB_st _ _ _ _ _ _) fun p => ?_
  obtain ⟨b, bd⟩ := p
  refine rn [] rfl (by repeat' (first | exact trivial | exact rfl | refine And.intro ?_ ?_)) ?_
  refine Done.newE (ptrP b) (ptr b) (ptrP_st b) rfl (fun w => rfl) ?_
  refine Done.same2 3 2 3 rfl (sfB_pins _ _ _ _ _ _) rfl (ptrP_pins b) rfl ?_
  refine Done.weak 1 (φ' := exP (dP (fmtL a bb c) [] 0)) rfl (exP_stable fun _ => absP_stable _ _) (fun v F w h => ⟨bk, h⟩) ?_
  refine Done.weak 3 (φ' := ptrX) rfl ptrX_st (fun v F w h => ⟨b, h⟩) ?_
  exact retM tysOk [(0, 1), (1, 3)] rfl (by repeat' (first | exact trivial | exact rfl | refine And.intro ?_ ?_)) (by repeat' (first | exact trivial | exact rfl | refine And.intro ?_ ?_)) rfl rfl
end
end Cw
namespace Cw
open Go Vc
open Go.Proofs
set_option maxRecDepth 100000
structure HAct where
  kind : Int
  node : Int
  reg : Int
def hac (a : HAct) : List Value := [.int .i64 a.kind, .int .i64 a.node, .int .i64 a.reg]
def hacells (l : List HAct) : List Value := fcs hac l
theorem hacells_len (l : List HAct) : (hacells l).length = l.length * 3 := fcs_length (f := hac) (c := 3) (fun _ => rfl) l
theorem hacells_rd {l : List HAct} {i : Nat} (h : i < l.length) (j : Nat) (u : Value) (hu : (hac l[i])[j]? = some u) : (hacells l)[(i : Int).toNat * 3 + j]? = some u :=
  fcs_at (f := hac) (c := 3) (fun _ => rfl) h hu
theorem emodH (x : Int) {n : Nat} (h : 0 < n) : ∃ a : Nat, a < n ∧ x % (n : Int) = (a : Int) := by
  have h1 := Int.emod_nonneg x (show (n : Int) ≠ 0 by omega)
  have h2 := Int.emod_lt_of_pos x (show (0 : Int) < (n : Int) by omega)
  exact ⟨(x % (n : Int)).toNat, by omega, by omega⟩
/-- The hands, and how often each was turned, as rows. -/
def h1s (L : List Ls) : List Value := ivs (L.map (·.1))
def h2s (L : List Ls) : List Value := ivs (L.map (·.2))
theorem h1s_len (L : List Ls) : (h1s L).length = L.length := by simp [h1s, ivs_length]
theorem h2s_len (L : List Ls) : (h2s L).length = L.length := by simp [h2s, ivs_length]
theorem h1s_at {L : List Ls} {r : Nat} (h : r < L.length) : (h1s L)[0 + (r : Int).toNat * 1]? = some (.int .i64 L[r].1) := by
  have := ivs_at (l := L.map (·.1)) (k := r) (by simpa using h)
  simpa [h1s] using this
theorem h2s_at {L : List Ls} {r : Nat} (h : r < L.length) : (h2s L)[0 + (r : Int).toNat * 1]? = some (.int .i64 L[r].2) := by
  have := ivs_at (l := L.map (·.2)) (k := r) (by simpa using h)
  simpa [h2s] using this
theorem h1s_set {L : List Ls} {r : Nat} (h : r < L.length) (x : Ls) : Vc.setAt (h1s L) (0 + (r : Int).toNat * 1) [Value.int .i64 x.1] = h1s (L.set r x) := by
  rw [show 0 + (r : Int).toNat * 1 = r by omega, Vc.setAt, h1s, h1s, ivs, ivs, List.map_map, List.map_map, List.map_set, List.set_eq_take_append_cons_drop, if_pos (by simpa using h)]
  simp
theorem h2s_set {L : List Ls} {r : Nat} (h : r < L.length) (x : Ls) : Vc.setAt (h2s L) (0 + (r : Int).toNat * 1) [Value.int .i64 x.2] = h2s (L.set r x) := by
  rw [show 0 + (r : Int).toNat * 1 = r by omega, Vc.setAt, h2s, h2s, ivs, ivs, List.map_map, List.map_map, List.map_set, List.set_eq_take_append_cons_drop, if_pos (by simpa using h)]
  simp
/-- What is turned of the first k. -/
def szF (n : Int) (x : Ls) : Ls := if x.1 = 2 - n then (n + 1, x.2 + 1) else x
def szK (L : List Ls) (n : Int) (k : Nat) : List Ls := (L.take k).map (szF n) ++ L.drop k
theorem szK_len (L : List Ls) (n : Int) (k : Nat) : (szK L n k).length = L.length := by simp [szK]; omega
theorem szK_at {L : List Ls} {n : Int} {k : Nat} (h : k < L.length) : (szK L n k)[k]'(by rw [szK_len]; exact h) = L[k] := by
  simp only [szK]
  rw [List.getElem_append_right (by simp; omega)]
  simp [Nat.min_eq_left (Nat.le_of_lt h)]
theorem szK_next {L : List Ls} {n : Int} {k : Nat} (h : k < L.length) : szK L n (k + 1) = (szK L n k).set k (szF n L[k]) := by
  have hl : ((L.take k).map (szF n)).length = k := by simp; omega
  rw [szK, szK, List.take_succ_eq_append_getElem h, List.map_append, List.append_assoc, List.set_append_right _ _ (by omega), hl, Nat.sub_self, List.drop_eq_getElem_cons h]
  rfl
theorem szK_all (L : List Ls) (n : Int) : szK L n L.length = szL L n := by simp [szK, szL, szF]
theorem szK_zero (L : List Ls) (n : Int) : szK L n 0 = L := by simp [szK]
theorem g292 : Gok 2 9 2 := by decide
theorem nilDX {H : HL} {nx d : Nat} {S : List ByteArray} {Y : List (Int × Wr)} {last : Int} {b1 : Bool} {b : Nat} (hd : lookH H d = some (b1, .ab (dP S Y last b))) {Lc : LL} {o : Oper} {x y : Operand} (hop : o.op = .binOp .eql 42 x y 42) (hx : ev Lc x = some (.c (.nm d))) (hy : ev Lc y = some (.c .np)) : Spec Tryz.prog Lc H nx o ⟨.t (.c (.b false)), [], [], []⟩ := nilDq2 hd hop hx hy
theorem nilSX {H : HL} {nx d : Nat} {b1 : Bool} (hd : lookH H d = some (b1, .ab ptrX)) {Lc : LL} {o : Oper} {x y : Operand} (hop : o.op = .binOp .eql 43 x y 43) (hx : ev Lc x = some (.c (.nm d))) (hy : ev Lc y = some (.c .np)) : Spec Tryz.prog Lc H nx o ⟨.t (.c (.b false)), [], [], []⟩ :=
  spec_nil tysOk hop hx hy rfl rfl hd ptrX_nn
set_option maxRecDepth 100000 in
set_option maxHeartbeats 32000000 in
theorem topHands_h (acts : List HAct) (zl : acts.length ≤ 100000000000000) :
    FnH Tryz.prog 4 [.c (.nm 0)] [(0, some (false, .rd 3 acts.length (hacells acts)))] 1 ⟨.t (.c (.b true)), [], [], []⟩ := by
  refine fnR (fn := Tryz.f4) 206 rfl rfl rfl (args' := [.c (.nm 0)]) (H' := [(0, some (false, .rd 3 acts.length (hacells acts)))]) (nx' := 1) (fun e w M => ⟨_, mem_rd (fun n => n) (H' := [(0, some (false, .rd 3 acts.length (hacells acts)))]) ⟨⟨false, rfl⟩, trivial⟩ M, rfl⟩) rfl rfl rfl rfl fun w => ?_
  have hla := fun (H : HL) (nx : Nat) => laidB_h (H := H) (nx := nx) g292
  refine rn [(26, .spec ⟨.tup [.c (.nm 2), .c (.nm 3)], [(true, .ab (exP (dP (fmtL 2 9 2) [] 0))), (true, .ab ptrX)], [], []⟩), (20003, .dec true)] rfl (by (repeat' (first | exact trivial | exact rfl | exact trivial | exact fun _ => trivial | first | exact hla _ _ | rfl | decide | refine And.intro ?_ ?_))) ?_
  refine At.ex (φ := dP (fmtL 2 9 2) [] 0) 2 rfl (fun _ => absP_stable _ _) fun b => ?_
  refine rn [(30, .spec ⟨.t (.c (.b false)), [], [], []⟩), (31, .dec false), (33, .spec ⟨.t (.c (.b false)), [], [], []⟩), (35, .dec false), (36, .spec ⟨.t (.c (.b true)), [], [], []⟩)] rfl (by (repeat' (first | exact trivial | exact rfl | exact trivial | exact fun _ => trivial | first | exact nilDX rfl rfl rfl rfl | exact nilSX rfl rfl rfl rfl | exact begins_h | rfl | decide | refine And.intro ?_ ?_))) ?_
  refine ⟨fun h => absurd h (by decide), fun _ => ?_⟩
  refine rn [] rfl (by repeat' (first | exact trivial | exact rfl | refine And.intro ?_ ?_)) ?_
  have hI0 := fmt_tb g292
  rw [show fN 2 9 2 = 20 from by decide, show fZ 2 9 2 = 30 from by decide] at hI0
  generalize fmtL 2 9 2 = S0' at *
  refine At.loop (X := (i : Nat) ×' (S : List ByteArray) ×' (L : List Ls) ×' (TbI S 2 9 2 L 0 0 30 ∧ L.length = 20 ∧ (∀ x ∈ L, x.2 ≤ (i : Int)) ∧ i ≤ 60 ∧ i ≤ acts.length)) 6 (fun x => acts.length - x.1)
    (fun x => [(0, .t (.c (.nm 0))), (3, .t (.c (.p 1 0))), (4, .t (.c (.nm 2))), (6, .t (.c (.p 4 0))), (7, .t (.c (.p 5 0))), (8, .t (.c (iT (x.1 : Nat))))])
    (fun x => [(0, some (false, .rd 3 acts.length (hacells acts))), (1, some (true, .cells [iT 2, iT 9, iT 2] 41)), (2, some (true, .ab (dP x.2.1 [] 0 b))), (4, some (true, .row (h1s x.2.2.1) 46)), (5, some (true, .row (h2s x.2.2.1) 46))]) ⟨0, S0', List.replicate 20 (0, 0), hI0, rfl, fun x hx => by rw [List.eq_of_mem_replicate hx]; decide, by omega, by omega⟩ [] (fun x => wf rfl rfl) (by repeat' (first | exact trivial | exact rfl | refine And.intro ?_ ?_)) (by repeat' (first | exact trivial | exact rfl | refine And.intro ?_ ?_)) rfl fun x => ?_
  obtain ⟨i, S, L, hI, hl20, hB, hi60, hil⟩ := x
  have w3 : IntKind.i64.wrap ((i : Int) + 1) = ((i + 1 : Nat) : Int) := by rw [wrap_sm (by omega) (by omega)]; omega
  refine rn [] rfl (by repeat' (first | exact trivial | exact rfl | refine And.intro ?_ ?_)) ?_
  refine ⟨fun h => ?_, fun h => ?_⟩
  · have hlt : i < acts.length := by have : (i : Int) < (acts.length : Int) := of_decide_eq_true (Bool.and_eq_true_iff.1 h).1; omega
    have h60 : i < 60 := by have : (i : Int) < 60 := of_decide_eq_true (Bool.and_eq_true_iff.1 h).2; omega
    clear h
    have r0 := hacells_rd hlt 0 _ rfl
    have r1 := hacells_rd hlt 1 _ rfl
    have r2 := hacells_rd hlt 2 _ rfl
    have b0 : (0 : Int) ≤ (i : Int) := by omega
    have b1 : (i : Int) < (acts.length : Int) := by omega
    have c3 : (i : Int).toNat * 3 < (hacells acts).length := by rw [hacells_len]; omega
    generalize acts[i] = act at *
    have am2 := among0 act.node 2 (by decide) (by decide)
    have am20 := among0 act.reg 20 (by decide) (by decide)
    have am3 := among0 act.kind 3 (by decide) (by decide)
    obtain ⟨n, hn2, hne⟩ := emodH act.node (n := 2) (by decide)
    obtain ⟨r, hr, hre⟩ := emodH act.reg (n := 20) (by decide)
    obtain ⟨kd, hkd, hke⟩ := emodH act.kind (n := 3) (by decide)
    rw [show ((2 : Nat) : Int) = 2 from rfl] at hne
    rw [show ((20 : Nat) : Int) = 20 from rfl] at hre
    rw [show ((3 : Nat) : Int) = 3 from rfl] at hke
    rw [hne] at am2
    rw [hre] at am20
    rw [hke] at am3
    have hr20 : r < L.length := by omega
    have hnn : (n : Int) = 0 ∨ (n : Int) = 1 := by omega
    have hfc : fnc 0 0 (n : Nat) = 0 := by unfold fnc; split <;> rfl
    have d0 : (0 : Int) ≤ (r : Int) := by omega
    have d1 : (r : Int) < 20 := by omega
    have k1 := h1s_at hr20
    have k2 := h2s_at hr20
    have l1 : 0 + (r : Int).toNat * 1 + 1 ≤ (h1s L).length := by rw [h1s_len]; omega
    have l2 : 0 + (r : Int).toNat * 1 + 1 ≤ (h2s L).length := by rw [h2s_len]; omega
    have wn : IntKind.i64.wrap ((n : Int) + 1) = (n : Int) + 1 := wrap_sm (by omega) (by omega)
    have wm : IntKind.i64.wrap (2 - (n : Int)) = 2 - (n : Int) := wrap_sm (by omega) (by omega)
    have hbr := hB _ (List.getElem_mem hr20)
    have htk := tok_iff (List.all_eq_true.1 hI.tk _ (List.getElem_mem hr20))
    have wo : IntKind.i64.wrap (L[r].2 + 1) = L[r].2 + 1 := wrap_sm (by omega) (by omega)
    have hBn : ∀ {L' : List Ls} {ou : Bool}, Stp L L' ou (i : Int) → ∀ x ∈ L', x.2 ≤ ((i + 1 : Nat) : Int) := fun hs x hx => by have := hs.bd x hx; omega
    rcases kd with _ | _ | _ | kd
    · -- claimed
      obtain ⟨L', t1, t2, _, t4⟩ := hI.claim (node := (n : Nat)) (ep := 0) hnn (by omega) hr20 hB (by omega)
      obtain ⟨t5, t6⟩ := t4 (by rw [hfc]; omega)
      have hcl := fun (H : HL) (nx : Nat) (h2 : lookH H 2 = some (true, .ab (dP S [] 0 b))) => claim_h (nx := nx) (a := 2) (bb := 9) (c := 2) h2 hI.ok (n : Nat) 0 (r : Nat)
      generalize clE S 2 9 2 (n : Nat) 0 (r : Nat) = e at *
      generalize clS S 2 9 2 (n : Nat) 0 (r : Nat) = S' at *
      by_cases ha : L[r].1 = 0
      · have he : e = 0 := t5.2 (.inl ha)
        subst he
        rw [if_pos ha] at t6
        rw [ha] at k1
        have s1 : Vc.setAt (h1s L) (0 + (r : Int).toNat * 1) [Value.int .i64 (IntKind.i64.wrap ((n : Int) + 1))] = h1s L' := by rw [wn, t6]; exact h1s_set hr20 ((n : Int) + 1, L[r].2 + 1)
        have s2 : Vc.setAt (h2s L) (0 + (r : Int).toNat * 1) [Value.int .i64 (IntKind.i64.wrap (L[r].2 + 1))] = h2s L' := by rw [wo, t6]; exact h2s_set hr20 ((n : Int) + 1, L[r].2 + 1)
        refine rn [(53, .ld [iT act.node]), (54, .ret (.t (.c (iT (n : Nat))))), (59, .ld [iT act.reg]), (60, .ret (.t (.c (iT (r : Nat))))), (65, .ld [iT act.kind]), (66, .ret (.t (.c (iT ((0 : Nat) : Int))))), (95, .dec true), (101, .spec ⟨.t (.c (iT 0)), [], [(2, some (.ab (dP S' [] 0 b)))], []⟩), (106, .ld [iT 0]), (108, .dec true), (116, .dec false), (119, .ld [iT 0]), (120, .dec true), (127, .ld [iT L[r].2])] rfl (by (repeat' (first | exact trivial | exact rfl | exact trivial | exact fun _ => trivial | first | exact r0 | exact r1 | exact r2 | exact ⟨r0, trivial⟩ | exact ⟨r1, trivial⟩ | exact ⟨r2, trivial⟩ | exact b0 | exact b1 | exact c3 | exact am2 | exact am3 | exact am20 | exact hcl _ _ rfl | exact k1 | exact k2 | exact ⟨k1, trivial⟩ | exact ⟨k2, trivial⟩ | exact d0 | exact d1 | exact l1 | exact l2 | rfl | decide | refine And.intro ?_ ?_))) ?_
        exact roundEnd ⟨i + 1, S', L', t1, by rw [t2.len]; exact hl20, hBn t2, by omega, by omega⟩ [] (by show acts.length - (i + 1) < acts.length - i; omega) (by (repeat' (first | exact trivial | exact rfl | exact w3 | exact fun _ => w3 | refine And.intro ?_ ?_))) (by (repeat' (first | exact trivial | exact rfl | exact trivial | exact fun _ => trivial | first | exact s1 | exact s2 | refine And.intro ?_ ?_))) rfl
      · rw [if_neg ha] at t6
        subst t6
        have g1 : (L'[r].1 == 0) = false := by simpa using ha
        by_cases hc : L'[r].1 = (n : Int) + 1
        · have he : e = 0 := t5.2 (.inr hc)
          subst he
          have g2 : (L'[r].1 == IntKind.i64.wrap ((n : Int) + 1)) = true := by rw [wn, hc]; simp
          have g3 : polB false (true == (L'[r].1 == IntKind.i64.wrap ((n : Int) + 1))) = false := by rw [g2]; rfl
          refine rn [(53, .ld [iT act.node]), (54, .ret (.t (.c (iT (n : Nat))))), (59, .ld [iT act.reg]), (60, .ret (.t (.c (iT (r : Nat))))), (65, .ld [iT act.kind]), (66, .ret (.t (.c (iT ((0 : Nat) : Int))))), (95, .dec true), (101, .spec ⟨.t (.c (iT 0)), [], [(2, some (.ab (dP S' [] 0 b)))], []⟩), (106, .ld [iT L'[r].1]), (108, .dec false), (111, .ld [iT L'[r].1]), (116, .dec false), (119, .ld [iT L'[r].1]), (120, .dec false)] rfl (by (repeat' (first | exact trivial | exact rfl | exact trivial | exact fun _ => trivial | first | exact r0 | exact r1 | exact r2 | exact ⟨r0, trivial⟩ | exact ⟨r1, trivial⟩ | exact ⟨r2, trivial⟩ | exact b0 | exact b1 | exact c3 | exact am2 | exact am3 | exact am20 | exact hcl _ _ rfl | exact k1 | exact k2 | exact ⟨k1, trivial⟩ | exact ⟨k2, trivial⟩ | exact d0 | exact d1 | exact l1 | exact l2 | exact g1 | exact g3 | rfl | decide | refine And.intro ?_ ?_))) ?_
          exact roundEnd ⟨i + 1, S', L', t1, hl20, hBn t2, by omega, by omega⟩ [] (by show acts.length - (i + 1) < acts.length - i; omega) (by (repeat' (first | exact trivial | exact rfl | exact w3 | exact fun _ => w3 | refine And.intro ?_ ?_))) (by repeat' (first | exact trivial | exact rfl | refine And.intro ?_ ?_)) rfl
        · have he : e ≠ 0 := fun h => by rcases t5.1 h with h | h; exact ha h; exact hc h
          have ge : (e == 0) = false := by simpa using he
          have g2 : (L'[r].1 == IntKind.i64.wrap ((n : Int) + 1)) = false := by rw [wn]; simpa using hc
          have g3 : polB false ((e == 0) == (L'[r].1 == IntKind.i64.wrap ((n : Int) + 1))) = false := by rw [g2, ge]; rfl
          refine rn [(53, .ld [iT act.node]), (54, .ret (.t (.c (iT (n : Nat))))), (59, .ld [iT act.reg]), (60, .ret (.t (.c (iT (r : Nat))))), (65, .ld [iT act.kind]), (66, .ret (.t (.c (iT ((0 : Nat) : Int))))), (95, .dec true), (101, .spec ⟨.t (.c (iT e)), [], [(2, some (.ab (dP S' [] 0 b)))], []⟩), (106, .ld [iT L'[r].1]), (108, .dec false), (111, .ld [iT L'[r].1]), (116, .dec false), (119, .ld [iT L'[r].1]), (120, .dec false)] rfl (by (repeat' (first | exact trivial | exact rfl | exact trivial | exact fun _ => trivial | first | exact r0 | exact r1 | exact r2 | exact ⟨r0, trivial⟩ | exact ⟨r1, trivial⟩ | exact ⟨r2, trivial⟩ | exact b0 | exact b1 | exact c3 | exact am2 | exact am3 | exact am20 | exact hcl _ _ rfl | exact k1 | exact k2 | exact ⟨k1, trivial⟩ | exact ⟨k2, trivial⟩ | exact d0 | exact d1 | exact l1 | exact l2 | exact g1 | exact g3 | rfl | decide | refine And.intro ?_ ?_))) ?_
          exact roundEnd ⟨i + 1, S', L', t1, hl20, hBn t2, by omega, by omega⟩ [] (by show acts.length - (i + 1) < acts.length - i; omega) (by (repeat' (first | exact trivial | exact rfl | exact w3 | exact fun _ => w3 | refine And.intro ?_ ?_))) (by repeat' (first | exact trivial | exact rfl | refine And.intro ?_ ?_)) rfl
    · -- passed
      obtain ⟨L', t1, t2, t4⟩ := hI.away (node := (n : Nat)) (ep := 0) (o := 2 - (n : Int)) hnn (by omega) (by omega) hr20 hB (by omega)
      obtain ⟨t5, t6⟩ := t4 (by rw [hfc]; omega)
      have hcl := fun (H : HL) (nx : Nat) (h2 : lookH H 2 = some (true, .ab (dP S [] 0 b))) => pass_h (nx := nx) (a := 2) (bb := 9) (c := 2) h2 hI.ok (n : Nat) 0 (r : Nat)
      rw [oth_ok (node := (n : Nat)) (by omega)] at hcl
      generalize awE S 2 9 2 (n : Nat) 0 (r : Nat) (2 - (n : Int)) = e at *
      generalize awS S 2 9 2 (n : Nat) 0 (r : Nat) (2 - (n : Int)) = S' at *
      by_cases hc : L[r].1 = (n : Int) + 1
      · have he : e = 0 := t5.2 hc
        subst he
        rw [if_pos hc] at t6
        have g2 : (L[r].1 == IntKind.i64.wrap ((n : Int) + 1)) = true := by rw [wn, hc]; simp
        have g3 : polB false (true == (L[r].1 == IntKind.i64.wrap ((n : Int) + 1))) = false := by rw [g2]; rfl
        have s1 : Vc.setAt (h1s L) (0 + (r : Int).toNat * 1) [Value.int .i64 (IntKind.i64.wrap (2 - (n : Int)))] = h1s L' := by rw [wm, t6]; exact h1s_set hr20 (2 - (n : Int), L[r].2 + 1)
        have s2 : Vc.setAt (h2s L) (0 + (r : Int).toNat * 1) [Value.int .i64 (IntKind.i64.wrap (L[r].2 + 1))] = h2s L' := by rw [wo, t6]; exact h2s_set hr20 (2 - (n : Int), L[r].2 + 1)
        refine rn [(53, .ld [iT act.node]), (54, .ret (.t (.c (iT (n : Nat))))), (59, .ld [iT act.reg]), (60, .ret (.t (.c (iT (r : Nat))))), (65, .ld [iT act.kind]), (66, .ret (.t (.c (iT ((1 : Nat) : Int))))), (95, .dec false), (130, .dec true), (136, .spec ⟨.t (.c (iT 0)), [], [(2, some (.ab (dP S' [] 0 b)))], []⟩), (141, .ld [iT L[r].1]), (145, .dec false), (147, .dec true), (154, .ld [iT L[r].2])] rfl (by (repeat' (first | exact trivial | exact rfl | exact trivial | exact fun _ => trivial | first | exact r0 | exact r1 | exact r2 | exact ⟨r0, trivial⟩ | exact ⟨r1, trivial⟩ | exact ⟨r2, trivial⟩ | exact b0 | exact b1 | exact c3 | exact am2 | exact am3 | exact am20 | exact hcl _ _ rfl | exact k1 | exact k2 | exact ⟨k1, trivial⟩ | exact ⟨k2, trivial⟩ | exact d0 | exact d1 | exact l1 | exact l2 | exact g3 | rfl | decide | refine And.intro ?_ ?_))) ?_
        exact roundEnd ⟨i + 1, S', L', t1, by rw [t2.len]; exact hl20, hBn t2, by omega, by omega⟩ [] (by show acts.length - (i + 1) < acts.length - i; omega) (by (repeat' (first | exact trivial | exact rfl | exact w3 | exact fun _ => w3 | refine And.intro ?_ ?_))) (by (repeat' (first | exact trivial | exact rfl | exact trivial | exact fun _ => trivial | first | exact s1 | exact s2 | refine And.intro ?_ ?_))) rfl
      · rw [if_neg hc] at t6
        subst t6
        have he : e ≠ 0 := fun h => hc (t5.1 h)
        have ge : (e == 0) = false := by simpa using he
        have g2 : (L'[r].1 == IntKind.i64.wrap ((n : Int) + 1)) = false := by rw [wn]; simpa using hc
        have g3 : polB false ((e == 0) == (L'[r].1 == IntKind.i64.wrap ((n : Int) + 1))) = false := by rw [g2, ge]; rfl
        refine rn [(53, .ld [iT act.node]), (54, .ret (.t (.c (iT (n : Nat))))), (59, .ld [iT act.reg]), (60, .ret (.t (.c (iT (r : Nat))))), (65, .ld [iT act.kind]), (66, .ret (.t (.c (iT ((1 : Nat) : Int))))), (95, .dec false), (130, .dec true), (136, .spec ⟨.t (.c (iT e)), [], [(2, some (.ab (dP S' [] 0 b)))], []⟩), (141, .ld [iT L'[r].1]), (145, .dec false), (147, .dec false)] rfl (by (repeat' (first | exact trivial | exact rfl | exact trivial | exact fun _ => trivial | first | exact r0 | exact r1 | exact r2 | exact ⟨r0, trivial⟩ | exact ⟨r1, trivial⟩ | exact ⟨r2, trivial⟩ | exact b0 | exact b1 | exact c3 | exact am2 | exact am3 | exact am20 | exact hcl _ _ rfl | exact k1 | exact k2 | exact ⟨k1, trivial⟩ | exact ⟨k2, trivial⟩ | exact d0 | exact d1 | exact l1 | exact l2 | exact ge | exact g3 | rfl | decide | refine And.intro ?_ ?_))) ?_
        exact roundEnd ⟨i + 1, S', L', t1, hl20, hBn t2, by omega, by omega⟩ [] (by show acts.length - (i + 1) < acts.length - i; omega) (by (repeat' (first | exact trivial | exact rfl | exact w3 | exact fun _ => w3 | refine And.intro ?_ ?_))) (by repeat' (first | exact trivial | exact rfl | refine And.intro ?_ ?_)) rfl
    · -- seized
      obtain ⟨S', s1, s2, s3⟩ := hI.seize (node := (n : Nat)) (ep := 0) hnn (by omega) hB (by omega) (by rw [hfc]; omega)
      have hcl := fun (H : HL) (nx : Nat) (h2 : lookH H 2 = some (true, .ab (dP S [] 0 b))) => seizeO (nx := nx) (a := 2) (bb := 9) (c := 2) h2 hI.ok (n : Nat) 0 (hI.sn (by omega)) s1
      generalize hdL S 2 9 2 (2 - (n : Int)) = out at *
      have hz0 : szK L (n : Nat) 0 = L := szK_zero _ _
      refine rn [(53, .ld [iT act.node]), (54, .ret (.t (.c (iT (n : Nat))))), (59, .ld [iT act.reg]), (60, .ret (.t (.c (iT (r : Nat))))), (65, .ld [iT act.kind]), (66, .ret (.t (.c (iT ((2 : Nat) : Int))))), (95, .dec false), (130, .dec false), (71, .spec ⟨.tup [.c (.nm 6), .c (iT 0)], [(true, .own 3 1 out.length (ivs out))], [(2, some (.ab (dP S' [] 0 b)))], []⟩), (75, .dec false)] rfl (by (repeat' (first | exact trivial | exact rfl | exact trivial | exact fun _ => trivial | first | exact r0 | exact r1 | exact r2 | exact ⟨r0, trivial⟩ | exact ⟨r1, trivial⟩ | exact ⟨r2, trivial⟩ | exact b0 | exact b1 | exact c3 | exact am2 | exact am3 | exact am20 | exact hcl _ _ rfl | rfl | decide | refine And.intro ?_ ?_))) ?_
      refine At.loop (X := (k : Nat) ×' (k ≤ 20)) 6 (fun x => 20 - x.1)
        (fun x => [(0, .t (.c (.nm 0))), (3, .t (.c (.p 1 0))), (4, .t (.c (.nm 2))), (6, .t (.c (.p 4 0))), (7, .t (.c (.p 5 0))), (8, .t (.c (iT (i : Nat)))), (9, .t (.c (iT (n : Nat)))), (76, .t (.c (iT (x.1 : Nat))))])
        (fun x => [(0, some (false, .rd 3 acts.length (hacells acts))), (1, some (true, .cells [iT 2, iT 9, iT 2] 41)), (2, some (true, .ab (dP S' [] 0 b))), (4, some (true, .row (h1s (szK L (n : Nat) x.1)) 46)), (5, some (true, .row (h2s (szK L (n : Nat) x.1)) 46))]) ⟨0, by omega⟩ [] (fun x => wf rfl rfl) (by repeat' (first | exact trivial | exact rfl | refine And.intro ?_ ?_)) (by (repeat' (first | exact trivial | exact rfl | exact trivial | exact fun _ => trivial | first | rw [hz0] | refine And.intro ?_ ?_))) rfl fun x => ?_
      obtain ⟨k, hk⟩ := x
      have w4 : IntKind.i64.wrap ((k : Int) + 1) = ((k + 1 : Nat) : Int) := by rw [wrap_sm (by omega) (by omega)]; omega
      refine rn [] rfl (by repeat' (first | exact trivial | exact rfl | refine And.intro ?_ ?_)) ?_
      refine ⟨fun h => ?_, fun h => ?_⟩
      · have hk2 : k < L.length := by have : (k : Int) < 20 := of_decide_eq_true h; omega
        clear h
        have hk3 : k < (szK L (n : Nat) k).length := by rw [szK_len]; exact hk2
        have q1 := h1s_at hk3
        have q2 := h2s_at hk3
        have q3 := fun x => h1s_set hk3 x
        have q4 := fun x => h2s_set hk3 x
        rw [szK_at hk2] at q1 q2
        have q5 := szK_next (n := (n : Nat)) hk2
        have f0 : (0 : Int) ≤ (k : Int) := by omega
        have f1 : (k : Int) < 20 := by omega
        have v1 : 0 + (k : Int).toNat * 1 + 1 ≤ (h1s (szK L (n : Nat) k)).length := by rw [h1s_len, szK_len]; omega
        have v2 : 0 + (k : Int).toNat * 1 + 1 ≤ (h2s (szK L (n : Nat) k)).length := by rw [h2s_len, szK_len]; omega
        have hbk := hB _ (List.getElem_mem hk2)
        have htk2 := tok_iff (List.all_eq_true.1 hI.tk _ (List.getElem_mem hk2))
        have wo2 : IntKind.i64.wrap (L[k].2 + 1) = L[k].2 + 1 := wrap_sm (by omega) (by omega)
        by_cases hc : L[k].1 = 2 - (n : Int)
        · have g2 : (L[k].1 == IntKind.i64.wrap (2 - (n : Int))) = true := by rw [wm, hc]; simp
          have q6 : szF (n : Nat) L[k] = ((n : Int) + 1, L[k].2 + 1) := if_pos hc
          rw [q6] at q5
          have q7 : Vc.setAt (h1s (szK L (n : Nat) k)) (0 + (k : Int).toNat * 1) [Value.int .i64 (IntKind.i64.wrap ((n : Int) + 1))] = h1s (szK L (n : Nat) (k + 1)) := by rw [wn, q5]; exact q3 ((n : Int) + 1, L[k].2 + 1)
          have q8 : Vc.setAt (h2s (szK L (n : Nat) k)) (0 + (k : Int).toNat * 1) [Value.int .i64 (IntKind.i64.wrap (L[k].2 + 1))] = h2s (szK L (n : Nat) (k + 1)) := by rw [wo2, q5]; exact q4 ((n : Int) + 1, L[k].2 + 1)
          refine rn [(81, .ld [iT L[k].1]), (84, .dec true), (91, .ld [iT L[k].2])] rfl (by (repeat' (first | exact trivial | exact rfl | exact trivial | exact fun _ => trivial | first | exact q1 | exact q2 | exact ⟨q1, trivial⟩ | exact ⟨q2, trivial⟩ | exact f0 | exact f1 | exact v1 | exact v2 | exact g2 | rfl | decide | refine And.intro ?_ ?_))) ?_
          exact roundEnd ⟨k + 1, by omega⟩ [] (by show 20 - (k + 1) < 20 - k; omega) (by (repeat' (first | exact trivial | exact rfl | exact w4 | exact fun _ => w4 | refine And.intro ?_ ?_))) (by (repeat' (first | exact trivial | exact rfl | exact trivial | exact fun _ => trivial | first | exact q7 | exact q8 | refine And.intro ?_ ?_))) rfl
        · have g2 : (L[k].1 == IntKind.i64.wrap (2 - (n : Int))) = false := by rw [wm]; simpa using hc
          have q6 : szF (n : Nat) L[k] = L[k] := if_neg hc
          have q9 : szK L (n : Nat) (k + 1) = szK L (n : Nat) k := by
            rw [q5, q6]
            conv => lhs; arg 3; rw [← szK_at (n := (n : Nat)) hk2]
            exact List.set_getElem_self hk3
          refine rn [(81, .ld [iT L[k].1]), (84, .dec false)] rfl (by (repeat' (first | exact trivial | exact rfl | exact trivial | exact fun _ => trivial | first | exact q1 | exact q2 | exact ⟨q1, trivial⟩ | exact ⟨q2, trivial⟩ | exact f0 | exact f1 | exact v1 | exact v2 | exact g2 | rfl | decide | refine And.intro ?_ ?_))) ?_
          exact roundEnd ⟨k + 1, by omega⟩ [] (by show 20 - (k + 1) < 20 - k; omega) (by (repeat' (first | exact trivial | exact rfl | exact w4 | exact fun _ => w4 | refine And.intro ?_ ?_))) (by (repeat' (first | exact trivial | exact rfl | exact trivial | exact fun _ => trivial | first | rw [q9] | refine And.intro ?_ ?_))) rfl
      · have hke : k = 20 := by have : ¬ (k : Int) < 20 := of_decide_eq_false h; omega
        subst hke
        have hz2 : szK L (n : Nat) 20 = szL L (n : Nat) := by rw [← hl20]; exact szK_all _ _
        refine rn [] rfl (by repeat' (first | exact trivial | exact rfl | refine And.intro ?_ ?_)) (roundExit rfl ?_)
        refine rnA [] rfl (by repeat' (first | exact trivial | exact rfl | refine And.intro ?_ ?_)) ?_
        exact roundEnd ⟨i + 1, S', szL L (n : Nat), s2, by rw [s3.len]; exact hl20, hBn s3, by omega, by omega⟩ [] (by show acts.length - (i + 1) < acts.length - i; omega) (by (repeat' (first | exact trivial | exact rfl | exact w3 | exact fun _ => w3 | refine And.intro ?_ ?_))) (by (repeat' (first | exact trivial | exact rfl | exact trivial | exact fun _ => trivial | first | rw [hz2] | refine And.intro ?_ ?_))) rfl
    · exfalso
      omega
  · refine rn [] rfl (by repeat' (first | exact trivial | exact rfl | refine And.intro ?_ ?_)) (roundExit rfl ?_)
    have hns : nsec L.length = 2 := by rw [hl20]; decide
    have hlen : 2 + 2 ≤ S.length := by rw [hI.ok.len]; decide
    have e0 := rd_tT (S := S) (m := 2) (q := 0) (by omega) hlen
    have e1 := rd_tT (S := S) (m := 2) (q := 1) (by omega) hlen
    have htl := tT_len (S := S) (m := 2) hlen
    have htt : [rdT S 2, rdT S 3] = tT S 2 := by
      apply List.ext_getElem
      · rw [htl]; rfl
      · intro j h1 h2
        simp only [List.length_cons, List.length_nil] at h1
        obtain rfl | rfl : j = 0 ∨ j = 1 := by omega
        · exact e0
        · exact e1
    have htd := tdok_back L hI.tk
    have hdb := dl_back L hI.tk
    have htb := hI.tb
    rw [hns] at htd hdb htb
    rw [← htb, ← htt] at htd hdb
    have hg := hI.hn
    rw [hl20] at htd hdb hg
    have hdec := fun (H : HL) (nx : Nat) (v : TV) (hv : SlR H v 2 1 (svs [rdT S 2, rdT S 3])) => tdec_h (nx := nx) [rdT S 2, rdT S 3] g292 hg rfl htd hv
    rw [hdb] at hdec
    have hrd := fun (H : HL) (nx : Nat) (k : Int) (h2 : lookH H 2 = some (true, .ab (dP S [] 0 b))) => readA (nx := nx) h2 k
    refine rnA [(159, .spec ⟨.tup [.c (.s (rdT S 2)), .c (iT (rdE S.length 2))], [], [(2, some (.ab (dP S [] 0 b)))], []⟩), (164, .spec ⟨.tup [.c (.s (rdT S 3)), .c (iT (rdE S.length 3))], [], [(2, some (.ab (dP S [] 0 b)))], []⟩), (171, .dec true), (172, .spec ⟨.tup [.c (.nm 7), .c (iT 0)], [(true, .own 59 2 20 (lcells L))], [], []⟩), (177, .dec false), (181, .dec false)] rfl (by (repeat' (first | exact trivial | exact rfl | exact trivial | exact fun _ => trivial | first | exact hrd _ _ _ rfl | exact hdec _ _ _ (SlR.own rfl) | rfl | decide | refine And.intro ?_ ?_))) ?_
    refine At.loop (X := (k : Nat) ×' (k ≤ 20)) 8 (fun x => 20 - x.1)
      (fun x => [(6, .t (.c (.p 4 0))), (7, .t (.c (.p 5 0))), (20, .t (.c (.nm 7))), (182, .t (.c (iT (x.1 : Nat))))])
      (fun x => [(4, some (true, .row (h1s L) 46)), (5, some (true, .row (h2s L) 46)), (7, some (true, .own 59 2 20 (lcells L)))]) ⟨0, by omega⟩ [] (fun x => wf rfl rfl) (by repeat' (first | exact trivial | exact rfl | refine And.intro ?_ ?_)) (by repeat' (first | exact trivial | exact rfl | refine And.intro ?_ ?_)) rfl fun x => ?_
    obtain ⟨k, hk⟩ := x
    have w4 : IntKind.i64.wrap ((k : Int) + 1) = ((k + 1 : Nat) : Int) := by rw [wrap_sm (by omega) (by omega)]; omega
    refine rn [] rfl (by repeat' (first | exact trivial | exact rfl | refine And.intro ?_ ?_)) ?_
    refine ⟨fun h => ?_, fun h => ?_⟩
    · have hk2 : k < L.length := by have : (k : Int) < 20 := of_decide_eq_true h; omega
      clear h
      have q1 := h1s_at hk2
      have q2 := h2s_at hk2
      have x1 : (lcells L)[(k : Int).toNat * 2]? = some (.int .i64 L[k].1) := by rw [Int.toNat_natCast]; exact (lcells_get L k hk2).1
      have x2 : (lcells L)[(k : Int).toNat * 2 + 1]? = some (.int .i64 L[k].2) := by rw [Int.toNat_natCast]; exact (lcells_get L k hk2).2
      have f0 : (0 : Int) ≤ (k : Int) := by omega
      have f1 : (k : Int) < 20 := by omega
      have f2 : (k : Int).toNat * 2 < (lcells L).length := by rw [lcells_length]; omega
      have v1 : (L[k].1 != L[k].1) = false := by simp
      have v2 : (L[k].2 != L[k].2) = false := by simp
      refine rn [(189, .ld [iT L[k].1]), (192, .ld [iT L[k].1]), (194, .dec false), (199, .ld [iT L[k].2]), (202, .ld [iT L[k].2]), (204, .dec false)] rfl (by (repeat' (first | exact trivial | exact rfl | exact trivial | exact fun _ => trivial | first | exact q1 | exact q2 | exact ⟨q1, trivial⟩ | exact ⟨q2, trivial⟩ | exact x1 | exact x2 | exact ⟨x1, trivial⟩ | exact ⟨x2, trivial⟩ | exact f0 | exact f1 | exact f2 | exact v1 | exact v2 | rfl | decide | refine And.intro ?_ ?_))) ?_
      exact roundEnd ⟨k + 1, by omega⟩ [] (by show 20 - (k + 1) < 20 - k; omega) (by (repeat' (first | exact trivial | exact rfl | exact w4 | exact fun _ => w4 | refine And.intro ?_ ?_))) (by repeat' (first | exact trivial | exact rfl | refine And.intro ?_ ?_)) rfl
    · refine rn [] rfl (by repeat' (first | exact trivial | exact rfl | refine And.intro ?_ ?_)) (roundExit rfl ?_)
      refine rnA [] rfl (by repeat' (first | exact trivial | exact rfl | refine And.intro ?_ ?_)) ?_
      exact ret0 tysOk rfl (by repeat' (first | exact trivial | exact rfl | refine And.intro ?_ ?_)) rfl
theorem topHands_true (acts : List HAct) (A1 : Option Addr) (c1 : Nat) (w : World) (zl : acts.length ≤ 100000000000000) (h1 : Vc.Rds w A1 acts.length c1 3 (hacells acts)) :
    Calls Tryz.prog 4 #[.slice A1 acts.length c1] w fun e w' => e = .returned (.bool true) ∧ RowKit.Below w.heap.size w w' := by
  obtain ⟨e, M, v0⟩ := memr1 h1
  have := fnh_law (topHands_h acts zl) rfl rfl M
  rw [show ([.c (.nm 0)] : List TV).map (TV.den e) = [e.val 0] from rfl, v0] at this
  exact this
end Cw
