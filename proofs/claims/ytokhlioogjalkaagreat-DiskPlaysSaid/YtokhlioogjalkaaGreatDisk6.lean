/- The disk: the chapter's example by reckoning. -/
import Derived.Test.YtokhlioogjalkaaGreatDisk5
namespace Cw
open Go Vc
open Go.Proofs
set_option maxRecDepth 100000
section
variable {H : HL} {nx d b n : Nat} {S : List ByteArray} {W : List (Int × Wr)} {last : Int}
theorem issueOk (hd : lookH H d = some (true, .ab (dP S W last b))) (h : DOk n S W last) (hl : last ≤ 1000000) {node ep pl : Int} {s : ByteArray} (he : isuE S W node ep pl s = 0) :
    FnH Tryz.prog 16 [.c (.nm d), .c (iT node), .c (iT ep), .c (iT pl), .c (.s s)] H nx ⟨.tup [.c (iT (last + 1)), .c (iT 0)], [], [(d, some (.ab (dP S (W ++ [(last + 1, ⟨node, ep, pl, s⟩)]) (last + 1) b)))], []⟩ := by
  have := issueA (nx := nx) hd (h.len ▸ h.two) h.sz h.l0 hl (fun p hp => (h.le p hp).2) node ep pl s
  rw [isuN, isuL, isuW, if_pos he, if_pos he, if_pos he, he] at this
  exact this
theorem issueNo (hd : lookH H d = some (true, .ab (dP S W last b))) (h : DOk n S W last) (hl : last ≤ 1000000) {node ep pl e : Int} {s : ByteArray} (he : isuE S W node ep pl s = e) (h0 : e ≠ 0) :
    FnH Tryz.prog 16 [.c (.nm d), .c (iT node), .c (iT ep), .c (iT pl), .c (.s s)] H nx ⟨.tup [.c (iT 0), .c (iT e)], [], [(d, some (.ab (dP S W last b)))], []⟩ := by
  have := issueA (nx := nx) hd (h.len ▸ h.two) h.sz h.l0 hl (fun p hp => (h.le p hp).2) node ep pl s
  rw [isuN, isuL, isuW, he, if_neg h0, if_neg h0, if_neg h0] at this
  exact this
theorem applyD (hd : lookH H d = some (true, .ab (dP S W last b))) (h : DOk n S W last) (k : Int) :
    FnH Tryz.prog 27 [.c (.nm d), .c (iT k)] H nx ⟨.tup [.c (.b (apB S W k)), .c (iT (drE W k))], [], [(d, some (.ab (dP (apS S W k) (wdel k W) last b)))], []⟩ :=
  applyA hd (h.len ▸ h.two) h.sz (fun p hp => by rw [h.len]; exact h.pl p hp) k
theorem raiseD (hd : lookH H d = some (true, .ab (dP S W last b))) (h : DOk n S W last) (node m : Int) :
    FnH Tryz.prog 26 [.c (.nm d), .c (iT node), .c (iT m)] H nx ⟨.t (.c (iT (rsE S node m))), [], [(d, some (.ab (dP (rsS S node m) W last b)))], []⟩ := raiseA hd (h.len ▸ h.two) h.sz node m
theorem nilD (hd : lookH H d = some (true, .ab (dX S W last))) {L : LL} {o : Oper} {x y : Operand} (hop : o.op = .binOp .eql 23 x y 23) (hx : ev L x = some (.c (.nm d))) (hy : ev L y = some (.c .np)) : Spec Tryz.prog L H nx o ⟨.t (.c (.b false)), [], [], []⟩ :=
  spec_nil tysOk hop hx hy rfl rfl hd (dX_nn _ _ _)
end
theorem isE_ok {node ep : Int} (h : 0 ≤ node ∧ node < 2 ∧ 0 ≤ ep ∧ ep ≤ 4294967295) : isE node ep = 0 := if_pos h
theorem isuE_ok {n : Nat} {S : List ByteArray} {W : List (Int × Wr)} {last node ep pl : Int} {s : ByteArray} (h : DOk n S W last) (h1 : 0 ≤ node ∧ node < 2 ∧ 0 ≤ ep ∧ ep ≤ 4294967295) (h2 : inS n pl = true) (h3 : s.size = 64) (h4 : W.length < 1024) : isuE S W node ep pl s = if psD (s1 S) node ep then 0 else 110 := by
  have e2 : wrE S.length pl s = 0 := by simp [wrE, h.len, h2, h3]
  simp [isuE, isE_ok h1, e2, show ¬ 1024 ≤ W.length by omega]
theorem look_void (n : Nat) : lookH [(0, none)] n = none := by
  rw [lookH_cons]
  split <;> rfl
theorem mem_void {W : Nat → Prop} (e : Env) (w : World) : Mem W [(0, none)] e w := ⟨fun n b o h => (by rw [look_void] at h; cases h), fun n o m c q h => (by rw [look_void] at h; cases h)⟩
def xB : ByteArray := ⟨#[120]⟩
set_option maxRecDepth 100000 in
set_option maxHeartbeats 1000000 in
theorem dworks_h {H : HL} {nx : Nat} : FnH Tryz.prog 6 [] H nx ⟨.t (.c (.b true)), [], [], []⟩ := by
  refine fnR (fn := Tryz.f6) 57 rfl rfl rfl (args' := []) (H' := [(0, none)]) (nx' := 1) (fun e w M => ⟨e, mem_void e w, rfl⟩) rfl rfl rfl rfl fun w => ?_
  refine rn [(9, .spec ⟨.tup [.c (.nm 1), .c (iT 0)], [(true, .ab (dX (S0 4) [] 0))], [], []⟩), (13, .spec ⟨.t (.c (.b false)), [], [], []⟩)] rfl ?_ ?_
  · repeat' (first | exact trivial | exact rfl | refine And.intro ?_ ?_)
    · exact nilD rfl rfl rfl rfl
    · exact newA (n := 4) (by decide) (by decide)
  refine ⟨fun h => (by cases h), fun _ => ?_⟩
  refine At.ex 1 rfl (dP_st _ _ _) fun b => ?_
  have h0 := DOk.new (n := 4) (by decide)
  have z1 := fit_size xB
  have p0 : psD (s1 (S0 4)) 0 0 = true := by rw [s1_new (by decide), psD_wall (by decide) (by decide) 0 0 (.inl rfl)]; rfl
  have e0 : isuE (S0 4) [] 0 0 3 (fit xB) = 0 := by rw [isuE_ok h0 (by decide) (by decide) z1 (by decide), p0]; rfl
  have h1 := h0.isu 0 0 3 (fit xB)
  rw [isuW, isuL, if_pos e0, if_pos e0] at h1
  have r0 : raiseE (s1 (S0 4)) 0 1 = 0 := by
    rw [s1_new (by decide), raiseE, if_pos (fok_wall (by decide) (by decide)), if_pos]
    refine ⟨.inl rfl, by decide, ?_⟩
    rw [epN, ep_wall (by decide) (by decide)]
    decide
  have r1 : setE (s1 (S0 4)) 0 1 = wallB 1 0 := by rw [s1_new (by decide), setE, ep_wall (by decide) (by decide)]; rfl
  have r2 : rsE (S0 4) 0 1 = 0 := by simp [rsE, r0]
  have r3 : rsS (S0 4) 0 1 = (S0 4).set 1 (wallB 1 0) := by rw [rsS, if_pos r0, r1]
  have h2 := h1.rs 0 1
  have hR := raiseD (H := [(1, some (true, .ab (dP (S0 4) [(1, ⟨0, 0, 3, fit xB⟩)] 1 b))), (1, some (true, .ab (dP (S0 4) [] 0 b))), (1, some (true, .ab (dX (S0 4) [] 0))), (0, none)]) (nx := 2) (d := 1) rfl h1 0 1
  rw [r2, r3] at hR
  rw [r3] at h2
  have hA := applyD (H := [(1, some (true, .ab (dP ((S0 4).set 1 (wallB 1 0)) [(1, ⟨0, 0, 3, fit xB⟩)] 1 b))), (1, some (true, .ab (dP (S0 4) [(1, ⟨0, 0, 3, fit xB⟩)] 1 b))), (1, some (true, .ab (dP (S0 4) [] 0 b))), (1, some (true, .ab (dX (S0 4) [] 0))), (0, none)]) (nx := 2) (d := 1) rfl h2 1
  have s1e : s1 ((S0 4).set 1 (wallB 1 0)) = wallB 1 0 := by rw [s1, List.getD_eq_getElem?_getD, List.getElem?_set]; rfl
  have p1 : psD (s1 ((S0 4).set 1 (wallB 1 0))) 0 0 = false := by rw [s1e, psD_wall (by decide) (by decide) 0 0 (.inl rfl)]; rfl
  have a1 : apB ((S0 4).set 1 (wallB 1 0)) [(1, ⟨0, 0, 3, fit xB⟩)] 1 = false := p1
  have a2 : apS ((S0 4).set 1 (wallB 1 0)) [(1, ⟨0, 0, 3, fit xB⟩)] 1 = (S0 4).set 1 (wallB 1 0) := by
    have hw : wget 1 [((1 : Int), (⟨0, 0, 3, fit xB⟩ : Wr))] = some ⟨0, 0, 3, fit xB⟩ := rfl
    simp [apS, hw, p1]
  rw [a1, a2] at hA
  have rd : rdT ((S0 4).set 1 (wallB 1 0)) 3 = B0 := by
    rw [rdT, if_pos (by decide), List.getD_eq_getElem?_getD, List.getElem?_set, if_neg (by decide)]
    rfl
  have hD := readA (H := [(1, some (true, .ab (dP ((S0 4).set 1 (wallB 1 0)) [] 1 b))), (1, some (true, .ab (dP ((S0 4).set 1 (wallB 1 0)) [(1, ⟨0, 0, 3, fit xB⟩)] 1 b))), (1, some (true, .ab (dP (S0 4) [(1, ⟨0, 0, 3, fit xB⟩)] 1 b))), (1, some (true, .ab (dP (S0 4) [] 0 b))), (1, some (true, .ab (dX (S0 4) [] 0))), (0, none)]) (nx := 2) (d := 1) rfl 3
  rw [rd] at hD
  have hF := fit0 ⟨#[]⟩ (by decide)
  rw [fit_empty] at hF
  refine rn [(20, .ret (.t (.c (.s (fit xB))))), (21, .spec ⟨.tup [.c (iT 1), .c (iT 0)], [], [(1, some (.ab (dP (S0 4) [(1, ⟨0, 0, 3, fit xB⟩)] 1 b)))], []⟩), (26, .dec false), (28, .spec ⟨.t (.c (iT 0)), [], [(1, some (.ab (dP ((S0 4).set 1 (wallB 1 0)) [(1, ⟨0, 0, 3, fit xB⟩)] 1 b)))], []⟩), (30, .dec false),
    (34, .spec ⟨.tup [.c (.b false), .c (iT 0)], [], [(1, some (.ab (dP ((S0 4).set 1 (wallB 1 0)) [] 1 b)))], []⟩), (39, .spec ⟨.tup [.c (.s B0), .c (iT 0)], [], [(1, some (.ab (dP ((S0 4).set 1 (wallB 1 0)) [] 1 b)))], []⟩), (50, .ret (.t (.c (.s B0))))] rfl ?_ ?_
  · (repeat' (first | exact trivial | exact rfl | exact fit0 xB (by decide) | exact fun _ => fit0 xB (by decide) | first | exact hR | exact hA | exact hD | exact hF | exact fun _ => hF | exact issueOk rfl h0 (by decide) e0 | decide | refine And.intro ?_ ?_))
  · refine ret0 tysOk rfl ?_ rfl
    repeat' (first | exact trivial | exact rfl | refine And.intro ?_ ?_)
    simp
end Cw
