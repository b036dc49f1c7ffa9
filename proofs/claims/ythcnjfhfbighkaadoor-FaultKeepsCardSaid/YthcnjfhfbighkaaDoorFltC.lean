/- Package fault: errors told by names, and what it answers of them. -/
import Derived.Test.YthcnjfhfbighkaaDoorFltI
import Derived.Test.YthcnjfhfbighkaaDoorFnV
import Derived.Test.YthcnjfhfbighkaaDoorSlV
namespace Cw
open Go Vc
open Go.Proofs
set_option maxRecDepth 100000
abbrev Sp := Nat × ByteArray × Int
/-- An error of a number, with these steps in these blocks. -/
def errQ (c : Int) (l : List Sp) : AbP := fun v F w => v = evV c l ∧ (c = 0 → l = []) ∧ (∀ x ∈ l, F x.1) ∧ chainOk w c l
theorem errQ_st (c : Int) (l : List Sp) : stable (errQ c l) := fun _ _ _ _ ⟨h1, h2, h3, h4⟩ hk => ⟨h1, h2, h3, h4.keep fun x hx => hk _ (h3 x hx)⟩
abbrev EK (s : List (ByteArray × Int)) := {l : List Sp // l.map (·.2) = s}
def errX (c : Int) (s : List (ByteArray × Int)) : AbP := exP (κ := EK s) fun l => errQ c l.1
theorem errX_st (c : Int) (s : List (ByteArray × Int)) : stable (errX c s) := exP_stable fun _ => errQ_st _ _
/-- What errors.errorType holds. -/
def hdlV : Value := .iface 73 (.agg #[.pointer (some ⟨1, 25, none⟩)])
def gP : AbP := fun _ F w => F 0 ∧ w.cell? ⟨0, 0, none⟩ = some hdlV
theorem gP_st : stable gP := fun _ _ w _ ⟨h1, h2⟩ hk => ⟨h1, (World.cell?_of_block (w := w) (hk 0 h1)).trans h2⟩
theorem eC : Tryd.prog.underlying 25 = some (.interface (Tryd.prog.methodsAt 25)) := by kernel_rfl
theorem ev_eqnil {c : Int} {l : List Sp} (h0 : c = 0 → l = []) (w : World) : (binOp .eql 25 (evV c l) .nilIface).run Tryd.prog w = .ok (.bool (decide (c = 0))) w := by
  by_cases hc : c = 0
  · rw [h0 hc, evV, if_pos hc, run_eql_nil_nil w 25 eC]
    simp [hc]
  · obtain ⟨t, v, h⟩ := evV_ifc hc l
    rw [h, run_eql_held_nil w 25 t v eC]
    simp [hc]
theorem ev_neqnil {c : Int} {l : List Sp} (h0 : c = 0 → l = []) (w : World) : (binOp .neq 25 (evV c l) .nilIface).run Tryd.prog w = .ok (.bool (!decide (c = 0))) w := by
  by_cases hc : c = 0
  · rw [h0 hc, evV, if_pos hc, run_neq_nil_nil w 25 eC]
    simp [hc]
  · obtain ⟨t, v, h⟩ := evV_ifc hc l
    rw [h, run_neq_held_nil w 25 t v eC]
    simp [hc]
section
variable {L : LL} {H : HL} {nx k : Nat} {b : Bool} {o : Oper} {x : Operand} {c : Int} {l : List Sp}
theorem ev_guard {op : BinOp} (c : Int) (l : List Sp) (w : World) : (eqGuard op 25 x (.const .nilIface) (evV c l) .nilIface).run Tryd.prog w = .ok () w := by
  unfold eqGuard
  cases hv : evV c l <;> cases op <;> simp [hv]
theorem spec_en {r : Bool} (hr : decide (c = 0) = r) (hop : o.op = .binOp .eql 25 x (.const .nilIface) 25) (hx : ∀ F e a w, Sat F (fun t => look t L) (lookH H) e a w → ∃ l, a.eval x = evV c l ∧ (c = 0 → l = [])) :
    Spec Tryd.prog L H nx o ⟨.t (.c (.b r)), [], [], []⟩ := by
  subst hr
  refine ⟨fun F => step_pure fun e a w S => ?_⟩
  obtain ⟨l, h1, h2⟩ := hx F e a w S
  have hc : a.eval (.const .nilIface) = .nilIface := rfl
  simp only [execOp, hop, Sem.run_bind, h1, hc, ev_guard, Result.andThen_ok, ev_eqnil h2, Sem.run_pure]
  rfl
theorem spec_enn {r : Bool} (hr : decide (c = 0) = r) (hop : o.op = .binOp .neq 25 x (.const .nilIface) 25) (hx : ∀ F e a w, Sat F (fun t => look t L) (lookH H) e a w → ∃ l, a.eval x = evV c l ∧ (c = 0 → l = [])) :
    Spec Tryd.prog L H nx o ⟨.t (.c (.b (!r))), [], [], []⟩ := by
  subst hr
  refine ⟨fun F => step_pure fun e a w S => ?_⟩
  obtain ⟨l, h1, h2⟩ := hx F e a w S
  have hc : a.eval (.const .nilIface) = .nilIface := rfl
  simp only [execOp, hop, Sem.run_bind, h1, hc, ev_guard, Result.andThen_ok, ev_neqnil h2, Sem.run_pure]
  rfl
theorem at_nm {s : List (ByteArray × Int)} (hx : ev L x = some (.c (.nm k))) (hk : lookH H k = some (b, .ab (errX c s))) : ∀ F e a w, Sat F (fun t => look t L) (lookH H) e a w → ∃ l, a.eval x = evV c l ∧ (c = 0 → l = []) := by
  intro F e a w S
  obtain ⟨⟨l, hl⟩, h1, h2, _⟩ := (S.ob k b _ hk).1.1
  exact ⟨l, by rw [ev_ok S hx]; exact h1, h2⟩
theorem at_raw (hx : ev L x = some (.c (.raw (evV c l)))) (h0 : c = 0 → l = []) : ∀ F e a w, Sat F (fun t => look t L) (lookH H) e a w → ∃ l, a.eval x = evV c l ∧ (c = 0 → l = []) := by
  intro F e a w S
  exact ⟨l, by rw [ev_ok S hx]; rfl, h0⟩
/-- A number, a pointer as an error or as a target. -/
theorem spec_mkN {T : TypeId} (hT : Tryd.prog.concrete T = true) (hop : o.op = .makeInterface T x) {kd : IntKind} {n : Int} (hx : ev L x = some (.c (.i kd n))) : Spec Tryd.prog L H nx o ⟨.t (.c (.raw (.iface T (.int kd n)))), [], [], []⟩ := by
  refine ⟨fun F => step_pure fun e a w S => ?_⟩
  simp only [execOp, hop, Sem.run_bind, ev_ok S hx, TV.den, CV.den, run_makeInterface w T _ hT, Result.andThen_ok, Sem.run_pure]
  rfl
theorem spec_mkP {T : TypeId} (hT : Tryd.prog.concrete T = true) (hop : o.op = .makeInterface T x) {m p q : Nat} (hx : ev L x = some (.c (.p m 0))) (hp : lookH H p = some (b, .pin m q)) : Spec Tryd.prog L H nx o ⟨.t (.c (.raw (.iface T (.pointer (some ⟨q, 0, none⟩))))), [], [], []⟩ := by
  refine ⟨fun F => step_pure fun e a w S => ?_⟩
  have hb : e.blk m = q := (S.ob p b _ hp).1.2
  simp only [execOp, hop, Sem.run_bind, ev_ok S hx, TV.den, CV.den, hb, run_makeInterface w T _ hT, Result.andThen_ok, Sem.run_pure]
  rfl
end
theorem set_blk {w : World} {g : Nat} {cs : Array Value} {T : TypeId} (h : w.heap[g]? = some (.cells cs T (0, 0))) (i : Nat) (v : Value) : (w.setCell ⟨g, i, none⟩ v).heap[g]? = some (.cells (cs.setIfInBounds i v) T (0, 0)) := by
  rw [setCell_eq_setRow w g i cs T (0, 0) v h]
  exact setRow_heap w g _ _ T _ h
theorem blk_in {w : World} {g : Nat} {o : Obj} (h : w.heap[g]? = some o) : g < w.heap.size := by
  rcases Nat.lt_or_ge g w.heap.size with h1 | h1
  · exact h1
  · rw [Array.getElem?_eq_none h1] at h
    cases h
section
variable {H : HL} {nx k g m p q : Nat} {bk bg bp : Bool} {x y : CV} {c : Int} {l : List Sp} {T : TypeId}
/-- A call that writes one cell of a block that has a name, and makes memory. -/
theorem mv_cell {obs : List Prop} {e : Env} {w w1 : World} {v : SV} (M : MemOk H e w) (hm : lookH H m = some (true, .cells [x] T)) (hb : RowKit.Below w.heap.size w w1) (hy : y.ns = [] ∨ y.ns = [q]) :
    Mv nx ⟨v, [], [(m, some (.cells [y] T))], obs⟩ e e w (w1.setCell ⟨e.blk m, 0, none⟩ (y.den e)) := by
  obtain ⟨⟨hfp, hblk⟩, hlt⟩ := M.ob m true _ hm
  have h1 := (hb.block _ (blk_in hblk)).trans hblk
  refine .old ⟨fun n _ => ⟨rfl, rfl, rfl⟩, hb.os, hb.tape, hb.output, by simpa using hb.size, fun g hg hno => ?_, fun k b o hk => by simp at hk, fun j k hj => by simp at hj, fun n o ho => ?_⟩
  · have hne : g ≠ e.blk m := fun h => hno m (some (.cells [y] T)) (by simp) ((hfp g).2 h)
    rw [RowKit.Below.heap_setCell w1 ⟨e.blk m, 0, none⟩ _ g hne]
    exact hb.block g hg
  · simp at ho
    obtain ⟨rfl, rfl⟩ := ho
    refine ⟨hfp, ?_⟩
    rw [set_blk h1]
    simp
theorem cell_at {e : Env} {w : World} (M : MemOk H e w) (hm : lookH H m = some (true, .cells [x] T)) : w.cell? ⟨e.blk m, 0, none⟩ = some (x.den e) ∧ w.frozen? ⟨e.blk m, 0, none⟩ = false ∧ e.blk m < w.heap.size := by
  obtain ⟨⟨hfp, hblk⟩, hlt⟩ := M.ob m true _ hm
  exact ⟨by rw [fb_cell hblk]; rfl, by simp [World.frozen?, hblk], blk_in hblk⟩
/-- errors.As for a number. -/
theorem fAs_code (hc : c ≠ 0) (hk : lookH H k = some (bk, .ab (errQ c l))) (hg : lookH H g = some (bg, .ab gP)) (hm : lookH H m = some (true, .cells [x] 22)) (hp : lookH H p = some (bp, .pin m q)) :
    FnH Tryd.prog 20 [.c (.raw (evV c l)), .c (.raw (.iface 57 (.pointer (some ⟨q, 0, none⟩))))] H nx ⟨.t (.c (.b true)), [], [(m, some (.cells [.i .i64 c] 22))], []⟩ := by
  refine ⟨fun _ _ e w M => ?_⟩
  have hb : e.blk m = q := (M.ob p bp _ hp).1.2
  obtain ⟨⟨h1, h2, h3, h4⟩, _⟩ := (M.ob k bk _ hk).1
  obtain ⟨⟨_, h5⟩, _⟩ := (M.ob g bg _ hg).1
  obtain ⟨q1, q2, q3⟩ := cell_at M hm
  rw [hb] at q1 q2 q3
  refine Calls.mono (As_code hc l w q _ h5 q1 q2 q3 h4) ?_
  rintro en w' ⟨rfl, w1, hbl, rfl⟩
  refine ⟨e, rfl, ?_⟩
  have := mv_cell (nx := nx) (v := .t (.c (.b true))) (obs := []) (y := .i .i64 c) (q := 0) M hm hbl (.inl rfl)
  rw [hb] at this
  exact this
/-- errors.As for a step: there is one. -/
theorem fAs_hit {pq : Nat} {bq : Bool} {s : Sp} (hq : lookH H pq = some (bq, .pin pq s.1)) (hg : lookH H g = some (bg, .ab gP)) (hm : lookH H m = some (true, .cells [x] 51)) (hp : lookH H p = some (bp, .pin m q)) :
    FnH Tryd.prog 20 [.c (.raw (evV c (s :: l))), .c (.raw (.iface 56 (.pointer (some ⟨q, 0, none⟩))))] H nx ⟨.t (.c (.b true)), [], [(m, some (.cells [.p pq 0] 51))], []⟩ := by
  refine ⟨fun _ _ e w M => ?_⟩
  have hb : e.blk m = q := (M.ob p bp _ hp).1.2
  have hb2 : e.blk pq = s.1 := (M.ob pq bq _ hq).1.2
  obtain ⟨⟨_, h5⟩, _⟩ := (M.ob g bg _ hg).1
  obtain ⟨q1, q2, q3⟩ := cell_at M hm
  rw [hb] at q1 q2 q3
  refine Calls.mono (As_fhit s.1 w q _ h5 q1 q2 q3) ?_
  rintro en w' ⟨rfl, w1, hbl, rfl⟩
  refine ⟨e, rfl, ?_⟩
  have := mv_cell (nx := nx) (v := .t (.c (.b true))) (obs := []) (y := .p pq 0) (q := pq) M hm hbl (.inr rfl)
  rw [hb, show (CV.p pq 0).den e = .pointer (some ⟨s.1, 0, none⟩) by rw [← hb2]; rfl] at this
  exact this
/-- errors.As for a step: there is none. -/
theorem fAs_miss (h0 : c = 0 → True) (hg : lookH H g = some (bg, .ab gP)) (hm : lookH H m = some (true, .cells [x] 51)) (hp : lookH H p = some (bp, .pin m q)) :
    FnH Tryd.prog 20 [.c (.raw (evV c [])), .c (.raw (.iface 56 (.pointer (some ⟨q, 0, none⟩))))] H nx ⟨.t (.c (.b false)), [], [], []⟩ := by
  refine ⟨fun _ _ e w M => ?_⟩
  have hb : e.blk m = q := (M.ob p bp _ hp).1.2
  obtain ⟨⟨_, h5⟩, _⟩ := (M.ob g bg _ hg).1
  obtain ⟨q1, q2, q3⟩ := cell_at M hm
  rw [hb] at q1 q2 q3
  by_cases hc : c = 0
  · subst hc
    refine Calls.mono (As_nil _ w) ?_
    rintro en w' ⟨rfl, hbl⟩
    exact ⟨e, rfl, Mv.of_below hbl⟩
  · refine Calls.mono (show Calls Tryd.prog 20 #[evV c [], .iface 56 (.pointer (some ⟨q, 0, none⟩))] w _ by rw [evV_code hc]; exact As_fmiss c w q _ h5 q1 q2 q3) ?_
    rintro en w' ⟨rfl, hbl⟩
    exact ⟨e, rfl, Mv.of_below hbl⟩
/-- errors.Is of a number. -/
theorem fIs {d : Int} (hc : c ≠ 0) (hk : lookH H k = some (bk, .ab (errQ c l))) :
    FnH Tryd.prog 19 [.c (.nm k), .c (.raw (.iface 22 (.int .i64 d)))] H nx ⟨.t (.c (.b (c == d))), [], [], []⟩ := by
  refine ⟨fun _ _ e w M => ?_⟩
  obtain ⟨⟨h1, h2, h3, h4⟩, _⟩ := (M.ob k bk _ hk).1
  rw [show ([.c (.nm k), .c (.raw (.iface 22 (.int .i64 d)))] : List TV).map (TV.den e) = [evV c l, .iface 22 (.int .i64 d)] by simp [TV.den, CV.den, h1]]
  refine Calls.mono (Is_any hc d l w h4) ?_
  rintro en w' ⟨rfl, hbl⟩
  exact ⟨e, rfl, Mv.of_below hbl⟩
end
/-- The cells of a step. -/
def stpC (c : Int) (s : Sp) (l : List Sp) : List CV := [.s s.2.1, .i .i64 s.2.2, .raw (evV c l)]
theorem chain_at {w : World} {c : Int} : ∀ {l : List Sp} (j : Nat) (h : j < l.length), chainOk w c l → w.heap[l[j].1]? = some (.cells #[.string l[j].2.1, .int .i64 l[j].2.2, evV c (l.drop (j + 1))] 53 (0, 0))
  | x :: l, 0, _, hc => hc.1
  | x :: l, j + 1, h, hc => chain_at j (by simpa using h) hc.2
/-- A field of a step, behind a pointer to its block. -/
theorem spec_loadE {L : LL} {H : HL} {nx q k off j : Nat} {b1 b2 : Bool} {o : Oper} {T : TypeId} {I : Ty} {x : Operand} {c : Int} {l : List Sp} {y : CV} (hop : o.op = .load T x) (hI : look T tys = some I) (hsz : I.size = 1) (hmk : mkV I [y] = some (.c y))
    (hx : ev L x = some (.c (.p q off))) (hj : j < l.length) (hq : lookH H q = some (b1, .pin q l[j].1)) (hk : lookH H k = some (b2, .ab (errQ c l))) (hc : (stpC c l[j] (l.drop (j + 1)))[off]? = some y) :
    Spec Tryd.prog L H nx o ⟨.t (.c y), [], [], []⟩ := by
  refine ⟨fun F => step_pure fun e a w S => ?_⟩
  have hT := tysOk _ _ hI
  have hb : e.blk q = l[j].1 := (S.ob q b1 _ hq).1.2
  obtain ⟨⟨_, _, _, h4⟩, _⟩ := (S.ob k b2 _ hk).1
  have hblk := chain_at j hj h4
  have hcl : y.den e0 = y.den e := by
    match off, hc with
    | 0, h => cases h; rfl
    | 1, h => cases h; rfl
    | 2, h => cases h; rfl
  have hcv : #[Value.string l[j].2.1, .int .i64 l[j].2.2, evV c (l.drop (j + 1))][off]? = some (y.den e) := by
    match off, hc with
    | 0, h => cases h; rfl
    | 1, h => cases h; rfl
    | 2, h => cases h; rfl
  have hev : a.eval x = .pointer (some ⟨l[j].1, off, none⟩) := by
    rw [ev_ok S hx]
    simp only [TV.den, CV.den, hb]
  have hrun := run_loadVar (P := Tryd.prog) (w := w) hT ⟨l[j].1, off, none⟩ e (l := [y]) (by rw [hsz]; rfl) hmk fun i u hu => by
    cases i with
    | zero =>
      rw [lit_add, cell_of_row w l[j].1 (off + 0) _ 53 (0, 0) hblk]
      simp at hu
      exact hcv.trans (by rw [hu])
    | succ j => simp at hu
  simp only [execOp, hop, hev, Instr.loadAt, Instr.sureAddr, Sem.run_bind, Sem.run_pure, Result.andThen_ok, hrun]
  rfl
end Cw
