/- Package fault walked: Of, Wrap, Is, First. -/
import Derived.Test.YthcnjfhfbighkaaDoorFltD
namespace Vc
open Go Go.RowKit
theorem fnh_exR {κ : Type} {P : Program} {f : FuncId} {args : List TV} {H : HL} {nx d : Nat} {φ : κ → AbP} {b0 : Bool} {E : Eff} (hd : lookH H d = some (b0, .ab (exP φ))) (hs : ∀ k, stable (φ k))
    (h : ∀ k, (∃ v F w, φ k v F w) → FnH P f args ((d, some (b0, .ab (φ k))) :: H) nx E) : FnH P f args H nx E := by
  refine ⟨fun hw ha e w M => ?_⟩
  obtain ⟨k, hk⟩ := (M.ob d b0 _ hd).1.1
  have M' : MemOk ((d, some (b0, .ab (φ k))) :: H) e w := by
    refine ⟨fun n b o hn => ?_, fun n o m c q hn hm hne g hg hg' => ?_⟩
    · rw [lookH_cons] at hn
      split at hn
      · rename_i h1
        cases hn
        subst h1
        exact ⟨⟨hk, hs k⟩, (M.ob n _ _ hd).2⟩
      · exact M.ob n b o hn
    · rw [lookH_cons] at hn hm
      split at hn
      · rename_i h1
        cases hn
        subst h1
        rw [if_neg (fun h => hne h.symm)] at hm
        exact M.dj n _ m c q hd hm hne g hg hg'
      · split at hm
        · rename_i h1
          cases hm
          subst h1
          exact M.dj n o m _ _ hn hd hne g hg hg'
        · exact M.dj n o m c q hn hm hne g hg hg'
  refine (h k ⟨_, _, _, hk⟩).h (fun n x hn => ?_) ha e w M'
  rw [lookH_cons] at hn
  split at hn
  · rename_i h1
    cases hn
    subst h1
    exact ⟨(hw n _ hd).1, fun m hm => by simp [Ob.ns] at hm⟩
  · exact hw n x hn
/-- An end, whatever is to be shown. -/
theorem doneP {P : Program} {w0 : World} {W : Nat → Prop} {N : Nat} {L : LL} {H : HL} {nx : Nat} {tys : List (Nat × Ty)} (hty : TysOk P tys) {fn : Func} {R : Ending → World → Prop} {vs : List TV} (h : outV (fun t => look t tys) L H fn.results.toList = some vs)
    (hR : ∀ e a w, Sat ⟨w0, W, N⟩ (fun t => look t L) (lookH H) e a w → R (.returned ((retS vs).den e)) w) : Done ⟨w0, W, N⟩ (bodyPost P fn R .ret) L H nx :=
  ⟨fun _ e a w S => ⟨S.df, _, run_results hty S h, hR e a w S⟩⟩
/-- A value that needs no memory gets a name. -/
theorem fnh_name {P : Program} {f : FuncId} {args : List TV} {H : HL} {nx : Nat} {v : Value} {φ : AbP} (h : FnH P f args H nx ⟨.t (.c (.raw v)), [], [], []⟩) (h1 : v.oneCell' = true) (hs : stable φ) (hp : ∀ w, φ v (fun _ => False) w) : FnH P f args H nx ⟨.t (.c (.nm nx)), [(true, .ab φ)], [], []⟩ := by
  refine ⟨fun hw ha e w M => ?_⟩
  refine Calls.mono (h.h hw ha e w M) ?_
  rintro en w' ⟨e', rfl, M2⟩
  have hb : ∀ g, g < w.heap.size → w'.heap[g]? = w.heap[g]? := fun g hg => by
    cases M2 with
    | old M2 => exact M2.block g hg fun n o ho => by cases ho
    | anew M2 => exact M2.block g hg fun n o ho => by cases ho
  refine ⟨e.put3 nx 0 v fun _ => False, by simp [SV.den, TV.den, CV.den, Env.put3_val e h1], .old ⟨fun n hn => Env.put3_same e (by simp only [List.length_cons, List.length_nil] at hn; omega), M2.os, M2.tape, M2.out, M2.size, fun g hg _ => hb g hg, fun k b o hk => ?_, fun j k hj hk hne => ?_, fun n o ho => by cases ho⟩⟩
  · cases k with
    | zero =>
      cases hk
      refine ⟨⟨?_, hs⟩, fun g hg => ?_⟩
      · show φ ((e.put3 nx 0 v fun _ => False).val (nx + 0)) ((e.put3 nx 0 v fun _ => False).fp (nx + 0)) w'
        rw [Nat.add_zero, Env.put3_val e h1, Env.put3_fp]
        exact hp w'
      · rw [Nat.add_zero, Env.put3_fp] at hg
        exact hg.elim
    | succ k => simp at hk
  · simp only [List.length_cons, List.length_nil] at hj hk
    omega
end Vc
namespace Cw
open Go Vc
open Go.Proofs
set_option maxRecDepth 100000
theorem look_v (n : Nat) : lookH [(0, none)] n = none := by
  rw [lookH_cons]
  split <;> rfl
theorem memV {W : Nat → Prop} (e : Env) (w : World) : Mem W [(0, none)] e w := ⟨fun n b o h => (by rw [look_v] at h; cases h), fun n o m c q h => (by rw [look_v] at h; cases h)⟩
theorem evV_one (c : Int) (l : List Sp) : (evV c l).oneCell' = true := by
  cases l with
  | nil =>
    show (if c = 0 then Value.nilIface else Value.iface 22 (.int .i64 c)).oneCell' = true
    by_cases h : c = 0
    · rw [if_pos h]; rfl
    · rw [if_neg h]; rfl
  | cons x l => rfl
/-- The steps behind one more. -/
def nxtS (c : Int) (s : List (ByteArray × Int)) (x : ByteArray × Int) : List (ByteArray × Int) := if c = 0 ∨ 16 ≤ s.length then s else x :: s
section
variable {H : HL} {nx k g : Nat} {bk bg : Bool} {c : Int} {s : List (ByteArray × Int)}
theorem ofR : FnH Tryd.prog 12 [.c (iT c)] H nx ⟨.t (.c (.raw (evV c []))), [], [], []⟩ := by
  refine fnR (fn := Tryd.f12) 7 rfl rfl rfl (args' := [.c (iT c)]) (H' := [(0, none)]) (nx' := 1) (fun e w M => ⟨e, memV e w, rfl⟩) rfl rfl rfl rfl fun w => ?_
  by_cases hc : c = 0
  · have h1 : (c == 0) = true := by simp [hc]
    refine rn [(4, .dec true)] rfl (by (repeat' (first | exact trivial | exact rfl | exact trivial | exact fun _ => trivial | exact h1 | refine And.intro ?_ ?_))) ?_
    have h2 : evV c [] = .nilIface := if_pos hc
    rw [h2]
    exact ret0 tysOk rfl (by repeat' (first | exact trivial | exact rfl | refine And.intro ?_ ?_)) rfl
  · have h1 : (c == 0) = false := by simpa using hc
    rw [evV_code hc]
    refine rn [(4, .dec false), (6, .spec ⟨.t (.c (.raw (.iface 22 (.int .i64 c)))), [], [], []⟩)] rfl (by (repeat' (first | exact trivial | exact rfl | exact trivial | exact fun _ => trivial | first | exact h1 | exact spec_mkN (T := 22) (by kernel_rfl) rfl rfl | rfl | refine And.intro ?_ ?_))) ?_
    exact ret0 tysOk rfl (by repeat' (first | exact trivial | exact rfl | refine And.intro ?_ ?_)) rfl
theorem ofX : FnH Tryd.prog 12 [.c (iT c)] H nx ⟨.t (.c (.nm nx)), [(true, .ab (errX c []))], [], []⟩ :=
  fnh_name ofR (evV_one _ _) (errX_st _ _) fun w => ⟨⟨[], rfl⟩, rfl, fun _ => rfl, fun x hx => (by cases hx), trivial⟩
theorem codeX (hk : lookH H k = some (bk, .ab (errX c s))) (hg : lookH H g = some (bg, .ab gP)) (hkg : g ≠ k) : FnH Tryd.prog 16 [.c (.nm k)] H nx ⟨.t (.c (iT c)), [], [], []⟩ := by
  refine fnh_exR hk (fun _ => errQ_st _ _) fun l hl => ?_
  obtain ⟨v, F, w, _, h0, _⟩ := hl
  exact codeQ (bk := bk) (bg := bg) (l := l.1) (g := g) (by rw [lookH_cons, if_pos rfl]) (by rw [lookH_cons, if_neg hkg]; exact hg) h0
theorem stepsX (hk : lookH H k = some (bk, .ab (errX c s))) (hg : lookH H g = some (bg, .ab gP)) (hkg : g ≠ k) (hs : s.length ≤ 1000) : FnH Tryd.prog 15 [.c (.nm k)] H nx ⟨.t (.c (.nm nx)), [(true, .own 46 2 s.length (stS s))], [], []⟩ := by
  refine fnh_exR hk (fun _ => errQ_st _ _) fun l hl => ?_
  have h1 := congrArg List.length l.2
  rw [List.length_map] at h1
  have := stepsQ (H := (k, some (bk, .ab (errQ c l.1))) :: H) (nx := nx) (k := k) (g := g) (bk := bk) (bg := bg) (c := c) (l := l.1) (by rw [lookH_cons, if_pos rfl]) (by rw [lookH_cons, if_neg hkg]; exact hg) (by omega)
  rw [l.2, h1] at this
  exact this
/-- Is an error of this number? -/
theorem isQ {l : List Sp} {d : Int} (hk : lookH H k = some (bk, .ab (errQ c l))) (hg : lookH H g = some (bg, .ab gP)) (h0 : c = 0 → l = []) : FnH Tryd.prog 14 [.c (.nm k), .c (iT d)] H nx ⟨.t (.c (.b (!decide (c = 0) && (c == d)))), [], [], []⟩ := by
  refine fnR (fn := Tryd.f14) 19 rfl rfl rfl (args' := [.c (.nm 0), .c (iT d)]) (H' := [(0, some (false, .ab (errQ c l))), (1, some (false, .ab gP))]) (nx' := 2) (fun e w M => ⟨e.comp (rE k g), mem_rd (rE k g) (H' := [(0, some (false, .ab (errQ c l))), (1, some (false, .ab gP))]) ⟨⟨bk, hk⟩, ⟨bg, hg⟩, trivial⟩ M, rfl⟩) rfl rfl rfl rfl fun w => ?_
  have hn : ∀ {L : LL} {H : HL} {b : Bool} {x : Operand}, ev L x = some (.c (.nm 0)) → lookH H 0 = some (b, .ab (errQ c l)) → ∀ F e a w, Sat F (fun t => look t L) (lookH H) e a w → ∃ l, a.eval x = evV c l ∧ (c = 0 → l = []) := by
    intro L H b x hx hk F e a w S
    obtain ⟨h1, h2, _⟩ := (S.ob 0 b _ hk).1.1
    exact ⟨l, by rw [ev_ok S hx]; exact h1, h2⟩
  by_cases hc : c = 0
  · refine rn [(6, .spec ⟨.t (.c (.b false)), [], [], []⟩), (7, .dec false)] rfl (by (repeat' (first | exact trivial | exact rfl | exact trivial | exact fun _ => trivial | first | exact spec_enn (r := true) (by simp [hc]) rfl (hn rfl rfl) | rfl | decide | refine And.intro ?_ ?_))) ?_
    have h1 : (!decide (c = 0) && (c == d)) = false := by simp [hc]
    rw [h1]
    exact ret0 tysOk rfl (by repeat' (first | exact trivial | exact rfl | refine And.intro ?_ ?_)) rfl
  · have h1 : (!decide (c = 0) && (c == d)) = (c == d) := by simp [hc]
    rw [h1]
    cases hd : (c == d) with
    | true =>
      have hi := fun (H : HL) (nx : Nat) (h2 : lookH H 0 = some (false, .ab (errQ c l))) => fIs (nx := nx) (d := d) hc h2
      rw [hd] at hi
      refine rn [(6, .spec ⟨.t (.c (.b true)), [], [], []⟩), (7, .dec true), (10, .spec ⟨.t (.c (.raw (.iface 22 (.int .i64 d)))), [], [], []⟩), (11, .spec ⟨.t (.c (.b true)), [], [], []⟩), (12, .dec true)] rfl
        (by (repeat' (first | exact trivial | exact rfl | exact trivial | exact fun _ => trivial | first | exact spec_enn (r := false) (by simp [hc]) rfl (hn rfl rfl) | exact spec_mkN (T := 22) (by kernel_rfl) rfl rfl | exact hi _ _ rfl | rfl | decide | refine And.intro ?_ ?_))) ?_
      exact ret0 tysOk rfl (by repeat' (first | exact trivial | exact rfl | refine And.intro ?_ ?_)) rfl
    | false =>
      have hi := fun (H : HL) (nx : Nat) (h2 : lookH H 0 = some (false, .ab (errQ c l))) => fIs (nx := nx) (d := d) hc h2
      rw [hd] at hi
      have hq := fun (H : HL) (nx : Nat) (h2 : lookH H 0 = some (false, .ab (errQ c l))) (h3 : lookH H 1 = some (false, .ab gP)) => codeQ (nx := nx) h2 h3 h0
      refine rn [(6, .spec ⟨.t (.c (.b true)), [], [], []⟩), (7, .dec true), (10, .spec ⟨.t (.c (.raw (.iface 22 (.int .i64 d)))), [], [], []⟩), (11, .spec ⟨.t (.c (.b false)), [], [], []⟩), (12, .dec false), (14, .spec ⟨.t (.c (iT c)), [], [], []⟩)] rfl
        (by (repeat' (first | exact trivial | exact rfl | exact trivial | exact fun _ => trivial | first | exact spec_enn (r := false) (by simp [hc]) rfl (hn rfl rfl) | exact spec_mkN (T := 22) (by kernel_rfl) rfl rfl | exact hi _ _ rfl | exact hq _ _ rfl rfl | rfl | decide | refine And.intro ?_ ?_))) ?_
      exact ret0 tysOk rfl (by (repeat' (first | exact trivial | exact rfl | exact trivial | exact fun _ => trivial | exact hd | refine And.intro ?_ ?_))) rfl
theorem isX {d : Int} (hk : lookH H k = some (bk, .ab (errX c s))) (hg : lookH H g = some (bg, .ab gP)) (hkg : g ≠ k) : FnH Tryd.prog 14 [.c (.nm k), .c (iT d)] H nx ⟨.t (.c (.b (!decide (c = 0) && (c == d)))), [], [], []⟩ := by
  refine fnh_exR hk (fun _ => errQ_st _ _) fun l hl => ?_
  obtain ⟨v, F, w, _, h0, _⟩ := hl
  exact isQ (bk := bk) (bg := bg) (l := l.1) (g := g) (by rw [lookH_cons, if_pos rfl]) (by rw [lookH_cons, if_neg hkg]; exact hg) h0
end
/-- What Wrap leaves. -/
def wrapPost (w : World) (c : Int) (l : List Sp) (s : List (ByteArray × Int)) (en : Ending) (w' : World) : Prop :=
  ∃ l' : List Sp, en = .returned (evV c l') ∧ RowKit.Below w.heap.size w w' ∧ l'.map (·.2) = s ∧ (c = 0 → l' = []) ∧ chainOk w' c l' ∧ ∀ x ∈ l', x ∈ l ∨ w.heap.size ≤ x.1
/-- A step that was made, as an error. -/
def stepP (op : ByteArray) (at' : Int) (c : Int) (l : List Sp) : AbP := fun v F w => ∃ b, v = evV c ((b, op, at') :: l) ∧ F b ∧ w.heap[b]? = some (.cells #[.string op, .int .i64 at', evV c l] 53 (0, 0))
theorem stepP_st (op : ByteArray) (at' : Int) (c : Int) (l : List Sp) : stable (stepP op at' c l) := fun _ _ _ _ ⟨b, h1, h2, h3⟩ hk => ⟨b, h1, h2, (hk b h2).trans h3⟩
theorem spec_mkE {L : LL} {H : HL} {nx m k : Nat} {bk : Bool} {o : Oper} {x : Operand} {c : Int} {l : List Sp} {op : ByteArray} {at' : Int} (hop : o.op = .makeInterface 51 x) (hx : ev L x = some (.c (.p m 0))) (hm : lookH H m = some (true, .cells [.s op, iT at', .nm k] 53)) (hk : lookH H k = some (bk, .ab (errQ c l))) :
    Spec Tryd.prog L H nx o ⟨.t (.c (.nm nx)), [(true, .ab (stepP op at' c l))], [(m, none)], []⟩ := by
  refine ⟨fun F hlow e a w S K Q hK => ?_⟩
  obtain ⟨⟨hfp, hblk⟩, hlt⟩ := S.ob m true _ hm
  obtain ⟨⟨h1, _⟩, _⟩ := (S.ob k bk _ hk).1
  have hcT : Tryd.prog.concrete 51 = true := by kernel_rfl
  have hrun : (execOp a.eval o).run Tryd.prog w = .ok (.value (.iface 51 (.pointer (some ⟨e.blk m, 0, none⟩)))) w := by
    simp only [execOp, hop, Sem.run_bind, ev_ok S hx, TV.den, CV.den, run_makeInterface w 51 _ hcT, Result.andThen_ok, Sem.run_pure]
  have hmx : m < nx := (hlow.2 m _ hm).1
  have hone : (Value.iface 51 (.pointer (some ⟨e.blk m, 0, none⟩))).oneCell' = true := rfl
  refine wp_value hrun ?_
  have := hK (e.put3 nx 0 (.iface 51 (.pointer (some ⟨e.blk m, 0, none⟩))) (fun g => g = e.blk m)) w (.old ⟨fun n hn => Env.put3_same e (by simp only [List.length_cons, List.length_nil] at hn; omega), rfl, rfl, rfl, Nat.le_refl _, fun g _ _ => rfl, fun j b o' hj => ?_, fun j j' hj hj' hne => ?_, fun n o' ho => by simp at ho⟩)
  · simpa [SV.den, TV.den, CV.den, Env.put3_val e hone] using this
  · cases j with
    | zero =>
      cases hj
      refine ⟨⟨?_, stepP_st _ _ _ _⟩, fun g hg => ?_⟩
      · rw [Nat.add_zero, Env.put3_val e hone, Env.put3_fp]
        refine ⟨e.blk m, rfl, rfl, hblk.trans ?_⟩
        simp [CV.den, h1]
      · rw [Nat.add_zero, Env.put3_fp] at hg
        subst hg
        exact ⟨(hlt _ ((hfp _).2 rfl)).1, .inr ⟨m, by simp, (hfp _).2 rfl⟩⟩
    | succ j => simp at hj
  · simp only [List.length_cons, List.length_nil] at hj hj'
    omega
set_option maxRecDepth 100000 in
set_option maxHeartbeats 4000000 in
theorem wrapW (c : Int) (l : List Sp) (op : ByteArray) (at' : Int) (h0 : c = 0 → l = []) (hl : l.length ≤ 1000) (w : World) :
    At Tryd.prog ⟨w, fun _ => False, 22⟩ (bodyPost Tryd.prog Tryd.f13 (wrapPost w c l (nxtS c (l.map (·.2)) (op, at')))) (Tryd.f13.body.get rfl) [] (argsL 0 [.t (.c (.s op)), .t (.c (iT at')), .t (.c (.nm 0))]) [(0, some (false, .ab (errQ c l))), (1, some (false, .ab gP))] 2 := by
  have hn : ∀ {L : LL} {H : HL} {b : Bool} {x : Operand}, ev L x = some (.c (.nm 0)) → lookH H 0 = some (b, .ab (errQ c l)) → ∀ F e a w, Sat F (fun t => look t L) (lookH H) e a w → ∃ l, a.eval x = evV c l ∧ (c = 0 → l = []) := by
    intro L H b x hx hk F e a w S
    obtain ⟨h1, h2, _⟩ := (S.ob 0 b _ hk).1.1
    exact ⟨l, by rw [ev_ok S hx]; exact h1, h2⟩
  have hsame : ∀ {L : LL} {H : HL} {nx : Nat} {e : Env} {a : Act} {w' : World} {b : Bool}, lookH H 0 = some (b, .ab (errQ c l)) → nxtS c (l.map (·.2)) (op, at') = l.map (·.2) → Sat ⟨w, fun _ => False, 22⟩ (fun t => look t L) (lookH H) e a w' → wrapPost w c l (nxtS c (l.map (·.2)) (op, at')) (.returned ((retS [.c (.nm 0)]).den e)) w' := by
    intro L H nx e a w' b hk hs S
    obtain ⟨h1, h2, h3, h4⟩ := (S.ob 0 b _ hk).1.1
    exact ⟨l, by rw [show (retS [.c (.nm 0)]).den e = e.val 0 from rfl, h1], S.fr.below, hs.symm, h0, h4, fun x hx => .inl hx⟩
  by_cases hc : c = 0
  · refine rn [(8, .spec ⟨.t (.c (.b true)), [], [], []⟩), (9, .dec true), (14, .dec true)] rfl (by (repeat' (first | exact trivial | exact rfl | exact trivial | exact fun _ => trivial | first | exact spec_en (r := true) (by simp [hc]) rfl (hn rfl rfl) | rfl | decide | refine And.intro ?_ ?_))) ?_
    exact doneP tysOk rfl fun e a w' S => hsame (nx := 0) rfl (if_pos (.inl hc)) S
  · have hst := fun (H : HL) (nx : Nat) (h2 : lookH H 0 = some (false, .ab (errQ c l))) (h3 : lookH H 1 = some (false, .ab gP)) => stepsQ (nx := nx) h2 h3 hl
    by_cases h16 : 16 ≤ l.length
    · have g1 : decide ((16 : Int) ≤ (l.length : Int)) = true := by simp; omega
      refine rn [(8, .spec ⟨.t (.c (.b false)), [], [], []⟩), (9, .dec false), (11, .spec ⟨.t (.c (.nm 2)), [(true, .own 46 2 l.length (stS (l.map (·.2))))], [], []⟩), (14, .dec true)] rfl (by (repeat' (first | exact trivial | exact rfl | exact trivial | exact fun _ => trivial | first | exact spec_en (r := false) (by simp [hc]) rfl (hn rfl rfl) | exact hst _ _ rfl rfl | exact g1 | rfl | decide | refine And.intro ?_ ?_))) ?_
      exact doneP tysOk rfl fun e a w' S => hsame (nx := 0) rfl (if_pos (.inr (by simpa using h16))) S
    · have g1 : decide ((16 : Int) ≤ (l.length : Int)) = false := by simp; omega
      refine rn [(8, .spec ⟨.t (.c (.b false)), [], [], []⟩), (9, .dec false), (11, .spec ⟨.t (.c (.nm 2)), [(true, .own 46 2 l.length (stS (l.map (·.2))))], [], []⟩), (14, .dec false), (21, .spec ⟨.t (.c (.nm 4)), [(true, .ab (stepP op at' c l))], [(3, none)], []⟩)] rfl (by (repeat' (first | exact trivial | exact rfl | exact trivial | exact fun _ => trivial | first | exact spec_en (r := false) (by simp [hc]) rfl (hn rfl rfl) | exact hst _ _ rfl rfl | exact g1 | exact spec_mkE (k := 0) rfl rfl rfl rfl | rfl | decide | refine And.intro ?_ ?_))) ?_
      refine doneP tysOk rfl fun e a w' S => ?_
      obtain ⟨⟨⟨b, h1, h2, h3⟩, _⟩, h5⟩ := S.ob 4 true _ rfl
      obtain ⟨⟨_, _, _, h4⟩, _⟩ := (S.ob 0 false _ rfl).1
      refine ⟨(b, op, at') :: l, by rw [show (retS [.c (.nm 4)]).den e = e.val 4 from rfl, h1], S.fr.below, ?_, fun h => absurd h hc, ⟨h3, h4⟩, fun x hx => ?_⟩
      · rw [nxtS, if_neg (by simp; omega)]
        rfl
      · rcases List.mem_cons.1 hx with rfl | hx
        · exact .inr (((h5 b h2).2 rfl).resolve_right fun h => h)
        · exact .inl hx
section
variable {H : HL} {nx k g : Nat} {bk bg : Bool} {c : Int} {s : List (ByteArray × Int)}
theorem wrapQ {l : List Sp} (op : ByteArray) (at' : Int) (hk : lookH H k = some (true, .ab (errQ c l))) (hg : lookH H g = some (bg, .ab gP)) (h0 : c = 0 → l = []) (hl : l.length ≤ 1000) :
    FnH Tryd.prog 13 [.c (.s op), .c (iT at'), .c (.nm k)] H nx ⟨.t (.c (.nm nx)), [(true, .ab (errX c (nxtS c (l.map (·.2)) (op, at'))))], [(k, none)], []⟩ := by
  refine ⟨fun hlow _ e w M => ?_⟩
  have hkx : k < nx := (hlow k _ hk).1
  have := call_at (P := Tryd.prog) (f := 13) (fn := Tryd.f13) 22 rfl rfl rfl [.t (.c (.s op)), .t (.c (iT at')), .t (.c (.nm 0))] (e.comp (rE k g)) [(0, some (false, .ab (errQ c l))), (1, some (false, .ab gP))] 2 (fun _ => False) (w := w) (Nat.le_of_ble_eq_true rfl) (wf rfl rfl)
    (mem_rd (rE k g) (H' := [(0, some (false, .ab (errQ c l))), (1, some (false, .ab gP))]) ⟨⟨true, hk⟩, ⟨bg, hg⟩, trivial⟩ M) (wrapW c l op at' h0 hl w)
  refine Calls.mono this ?_
  rintro en w' ⟨l', rfl, hb, hs, h0', hch, hin⟩
  obtain ⟨⟨⟨_, _, h3, _⟩, _⟩, h5⟩ := M.ob k true _ hk
  refine ⟨e.put3 nx 0 (evV c l') (fun q => e.fp k q ∨ (w.heap.size ≤ q ∧ q < w'.heap.size)), by simp [SV.den, TV.den, CV.den, Env.put3_val e (evV_one c l')], .old ⟨fun n hn => Env.put3_same e (by simp only [List.length_cons, List.length_nil] at hn; omega), hb.os, hb.tape, hb.output, hb.size, fun q hq _ => hb.block q hq, fun j b o' hj => ?_, fun j j' hj hj' hne => ?_, fun n o' ho => by simp at ho⟩⟩
  · cases j with
    | zero =>
      cases hj
      refine ⟨⟨?_, errX_st _ _⟩, fun q hq => ?_⟩
      · rw [Nat.add_zero, Env.put3_val e (evV_one c l'), Env.put3_fp]
        refine ⟨⟨l', hs⟩, rfl, h0', fun x hx => ?_, hch⟩
        rcases hin x hx with h | h
        · exact .inl (h3 x h)
        · exact .inr ⟨h, hch.lt x hx⟩
      · rw [Nat.add_zero, Env.put3_fp] at hq
        rcases hq with h | h
        · exact ⟨Nat.lt_of_lt_of_le (h5 q h) hb.size, .inr ⟨k, by simp, h⟩⟩
        · exact ⟨h.2, .inl h.1⟩
    | succ j => simp at hj
  · simp only [List.length_cons, List.length_nil] at hj hj'
    omega
theorem wrapX (op : ByteArray) (at' : Int) (hk : lookH H k = some (true, .ab (errX c s))) (hg : lookH H g = some (bg, .ab gP)) (hkg : g ≠ k) (hs : s.length ≤ 1000) :
    FnH Tryd.prog 13 [.c (.s op), .c (iT at'), .c (.nm k)] H nx ⟨.t (.c (.nm nx)), [(true, .ab (errX c (nxtS c s (op, at'))))], [(k, none)], []⟩ := by
  refine fnh_exR hk (fun _ => errQ_st _ _) fun l hl => ?_
  obtain ⟨v, F, w, _, h0, _⟩ := hl
  have h1 := congrArg List.length l.2
  rw [List.length_map] at h1
  have := wrapQ (H := (k, some (true, .ab (errQ c l.1))) :: H) (nx := nx) (bg := bg) (l := l.1) (k := k) (g := g) op at' (by rw [lookH_cons, if_pos rfl]) (by rw [lookH_cons, if_neg hkg]; exact hg) h0 (by omega)
  rw [l.2] at this
  exact this
end
end Cw
