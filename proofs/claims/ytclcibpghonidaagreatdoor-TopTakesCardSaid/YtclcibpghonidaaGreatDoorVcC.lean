/- A walk by reckoning: a function's text, loops, cuts; types; operations. No program in sight. -/
import Derived.Test.YtclcibpghonidaaGreatDoorVcB
import Derived.Scope
import Derived.Laws.StructEq
import Derived.ChangeKeysEq
import Derived.Laws.CopyRow
namespace Vc
open Go Go.RowKit

/-- What is still to be done behind a piece of text. -/
inductive KI where
  | seq (c : Code)
  | blk (id : Nat)
  | scp
def post (P : Program) (Q : Exit → Act → World → Prop) : List KI → Exit → Act → World → Prop
  | [] => Q
  | .seq c :: ks => Exit.then (c.wp P (post P Q ks)) (post P Q ks)
  | .blk id :: ks => Exit.inBlock id (post P Q ks)
  | .scp :: ks => Exit.noGoto (post P Q ks)
def pop (id : Nat) : List KI → Option (List KI)
  | [] => none
  | .blk j :: l => match Nat.beq id j with
    | true => some l
    | false => pop id l
  | .seq _ :: l => pop id l
  | .scp :: l => pop id l
theorem post_pop {P : Program} {Q : Exit → Act → World → Prop} {id : Nat} {a : Act} {w : World} : ∀ {ks ks' : List KI}, pop id ks = some ks' → post P Q ks' .normal a w → post P Q ks (.exit id) a w
  | [], _, h, _ => by cases h
  | .blk j :: l, ks', h, hp => by
    unfold pop at h
    show if id = j then post P Q l .normal a w else post P Q l (.exit id) a w
    split at h
    · rename_i hb
      cases h
      rw [if_pos ((beq_nat id j).1 hb)]
      exact hp
    · rename_i hb
      rw [if_neg (fun e => by rw [(beq_nat id j).2 e] at hb; cases hb)]
      exact post_pop h hp
  | .seq _ :: l, ks', h, hp => post_pop (ks := l) h hp
  | .scp :: l, ks', h, hp => post_pop (ks := l) h hp
theorem post_out {P : Program} {Q : Exit → Act → World → Prop} {id : Nat} {a : Act} {w : World} : ∀ {ks : List KI}, pop id ks = none → Q (.exit id) a w → post P Q ks (.exit id) a w
  | [], _, hq => hq
  | .blk j :: l, h, hq => by
    unfold pop at h
    show if id = j then post P Q l .normal a w else post P Q l (.exit id) a w
    split at h
    · cases h
    · rename_i hb
      rw [if_neg (fun e => by rw [(beq_nat id j).2 e] at hb; cases hb)]
      exact post_out h hq
  | .seq _ :: l, h, hq => post_out (ks := l) h hq
  | .scp :: l, h, hq => post_out (ks := l) h hq
theorem post_ret {P : Program} {Q : Exit → Act → World → Prop} {a : Act} {w : World} : ∀ {ks : List KI}, Q .ret a w → post P Q ks .ret a w
  | [], h => h
  | .blk _ :: l, h => post_ret (ks := l) h
  | .seq _ :: l, h => post_ret (ks := l) h
  | .scp :: l, h => post_ret (ks := l) h

structure St where
  L : LL
  H : HL
  nx : Nat
inductive RK where
  | normal
  | exit (id : Nat)
  | ret
  | loop (body : Code) (ks : List KI)
  | cond (b : Bool) (x y : Code) (ks : List KI)
  | stop (c : Code) (ks : List KI)
def run (st : Stp) (orc : List (Nat × Orc)) (N : Nat) : Nat → Code → List KI → LL → HL → Nat → List Prop → Option (RK × St × List Prop)
  | 0, _, _, _, _, _, _ => none
  | f + 1, c, ks, L, H, nx, ps =>
    match c with
    | .skip => match ks with
      | [] => some (.normal, ⟨L, H, nx⟩, ps)
      | .seq c :: ks => run st orc N f c ks L H nx ps
      | .blk _ :: ks => run st orc N f .skip ks L H nx ps
      | .scp :: ks => run st orc N f .skip ks L H nx ps
    | .region id ops d => match look (20000 + id) orc with
      | some (.dec true) => some (.stop (.region id ops d) ks, ⟨L, H, nx⟩, ps)
      | _ => match d with
        | false => seqR st orc N ops.toList ops.toList L H nx ps (fun L H nx ps => run st orc N f .skip ks L H nx ps) none
        | true => tagL L fun X => tagH H fun HX => drawR st orc N ops.toList nx ops.toList 0 X HX nx [] ps (fun X HX nx ps => untL X fun L => untH HX fun H => run st orc N f .skip ks L H nx ps) none
    | .seq x y => run st orc N f x (.seq y :: ks) L H nx ps
    | .block id c => match look (40000 + id) orc with
      | some (.dec true) => some (.stop (.block id c) ks, ⟨L, H, nx⟩, ps)
      | _ => run st orc N f c (.blk id :: ks) L H nx ps
    | .exit id => match pop id ks with
      | some ks => run st orc N f .skip ks L H nx ps
      | none => some (.exit id, ⟨L, H, nx⟩, ps)
    | .ret => some (.ret, ⟨L, H, nx⟩, ps)
    | .scope c => run st orc N f c (.scp :: ks) L H nx ps
    | .label _ => run st orc N f .skip ks L H nx ps
    | .loop b => some (.loop b ks, ⟨L, H, nx⟩, ps)
    | .cond (.tmp t) x y => match look t L with
      | some (.t (.c (.b v))) => match look t orc with
        | some (.dec true) => run st orc N f x ks L H nx ((v = true) :: ps)
        | some (.dec false) => run st orc N f y ks L H nx ((v = false) :: ps)
        | _ => some (.cond v x y ks, ⟨L, H, nx⟩, ps)
      | _ => none
    | _ => none

/-- The text c, with what is behind it, may be walked from this state. -/
structure At (P : Program) (F : Frm) (Q : Exit → Act → World → Prop) (c : Code) (ks : List KI) (L : LL) (H : HL) (nx : Nat) : Prop where
  h : WF L H nx → ∀ e a w, Sat F (fun t => look t L) (lookH H) e a w → c.wp P (post P Q ks) a w
/-- The walk has come to an end. -/
structure Done (F : Frm) (Q : Act → World → Prop) (L : LL) (H : HL) (nx : Nat) : Prop where
  h : WF L H nx → ∀ e a w, Sat F (fun t => look t L) (lookH H) e a w → Q a w
def GoalS (P : Program) (F : Frm) (Q : Exit → Act → World → Prop) : RK → St → Prop
  | .normal, s => Done F (Q .normal) s.L s.H s.nx
  | .exit id, s => Done F (Q (.exit id)) s.L s.H s.nx
  | .ret, s => Done F (Q .ret) s.L s.H s.nx
  | .loop b ks, s => At P F Q (.loop b) ks s.L s.H s.nx
  | .cond v x y ks, s => (v = true → At P F Q x ks s.L s.H s.nx) ∧ (v = false → At P F Q y ks s.L s.H s.nx)
  | .stop c ks, s => At P F Q c ks s.L s.H s.nx

theorem run_both {P : Program} {F : Frm} {Q : Exit → Act → World → Prop} {st : Stp} {orc : List (Nat × Orc)} (hst : Sound P st) (hm : P.follows .mixedOrders = true) {rk : RK} {s : St} {ps : List Prop} (hp : allP ps) (hg : WF s.L s.H s.nx → GoalS P F Q rk s) :
    ∀ (f : Nat),
      (∀ (ks : List KI) (L : LL) (H : HL) (nx : Nat) (ps0 : List Prop), run st orc F.N f .skip ks L H nx ps0 = some (rk, s, ps) → WF L H nx → allP ps0 ∧ ∀ e a w, Sat F (fun t => look t L) (lookH H) e a w → post P Q ks .normal a w) ∧
      (∀ (c : Code) (ks : List KI) (L : LL) (H : HL) (nx : Nat) (ps0 : List Prop), run st orc F.N f c ks L H nx ps0 = some (rk, s, ps) → WF L H nx → allP ps0 ∧ ∀ e a w, Sat F (fun t => look t L) (lookH H) e a w → c.wp P (post P Q ks) a w) := by
  intro f
  induction f with
  | zero => exact ⟨fun ks L H nx ps0 h => (by cases h), fun c ks L H nx ps0 h => (by cases h)⟩
  | succ f ih =>
    obtain ⟨ihs, ihc⟩ := ih
    have B : ∀ (ks : List KI) (L : LL) (H : HL) (nx : Nat) (ps0 : List Prop), run st orc F.N (f + 1) .skip ks L H nx ps0 = some (rk, s, ps) → WF L H nx → allP ps0 ∧ ∀ e a w, Sat F (fun t => look t L) (lookH H) e a w → post P Q ks .normal a w := by
      intro ks L H nx ps0 h hW
      cases ks with
      | nil =>
        cases h
        exact ⟨hp, fun e a w S => (hg hW).h hW e a w S⟩
      | cons k ks =>
        cases k with
        | seq c => exact ihc c ks L H nx ps0 h hW
        | blk id => exact ihs ks L H nx ps0 h hW
        | scp => exact ihs ks L H nx ps0 h hW
    refine ⟨B, fun c ks L H nx ps0 h hW => ?_⟩
    cases c with
    | skip =>
      obtain ⟨h1, h2⟩ := B ks L H nx ps0 h hW
      exact ⟨h1, fun e a w S => wp_skip (h2 e a w S)⟩
    | region id ops d =>
      unfold run at h
      simp only at h
      split at h
      · cases h
        exact ⟨hp, fun e a w S => (hg hW).h hW e a w S⟩
      cases d with
      | false =>
        obtain ⟨L', H', nx', ps', h1, h2, h3, h4⟩ := seqR_ok (F := F) (ops := ops) hst (Q := post P Q ks) (by simp) h hW
        obtain ⟨g1, g2⟩ := ihs ks L' H' nx' ps' h1 h2
        exact ⟨h3 g1, fun e a w S => wp_region_list (h4 g1 g2 e a w S)⟩
      | true =>
        obtain ⟨X', H', nx', ps', h1, h2, h3, h4⟩ := drawR_ok (F := F) (ops := ops) (id := id) hst hm (Q := post P Q ks) (by simp) h hW
        rw [untL_eq, untH_eq] at h1
        obtain ⟨g1, g2⟩ := ihs ks _ _ nx' ps' h1 h2
        exact ⟨h3 g1, fun e a w S => h4 g1 g2 e a w S⟩
    | seq x y =>
      obtain ⟨h1, h2⟩ := ihc x (.seq y :: ks) L H nx ps0 h hW
      exact ⟨h1, fun e a w S => wp_seq (h2 e a w S)⟩
    | cond c x y =>
      cases c with
      | tmp t =>
        unfold run at h
        simp only at h
        split at h
        · rename_i v hv
          have hc : ∀ e a w, Sat F (fun t => look t L) (lookH H) e a w → a.eval (.tmp t) = .bool v := fun e a w S => S.sl t _ hv
          split at h
          · obtain ⟨⟨h1, h0⟩, h2⟩ := ihc x ks L H nx _ h hW
            exact ⟨h0, fun e a w S => wp_cond_true ((hc e a w S).trans (by rw [h1])) (h2 e a w S)⟩
          · obtain ⟨⟨h1, h0⟩, h2⟩ := ihc y ks L H nx _ h hW
            exact ⟨h0, fun e a w S => wp_cond_false ((hc e a w S).trans (by rw [h1])) (h2 e a w S)⟩
          · cases h
            have := hg hW
            refine ⟨hp, fun e a w S => wp_cond_split (hc e a w S) (fun hv => (this.1 hv).h hW e a w S) (fun hv => (this.2 hv).h hW e a w S)⟩
        · cases h
      | const v => cases h
      | global g => cases h
      | func g => cases h
    | block id c =>
      unfold run at h
      simp only at h
      split at h
      · cases h
        exact ⟨hp, fun e a w S => (hg hW).h hW e a w S⟩
      · obtain ⟨h1, h2⟩ := ihc c (.blk id :: ks) L H nx ps0 h hW
        exact ⟨h1, fun e a w S => wp_block (h2 e a w S)⟩
    | loop b =>
      cases h
      exact ⟨hp, fun e a w S => (hg hW).h hW e a w S⟩
    | exit id =>
      unfold run at h
      simp only at h
      split at h
      · rename_i ks' hk
        obtain ⟨h1, h2⟩ := ihs ks' L H nx ps0 h hW
        exact ⟨h1, fun e a w S => wp_exit (post_pop hk (h2 e a w S))⟩
      · rename_i hk
        cases h
        exact ⟨hp, fun e a w S => wp_exit (post_out hk ((hg hW).h hW e a w S))⟩
    | ret =>
      cases h
      exact ⟨hp, fun e a w S => wp_ret (post_ret ((hg hW).h hW e a w S))⟩
    | rangeFunc _ _ _ _ => cases h
    | scope c =>
      obtain ⟨h1, h2⟩ := ihc c (.scp :: ks) L H nx ps0 h hW
      exact ⟨h1, fun e a w S => wp_scope_straight (h2 e a w S)⟩
    | label l =>
      obtain ⟨h1, h2⟩ := ihs ks L H nx ps0 h hW
      exact ⟨h1, fun e a w S => wp_label (h2 e a w S)⟩
    | goto _ => cases h
    | refuse _ => cases h
/-- Reckon on to the next stop. -/
def Goal (P : Program) (F : Frm) (Q : Exit → Act → World → Prop) : RK → LL → HL → Nat → Prop
  | .normal, L, H, nx => Done F (Q .normal) L H nx
  | .exit id, L, H, nx => Done F (Q (.exit id)) L H nx
  | .ret, L, H, nx => Done F (Q .ret) L H nx
  | .loop b ks, L, H, nx => At P F Q (.loop b) ks L H nx
  | .cond v x y ks, L, H, nx => (v = true → At P F Q x ks L H nx) ∧ (v = false → At P F Q y ks L H nx)
  | .stop c ks, L, H, nx => At P F Q c ks L H nx
theorem Goal.s {P : Program} {F : Frm} {Q : Exit → Act → World → Prop} {rk : RK} {L : LL} {H : HL} {nx : Nat} (h : Goal P F Q rk L H nx) : GoalS P F Q rk ⟨L, H, nx⟩ := by cases rk <;> exact h
theorem At.run {P : Program} {F : Frm} {Q : Exit → Act → World → Prop} {c : Code} {ks : List KI} {L : LL} {H : HL} {nx : Nat} {st : Stp} (orc : List (Nat × Orc)) (f : Nat) (hst : Sound P st) (hm : P.follows .mixedOrders = true) {rk : RK} {L' : LL} {H' : HL} {nx' : Nat} {ps : List Prop}
    (h : Vc.run st orc F.N f c ks L H nx [] = some (rk, ⟨L', H', nx'⟩, ps)) (hp : allP ps) (hg : Goal P F Q rk L' H' nx') : At P F Q c ks L H nx :=
  ⟨fun hW e a w S => ((run_both hst hm hp (fun _ => hg.s) f).2 c ks L H nx [] h hW).2 e a w S⟩

/-- Names told anew. -/
def ren (ρ : List (Nat × Nat)) (n : Nat) : Nat := match look n ρ with
  | some m => m
  | none => n
def Env.ren (e : Env) (ρ : List (Nat × Nat)) : Env := ⟨fun n => e.blk (Vc.ren ρ n), fun n => e.val (Vc.ren ρ n), fun n => e.fp (Vc.ren ρ n), fun n => e.one (Vc.ren ρ n)⟩
def same2 (a b : Nat) (l : List Prop) : List Prop := match Nat.beq a b with
  | true => l
  | false => [False]
def kindB : IntKind → IntKind → Bool
  | .i8, .i8 | .i16, .i16 | .i32, .i32 | .i64, .i64 | .u8, .u8 | .u16, .u16 | .u32, .u32 | .u64, .u64 => true
  | _, _ => false
def capsE (ρ : List (Nat × Nat)) : List (Nat × Nat) → List (Nat × Nat) → List Prop
  | [], [] => []
  | (n, o) :: l, (m, q) :: l' => same2 n (Vc.ren ρ m) ((o = q) :: capsE ρ l l')
  | _, _ => [False]
/-- What is asked for the first to be the second, by other names. -/
def CV.eqs (ρ : List (Nat × Nat)) : CV → CV → List Prop
  | .i k x, .i k' x' => match kindB k k' with
    | true => [x = x']
    | false => [False]
  | .b x, .b x' => [x = x']
  | .s x, .s x' => [x = x']
  | .p n o, .p n' o' => same2 n (Vc.ren ρ n') [o = o']
  | .np, .np => []
  | .sl n o l c, .sl n' o' l' c' => same2 n (Vc.ren ρ n') [o = o', l = l', c = c']
  | .nsl, .nsl => []
  | .nm n, .nm n' => same2 n (Vc.ren ρ n') []
  | .el n j, .el n' j' => same2 n (Vc.ren ρ n') [j = j']
  | .sub n o k l, .sub n' o' k' l' => same2 n (Vc.ren ρ n') [o = o', k = k', l = l']
  | .mp n, .mp n' => same2 n (Vc.ren ρ n') []
  | .nmp, .nmp => []
  | .fn f c, .fn f' c' => (f = f') :: capsE ρ c c'
  | .raw v, .raw v' => [v = v']
  | _, _ => [False]
def eqsC (ρ : List (Nat × Nat)) : List CV → List CV → List Prop
  | [], [] => []
  | x :: l, y :: m => app (x.eqs ρ y) (eqsC ρ l m)
  | _, _ => [False]
def TV.eqs (ρ : List (Nat × Nat)) : TV → TV → List Prop
  | .c x, .c y => x.eqs ρ y
  | .agg l, .agg m => eqsC ρ l m
  | _, _ => [False]
def eqsT (ρ : List (Nat × Nat)) : List TV → List TV → List Prop
  | [], [] => []
  | x :: l, y :: m => app (x.eqs ρ y) (eqsT ρ l m)
  | _, _ => [False]
def SV.eqs (ρ : List (Nat × Nat)) : SV → SV → List Prop
  | .t x, .t y => x.eqs ρ y
  | .tup l, .tup m => eqsT ρ l m
  | _, _ => [False]
def e0 : Env := ⟨fun _ => 0, fun _ => uv, fun _ _ => False, fun _ => rfl⟩
def Ob.eqs (ρ : List (Nat × Nat)) : Ob → Ob → List Prop
  | .cells cs t, .cells cs' t' => same2 t t' (eqsC ρ cs cs')
  | .row xs t, .row xs' t' => same2 t t' [xs = xs']
  | .rd s l xs, .rd s' l' xs' => [s = s', l = l', xs = xs']
  | .own t s l xs, .own t' s' l' xs' => same2 t t' [s = s', l = l', xs = xs']
  | .ab φ, .ab φ' => [φ = φ']
  | .mp m, .mp m' => [m = m']
  | .pin m x, .pin m' x' => same2 m (Vc.ren ρ m') [x = x']
  | .cells cs t, .row xs' t' => same2 t t' [xs' = cs.map (CV.den e0), flatN (cs.map CV.ns) = []]
  | .own _ s l xs, .rd s' l' xs' => [s = s', l = l', xs = xs']
  | _, _ => [False]
theorem same2_ok {a b : Nat} {l : List Prop} (h : allP (same2 a b l)) : a = b ∧ allP l := by
  unfold same2 at h
  split at h
  · rename_i hb
    exact ⟨(beq_nat a b).1 hb, h⟩
  · exact h.1.elim
theorem capsE_ok {e : Env} {ρ : List (Nat × Nat)} : ∀ {l m : List (Nat × Nat)}, allP (capsE ρ l m) → l.map (fun (x : Nat × Nat) => Value.pointer (some ⟨e.blk x.1, x.2, none⟩)) = m.map (fun (x : Nat × Nat) => Value.pointer (some ⟨(e.ren ρ).blk x.1, x.2, none⟩))
  | [], [], _ => rfl
  | (n, o) :: l, (m, q) :: l', h => by
    obtain ⟨h1, h2, h3⟩ := same2_ok (h : allP (same2 n (Vc.ren ρ m) ((o = q) :: capsE ρ l l')))
    subst h1 h2
    rw [List.map_cons, List.map_cons, capsE_ok h3]
    rfl
  | [], _ :: _, h => h.1.elim
  | _ :: _, [], h => h.1.elim
theorem CV.eqs_ok {e : Env} {ρ : List (Nat × Nat)} {v v' : CV} (h : allP (v.eqs ρ v')) : v.den e = v'.den (e.ren ρ) := by
  cases v <;> cases v' <;> first | exact h.1.elim | skip
  case i.i k x k' x' =>
    unfold CV.eqs at h
    cases k <;> cases k' <;> first | exact h.1.elim | (have h1 : x = x' := h.1; rw [h1]; rfl)
  case b.b x x' => have h1 : x = x' := h.1; rw [h1]; rfl
  case s.s x x' => have h1 : x = x' := h.1; rw [h1]; rfl
  case p.p n o n' o' =>
    obtain ⟨h1, h2, _⟩ := same2_ok (h : allP (same2 n (Vc.ren ρ n') [o = o']))
    subst h1 h2; rfl
  case np.np => rfl
  case sl.sl n o l c n' o' l' c' =>
    obtain ⟨h1, h2, h3, h4, _⟩ := same2_ok (h : allP (same2 n (Vc.ren ρ n') [o = o', l = l', c = c']))
    subst h1 h2 h3 h4; rfl
  case nsl.nsl => rfl
  case nm.nm n n' =>
    obtain ⟨h1, _⟩ := same2_ok (h : allP (same2 n (Vc.ren ρ n') []))
    subst h1; rfl
  case el.el n j n' j' =>
    obtain ⟨h1, h2, _⟩ := same2_ok (h : allP (same2 n (Vc.ren ρ n') [j = j']))
    subst h1 h2; rfl
  case sub.sub n o k l n' o' k' l' =>
    obtain ⟨h1, h2, h3, h4, _⟩ := same2_ok (h : allP (same2 n (Vc.ren ρ n') [o = o', k = k', l = l']))
    subst h1 h2 h3 h4; rfl
  case mp.mp n n' =>
    obtain ⟨h1, _⟩ := same2_ok (h : allP (same2 n (Vc.ren ρ n') []))
    subst h1; rfl
  case nmp.nmp => rfl
  case fn.fn f c f' c' =>
    have h1 : f = f' := h.1
    subst h1
    have := capsE_ok (e := e) h.2
    simp only [CV.den]
    rw [this]
  case raw.raw x x' => have h1 : x = x' := h.1; rw [h1]; rfl
theorem eqsC_ok {e : Env} {ρ : List (Nat × Nat)} : ∀ {l m : List CV}, allP (eqsC ρ l m) → l.map (CV.den e) = m.map (CV.den (e.ren ρ))
  | [], [], _ => rfl
  | x :: l, y :: m, h => by
    have h' := allP_app.1 (h : allP (app (x.eqs ρ y) (eqsC ρ l m)))
    rw [List.map_cons, List.map_cons, CV.eqs_ok h'.1, eqsC_ok h'.2]
  | [], _ :: _, h => h.1.elim
  | _ :: _, [], h => h.1.elim
theorem TV.eqs_ok {e : Env} {ρ : List (Nat × Nat)} : ∀ {v v' : TV}, allP (v.eqs ρ v') → v.den e = v'.den (e.ren ρ)
  | .c _, .c _, h => CV.eqs_ok h
  | .agg l, .agg m, h => by simp only [TV.den, eqsC_ok (e := e) (l := l) (m := m) h]
  | .c _, .agg _, h => h.1.elim
  | .agg _, .c _, h => h.1.elim
theorem eqsT_ok {e : Env} {ρ : List (Nat × Nat)} : ∀ {l m : List TV}, allP (eqsT ρ l m) → l.map (TV.den e) = m.map (TV.den (e.ren ρ))
  | [], [], _ => rfl
  | x :: l, y :: m, h => by
    have h' := allP_app.1 (h : allP (app (x.eqs ρ y) (eqsT ρ l m)))
    rw [List.map_cons, List.map_cons, TV.eqs_ok h'.1, eqsT_ok h'.2]
  | [], _ :: _, h => h.1.elim
  | _ :: _, [], h => h.1.elim
theorem SV.eqs_ok {e : Env} {ρ : List (Nat × Nat)} {v v' : SV} (h : allP (v.eqs ρ v')) : v.den e = v'.den (e.ren ρ) := by
  cases v <;> cases v' <;> first | exact h.1.elim | skip
  case t.t x y => exact TV.eqs_ok h
  case tup.tup l m => simp only [SV.den, eqsT_ok (e := e) (l := l) (m := m) h]
theorem Ob.eqs_ok {e : Env} {ρ : List (Nat × Nat)} {o o' : Ob} {n : Nat} {w : World} (h : allP (o.eqs ρ o')) (hh : o.holds e (Vc.ren ρ n) w) : o'.holds (e.ren ρ) n w := by
  cases o <;> cases o' <;> first | exact h.1.elim | skip
  case cells.cells cs t cs' t' =>
    obtain ⟨h1, h2⟩ := same2_ok (h : allP (same2 t t' (eqsC ρ cs cs')))
    subst h1
    refine ⟨hh.1, ?_⟩
    rw [← eqsC_ok h2]
    exact hh.2
  case row.row xs t xs' t' =>
    obtain ⟨h1, h2, _⟩ := same2_ok (h : allP (same2 t t' [xs = xs']))
    subst h1 h2
    exact hh
  case rd.rd s l xs s' l' xs' =>
    obtain ⟨h1, h2, h3, _⟩ := h
    subst h1 h2 h3
    exact hh
  case own.own t s l xs t' s' l' xs' =>
    obtain ⟨h1, h2, h3, h4, _⟩ := same2_ok (h : allP (same2 t t' [s = s', l = l', xs = xs']))
    subst h1 h2 h3 h4
    exact hh
  case ab.ab φ φ' =>
    have h1 : φ = φ' := h.1
    subst h1
    exact hh
  case mp.mp m m' =>
    have h1 : m = m' := h.1
    subst h1
    exact hh
  case pin.pin m x m' x' =>
    obtain ⟨h1, h2, _⟩ := same2_ok (h : allP (same2 m (Vc.ren ρ m') [x = x']))
    subst h1 h2
    exact hh
  case cells.row cs t xs' t' =>
    obtain ⟨h1, h2, h3, _⟩ := same2_ok (h : allP (same2 t t' [xs' = cs.map (CV.den e0), flatN (cs.map CV.ns) = []]))
    subst h1 h2
    refine ⟨hh.1, ?_⟩
    have := hh.2
    rwa [cells_same (e := e0) (e' := e) fun n hn => by rw [h3] at hn; cases hn] at this
  case own.rd t s l xs s' l' xs' =>
    obtain ⟨h1, h2, h3, _⟩ := (h : allP [s = s', l = l', xs = xs'])
    subst h1 h2 h3
    obtain ⟨hown, hfp⟩ := hh
    rcases hown.2 with ⟨hv, h0⟩ | ⟨g, cap, cur, hv, _, hg, q1, q2, q3⟩
    · have hx : xs = [] := List.eq_nil_of_length_eq_zero (by rw [hown.1, h0]; simp)
      subst h0 hx
      exact ⟨none, 0, hv, ⟨by simp, Nat.le_refl _, by decide, fun _ => rfl, fun j u hu => by simp at hu⟩, fun a ha _ => by cases ha⟩
    · refine ⟨some ⟨g, 0, none⟩, cap, hv, ⟨hown.1, q1, q2, fun h => (by cases h), fun j u hu => ⟨_, rfl, hown.cells (g := g) (by rw [hv]; rfl) j u hu⟩⟩, fun a ha _ => ?_⟩
      cases ha
      exact (hfp g).2 (by rw [hv]; rfl)

def subL (ρ : List (Nat × Nat)) (L : LL) : LL → List Prop
  | [] => []
  | (t, v') :: l => match look t L with
    | some v => app (v.eqs ρ v') (subL ρ L l)
    | none => [False]
def leB : Bool → Bool → Bool
  | true, _ => true
  | false, b => match b with
    | true => false
    | false => true
def subH (ρ : List (Nat × Nat)) (H : HL) : HL → List Prop
  | [] => []
  | (_, none) :: l => subH ρ H l
  | (n, some (b', o')) :: l => match lookH H (Vc.ren ρ n) with
    | some (b, o) => match leB b b' with
      | true => app (o.eqs ρ o') (subH ρ H l)
      | false => [False]
    | none => [False]
def keysH : HL → List Nat
  | [] => []
  | (n, _) :: l => n :: keysH l
def injK (ρ : List (Nat × Nat)) : List Nat → List Nat → Bool
  | [], _ => true
  | n :: l, seen => match inL (Vc.ren ρ n) seen with
    | true => false
    | false => injK ρ l (Vc.ren ρ n :: seen)
theorem subL_ok {e : Env} {ρ : List (Nat × Nat)} {L : LL} : ∀ {L' : LL}, allP (subL ρ L L') → ∀ t v', look t L' = some v' → ∃ v, look t L = some v ∧ v.den e = v'.den (e.ren ρ)
  | [], _, t, v', h => by cases h
  | (d, u) :: l, hp, t, v', h => by
    unfold subL at hp
    split at hp
    · rename_i v hv
      rw [allP_app] at hp
      rw [look_cons] at h
      split at h
      · rename_i e'
        cases h
        subst e'
        exact ⟨v, hv, SV.eqs_ok hp.1⟩
      · exact subL_ok hp.2 t v' h
    · exact hp.1.elim
theorem subH_ok {e : Env} {ρ : List (Nat × Nat)} {H : HL} {w : World} : ∀ {H' : HL}, allP (subH ρ H H') → ∀ n b' o', lookH H' n = some (b', o') → ∃ b o, lookH H (Vc.ren ρ n) = some (b, o) ∧ (b' = true → b = true) ∧ (o.holds e (Vc.ren ρ n) w → o'.holds (e.ren ρ) n w)
  | [], _, n, b', o', h => by cases h
  | (d, none) :: l, hp, n, b', o', h => by
    rw [lookH_cons] at h
    split at h
    · cases h
    · exact subH_ok (H' := l) hp n b' o' h
  | (d, some (c', q')) :: l, hp, n, b', o', h => by
    unfold subH at hp
    split at hp
    · rename_i b o hb
      split at hp
      · rename_i hle
        rw [allP_app] at hp
        rw [lookH_cons] at h
        split at h
        · rename_i e'
          cases h
          subst e'
          refine ⟨b, o, hb, ?_, Ob.eqs_ok hp.1⟩
          intro hb'
          subst hb'
          cases b
          · cases hle
          · rfl
        · exact subH_ok hp.2 n b' o' h
      · exact hp.1.elim
    · exact hp.1.elim
theorem injK_ok {ρ : List (Nat × Nat)} : ∀ {l seen : List Nat}, injK ρ l seen = true → (∀ n ∈ l, Vc.ren ρ n ∉ seen) ∧ ∀ n ∈ l, ∀ m ∈ l, n ≠ m → Vc.ren ρ n ≠ Vc.ren ρ m
  | [], _, _ => by simp
  | k :: l, seen, h => by
    unfold injK at h
    split at h
    · cases h
    · rename_i hk
      obtain ⟨h1, h2⟩ := injK_ok h
      refine ⟨fun n hn => ?_, fun n hn m hm hne => ?_⟩
      · rcases List.mem_cons.1 hn with rfl | hn
        · exact inL_iff hk
        · exact fun hs => h1 n hn (List.mem_cons.2 (.inr hs))
      · rcases List.mem_cons.1 hn with e1 | hn' <;> rcases List.mem_cons.1 hm with e2 | hm'
        · exact absurd (e1.trans e2.symm) hne
        · exact fun e => h1 m hm' (by rw [← e, e1]; simp)
        · exact fun e => h1 n hn' (by rw [e, e2]; simp)
        · exact h2 n hn' m hm' hne
theorem keysH_mem {n : Nat} {x : Bool × Ob} : ∀ {H : HL}, lookH H n = some x → n ∈ keysH H
  | [], h => by cases h
  | (m, y) :: l, h => by
    rw [lookH_cons] at h
    split at h
    · rename_i e; subst e; simp [keysH]
    · exact List.mem_cons.2 (.inr (keysH_mem h))
/-- Told less, and by other names. -/
theorem Sat.sub {F : Frm} {L L' : LL} {H H' : HL} {e : Env} {a : Act} {w : World} (ρ : List (Nat × Nat)) (S : Sat F (fun t => look t L) (lookH H) e a w) (hL : allP (subL ρ L L')) (hH : allP (subH ρ H H')) (hi : injK ρ (keysH H') [] = true) :
    Sat F (fun t => look t L') (lookH H') (e.ren ρ) a w := by
  refine ⟨S.fr, S.sz, S.df, fun t v' h => ?_, fun n b' o' h => ?_, fun n o' m c' q' h h' hne => ?_⟩
  · obtain ⟨v, h1, h2⟩ := subL_ok (e := e) hL t v' h
    rw [S.sl t v h1, h2]
  · obtain ⟨b, o, h1, h2, h3⟩ := subH_ok (e := e) (w := w) hH n b' o' h
    obtain ⟨g1, g2⟩ := S.ob _ b o h1
    exact ⟨h3 g1, fun g hg => ⟨(g2 g hg).1, fun hb => (g2 g hg).2 (h2 hb)⟩⟩
  · obtain ⟨b, o, h1, h2, _⟩ := subH_ok (e := e) (w := w) hH n true o' h
    obtain ⟨c, q, h3, h4, _⟩ := subH_ok (e := e) (w := w) hH m c' q' h'
    have hb := h2 rfl
    subst hb
    exact S.dj _ o _ c q h1 h3 ((injK_ok hi).2 n (keysH_mem h) m (keysH_mem h') hne)

/-- A loop: what holds at its head, for each x; a measure that each round lowers. -/
def roundQ {X : Type} (P : Program) (F : Frm) (Q : Exit → Act → World → Prop) (ks : List KI) (μ : X → Nat) (Lx : X → LL) (Hx : X → HL) (x : X) : Exit → Act → World → Prop :=
  Exit.then (fun a w => ∃ x' e, μ x' < μ x ∧ Sat F (fun t => look t (Lx x')) (lookH (Hx x')) e a w) (post P Q ks)
theorem At.loop {P : Program} {F : Frm} {Q : Exit → Act → World → Prop} {body : Code} {ks : List KI} {L : LL} {H : HL} {nx0 : Nat} {X : Type} (nx : Nat) (μ : X → Nat) (Lx : X → LL) (Hx : X → HL) (x0 : X) (ρ : List (Nat × Nat)) (hW : ∀ x, WF (Lx x) (Hx x) nx)
    (hL : allP (subL ρ L (Lx x0))) (hH : allP (subH ρ H (Hx x0))) (hi : injK ρ (keysH (Hx x0)) [] = true)
    (hr : ∀ x, At P F (roundQ P F Q ks μ Lx Hx x) body [] (Lx x) (Hx x) nx) : At P F Q (.loop body) ks L H nx0 := by
  refine ⟨fun _ e a w S => ?_⟩
  have key : ∀ n x e a w, μ x = n → Sat F (fun t => look t (Lx x)) (lookH (Hx x)) e a w → ∀ (b : Frame) (k : List Item) (cs : List Frame), ∃ ex a' w', post P Q ks ex a' w' ∧ Arrives P (lone (b.at a (.code body :: .inLoop body :: k)) cs w) b k cs ex a' w' := by
    intro n
    induction n using Nat.strongRecOn with
    | _ n ih =>
      intro x e a w hn S b k cs
      obtain ⟨ex, a1, w1, hq, harr⟩ := (hr x).h (hW x) e a w S b (.inLoop body :: k) cs
      cases ex with
      | normal =>
        obtain ⟨x', e', hlt, S'⟩ := hq
        obtain ⟨e2, a2, w2, hq2, harr2⟩ := ih (μ x') (by omega) x' e' a1 w1 rfl S' b k cs
        exact ⟨e2, a2, w2, hq2, .of_steps (Steps.trans harr (.one step_inLoop)) harr2⟩
      | exit id => exact ⟨_, a1, w1, hq, .pass (x := .inLoop body) rfl (fun _ _ => .inl (by simp)) harr⟩
      | goto l => exact ⟨_, a1, w1, hq, .pass (x := .inLoop body) rfl (fun _ _ => .inl (by simp)) harr⟩
      | ret => exact ⟨_, a1, w1, hq, .pass (x := .inLoop body) rfl (fun _ _ => .inl (by simp)) harr⟩
      | panic ch => exact ⟨_, a1, w1, hq, .pass (x := .inLoop body) rfl (fun _ _ => .inl (by simp)) harr⟩
      | outgrown => exact ⟨_, a1, w1, hq, .pass (x := .inLoop body) rfl (fun _ _ => .inl (by simp)) harr⟩
  intro b k cs
  obtain ⟨ex, a', w', hq, harr⟩ := key _ x0 (e.ren ρ) a w rfl (S.sub ρ hL hH hi) b k cs
  exact ⟨ex, a', w', hq, .of_steps (.one step_loop) harr⟩
end Vc
namespace Vc
open Go Go.RowKit

/-- Behind a piece of text that ended as it should. -/
structure Aft (P : Program) (F : Frm) (Q : Exit → Act → World → Prop) (ks : List KI) (L : LL) (H : HL) (nx : Nat) : Prop where
  h : WF L H nx → ∀ e a w, Sat F (fun t => look t L) (lookH H) e a w → post P Q ks .normal a w
theorem Aft.run {P : Program} {F : Frm} {Q : Exit → Act → World → Prop} {ks : List KI} {L : LL} {H : HL} {nx : Nat} {st : Stp} (orc : List (Nat × Orc)) (f : Nat) (hst : Sound P st) (hm : P.follows .mixedOrders = true) {rk : RK} {L' : LL} {H' : HL} {nx' : Nat} {ps : List Prop}
    (h : Vc.run st orc F.N f .skip ks L H nx [] = some (rk, ⟨L', H', nx'⟩, ps)) (hp : allP ps) (hg : Goal P F Q rk L' H' nx') : Aft P F Q ks L H nx :=
  ⟨fun hW e a w S => ((run_both hst hm hp (fun _ => hg.s) f).1 ks L H nx [] h hW).2 e a w S⟩
theorem roundEnd {X : Type} {P : Program} {F : Frm} {Q : Exit → Act → World → Prop} {ks : List KI} {μ : X → Nat} {Lx : X → LL} {Hx : X → HL} {x : X} {L : LL} {H : HL} {nx : Nat} (x' : X) (ρ : List (Nat × Nat)) (hμ : μ x' < μ x)
    (hL : allP (subL ρ L (Lx x'))) (hH : allP (subH ρ H (Hx x'))) (hi : injK ρ (keysH (Hx x')) [] = true) : Done F (roundQ P F Q ks μ Lx Hx x .normal) L H nx :=
  ⟨fun _ e _ _ S => ⟨x', e.ren ρ, hμ, S.sub ρ hL hH hi⟩⟩
theorem roundExit {X : Type} {P : Program} {F : Frm} {Q : Exit → Act → World → Prop} {ks ks' : List KI} {μ : X → Nat} {Lx : X → LL} {Hx : X → HL} {x : X} {L : LL} {H : HL} {nx id : Nat} (hk : pop id ks = some ks') (h : Aft P F Q ks' L H nx) : Done F (roundQ P F Q ks μ Lx Hx x (.exit id)) L H nx :=
  ⟨fun hW e _ _ S => post_pop hk (h.h hW e _ _ S)⟩
theorem roundRet {X : Type} {P : Program} {F : Frm} {Q : Exit → Act → World → Prop} {ks : List KI} {μ : X → Nat} {Lx : X → LL} {Hx : X → HL} {x : X} {L : LL} {H : HL} {nx : Nat} (h : Done F (Q .ret) L H nx) : Done F (roundQ P F Q ks μ Lx Hx x .ret) L H nx :=
  ⟨fun hW e a w S => post_ret (ks := ks) (h.h hW e a w S)⟩

/-- Ways that meet again: what holds there, for some z. -/
def cutQ {Z : Type} (P : Program) (F : Frm) (Q : Exit → Act → World → Prop) (ks : List KI) (Lz : Z → LL) (Hz : Z → HL) : Exit → Act → World → Prop :=
  Exit.then (fun a w => ∃ z e, Sat F (fun t => look t (Lz z)) (lookH (Hz z)) e a w) (post P Q ks)
theorem At.cut {Z : Type} {P : Program} {F : Frm} {Q : Exit → Act → World → Prop} {c : Code} {ks : List KI} {L : LL} {H : HL} {nx : Nat} (nz : Nat) (Lz : Z → LL) (Hz : Z → HL) (hW : ∀ z, WF (Lz z) (Hz z) nz)
    (h : At P F (cutQ P F Q ks Lz Hz) c [] L H nx) (hr : ∀ z, Aft P F Q ks (Lz z) (Hz z) nz) : At P F Q c ks L H nx :=
  ⟨fun hW0 e a w S => wp_mono (h.h hW0 e a w S) fun ex a w hq => by
    cases ex with
    | normal =>
      obtain ⟨z, e', S'⟩ := hq
      exact (hr z).h (hW z) e' a w S'
    | exit id => exact hq
    | goto l => exact hq
    | ret => exact hq
    | panic ch => exact hq
    | outgrown => exact hq⟩
theorem cutEnd {Z : Type} {P : Program} {F : Frm} {Q : Exit → Act → World → Prop} {ks : List KI} {Lz : Z → LL} {Hz : Z → HL} {L : LL} {H : HL} {nx : Nat} (z : Z) (ρ : List (Nat × Nat))
    (hL : allP (subL ρ L (Lz z))) (hH : allP (subH ρ H (Hz z))) (hi : injK ρ (keysH (Hz z)) [] = true) : Done F (cutQ P F Q ks Lz Hz .normal) L H nx :=
  ⟨fun _ e _ _ S => ⟨z, e.ren ρ, S.sub ρ hL hH hi⟩⟩
theorem cutExit {Z : Type} {P : Program} {F : Frm} {Q : Exit → Act → World → Prop} {ks ks' : List KI} {Lz : Z → LL} {Hz : Z → HL} {L : LL} {H : HL} {nx id : Nat} (hk : pop id ks = some ks') (h : Aft P F Q ks' L H nx) : Done F (cutQ P F Q ks Lz Hz (.exit id)) L H nx :=
  ⟨fun hW e _ _ S => post_pop hk (h.h hW e _ _ S)⟩
def argsL : Nat → List SV → LL
  | _, [] => []
  | k, v :: l => (k, v) :: argsL (k + 1) l
theorem look_argsL (t : Nat) : ∀ (vs : List SV) (k : Nat), look t (argsL k vs) = if k ≤ t then vs[t - k]? else none
  | [], k => by simp [argsL, look]
  | v :: l, k => by
    rw [argsL, look_cons, look_argsL t l]
    by_cases h : t = k
    · subst h; simp
    · by_cases h2 : k ≤ t
      · rw [if_neg h, if_pos h2, if_pos (by omega), show t - k = (t - (k + 1)) + 1 by omega, List.getElem?_cons_succ]
      · rw [if_neg h, if_neg h2, if_neg (by omega)]
/-- What is known of the memory at a call. -/
structure Mem (W : Nat → Prop) (H : HL) (e : Env) (w : World) : Prop where
  ob : ∀ n b o, lookH H n = some (b, o) → o.holds e n w ∧ ∀ g, e.fp n g → g < w.heap.size ∧ (b = true → W g)
  dj : ∀ n o m c q, lookH H n = some (true, o) → lookH H m = some (c, q) → n ≠ m → ∀ g, e.fp n g → ¬ e.fp m g
theorem call_at {P : Program} {f : FuncId} {fn : Func} {c : Code} (N : Nat) (hf : P.funcs[f]? = some fn) (hb : fn.body = some c) (hN : fn.ntmps = N) (vs : List SV) (e : Env) (H : HL) (nx : Nat) (W : Nat → Prop) {w : World} {R : Ending → World → Prop}
    (hl : vs.length ≤ N) (hW : WF (argsL 0 vs) H nx) (hM : Mem W H e w) (hg : At P ⟨w, W, N⟩ (bodyPost P fn R) c [] (argsL 0 vs) H nx) : Calls P f (vs.map (SV.den e)).toArray w R := by
  refine calls_of_wp hf hb ?_
  refine hg.h hW e _ w ⟨⟨rfl, rfl, rfl, Nat.le_refl _, fun _ _ _ => rfl⟩, ?_, rfl, fun t v h => ?_, fun n b o h => ?_, fun n o m c q h h' => hM.dj n o m c q h h'⟩
  · simp only [Array.size_append, List.size_toArray, List.length_map, Array.size_replicate]
    omega
  · rw [look_argsL, if_pos (Nat.zero_le _), Nat.sub_zero] at h
    have hlt : t < vs.length := by
      rcases Nat.lt_or_ge t vs.length with h1 | h1
      · exact h1
      · rw [List.getElem?_eq_none h1] at h; cases h
    rw [slot_get]
    simp only
    rw [Array.getElem?_append_left (by simpa using hlt)]
    simp [h]
  · obtain ⟨h1, h2⟩ := hM.ob n b o h
    exact ⟨h1, fun g hg => ⟨(h2 g hg).1, fun hb => .inr ((h2 g hg).2 hb)⟩⟩
theorem Keeps.below {w0 w : World} {N : Nat} (h : Keeps ⟨w0, fun _ => False, N⟩ w) : Below w0.heap.size w0 w := ⟨h.os, h.tape, h.out, h.size, fun k hk => h.block k hk id⟩

/-- Types, as far as the walk asks. -/
inductive TyD where
  | int (k : IntKind)
  | str
  | bool
  | ptr
  | slice (e : TypeId)
  | arr (n : Nat) (e : TypeId)
  | struct (fs : List (Nat × TypeId))
  | map (k e : TypeId)
  | fnc
  | ifc
structure Ty where
  d : TyD
  size : Nat
  bytes : Nat
  zero : List CV
  eqb : Bool
def TyD.agg : TyD → Bool
  | .arr .. | .struct _ => true
  | _ => false
def TyD.is : TyD → TypeDesc → Prop
  | .int k, d => d = .int k
  | .str, d => d = .string
  | .bool, d => d = .bool
  | .ptr, d => ∃ e, d = .pointer e
  | .slice e, d => d = .slice e
  | .arr n e, d => d = .array n e
  | .struct fs, d => ∃ fields : Array Field, d = .struct fields ∧ fields.toList.map (fun f => (f.offset, f.type)) = fs
  | .map k e, d => d = .map k e
  | .fnc, d => ∃ a b c, d = .func a b c
  | .ifc, d => ∃ ms, d = .interface ms
/-- A zero value out of its cells. -/
def zVal (agg : Bool) (cs : List Value) : Value := match agg with
  | true => .agg cs.toArray
  | false => cs.headD undef
def zShape : Bool → Value → Bool
  | true, .agg _ => true
  | true, _ => false
  | false, .agg _ => false
  | false, _ => true
theorem zShape_ok {b : Bool} {z : Value} (h : zShape b z = true) : z = zVal b z.cells.toList := by
  cases b <;> cases z <;> first | (cases h; done) | rfl
structure TyOk (P : Program) (t : TypeId) (I : Ty) : Prop where
  und : ∃ d, P.underlying t = some d ∧ I.d.is d
  info : ∃ i z, P.info? t = some i ∧ i.size = I.size ∧ i.bytes = I.bytes ∧ i.zero = some z ∧ z.cells.toList = I.zero.map (CV.den e0)
  zv : ∃ i, P.info? t = some i ∧ i.zero = some (zVal I.d.agg (I.zero.map (CV.den e0)))
  zlen : I.zero.length = I.size
  zns : flatN (I.zero.map CV.ns) = []
  eqs : I.eqb = true → P.stoodInHeld t = false ∧ P.eqGuardType P.depth t = false ∧ ∀ fields : Array Field, P.underlying t = some (.struct fields) → ∀ f ∈ fields.toList, f.name ≠ "_"
def TyD.isB : TyD → TypeDesc → Bool
  | .int k, .int k' => kindB k k'
  | .str, .string => true
  | .bool, .bool => true
  | .ptr, .pointer _ => true
  | .slice e, .slice e' => Nat.beq e e'
  | .arr n e, .array n' e' => Nat.beq n n' && Nat.beq e e'
  | .struct fs, .struct fields => fields.toList.map (fun f => (f.offset, f.type)) == fs
  | .map k e, .map k' e' => Nat.beq k k' && Nat.beq e e'
  | .fnc, .func _ _ _ => true
  | .ifc, .interface _ => true
  | _, _ => false
def zB : Value → CV → Bool
  | .int k x, .i k' x' => match kindB k k' with
    | true => x == x'
    | false => false
  | .bool x, .b x' => x == x'
  | .string ⟨x⟩, .s ⟨x'⟩ => x == x'
  | .pointer none, .np => true
  | .slice none 0 0, .nsl => true
  | .map none, .nmp => true
  | .nilIface, .raw .nilIface => true
  | .nilFunc, .raw .nilFunc => true
  | _, _ => false
def zeroB : List Value → List CV → Bool
  | [], [] => true
  | v :: l, c :: m => match zB v c with
    | true => zeroB l m
    | false => false
  | _, _ => false
theorem kindB_ok {k k' : IntKind} (h : kindB k k' = true) : k = k' := by cases k <;> cases k' <;> first | rfl | cases h
theorem TyD.isB_ok {d : TyD} {d' : TypeDesc} (h : d.isB d' = true) : d.is d' := by
  cases d <;> cases d' <;> first | (cases h; done) | skip
  case int.int k k' => have := kindB_ok h; subst this; rfl
  case str.string => rfl
  case bool.bool => rfl
  case ptr.pointer e => exact ⟨e, rfl⟩
  case slice.slice e e' => have := (beq_nat e e').1 h; subst this; rfl
  case arr.array n e n' e' =>
    simp only [TyD.isB, Bool.and_eq_true, beq_nat] at h
    obtain ⟨rfl, rfl⟩ := h; rfl
  case struct.struct fs fields => exact ⟨fields, rfl, by simpa [TyD.isB] using h⟩
  case map.map k e k' e' =>
    simp only [TyD.isB, Bool.and_eq_true, beq_nat] at h
    obtain ⟨rfl, rfl⟩ := h; rfl
  case fnc.func a b c => exact ⟨a, b, c, rfl⟩
  case ifc.interface ms => exact ⟨ms, rfl⟩
theorem zB_ok {v : Value} {c : CV} (h : zB v c = true) : v = c.den e0 := by
  unfold zB at h
  split at h
  · split at h
    · rename_i hk
      have := kindB_ok hk
      subst this
      have := eq_of_beq h
      subst this
      rfl
    · cases h
  · have := eq_of_beq h
    subst this
    rfl
  · have := eq_of_beq h
    subst this
    rfl
  all_goals first | rfl | cases h
theorem zeroB_ok : ∀ {l : List Value} {m : List CV}, zeroB l m = true → l = m.map (CV.den e0)
  | [], [], _ => rfl
  | [], _ :: _, h => by cases h
  | _ :: _, [], h => by cases h
  | v :: l, c :: m, h => by
    unfold zeroB at h
    split at h
    · rename_i hz
      rw [zB_ok hz, zeroB_ok h]
      rfl
    · cases h
def natsB : List Nat → Bool
  | [] => true
  | _ :: _ => false
/-- A type as it is told, held against the program. -/
def tyB (P : Program) (x : Nat × Ty) : Bool :=
  match P.underlying x.1, P.info? x.1 with
  | some d, some i => match i.zero with
    | some z => x.2.d.isB d && zShape x.2.d.agg z && Nat.beq i.size x.2.size && Nat.beq i.bytes x.2.bytes && zeroB z.cells.toList x.2.zero && Nat.beq x.2.zero.length x.2.size && natsB (flatN (x.2.zero.map CV.ns)) && (!x.2.eqb || (!P.stoodInHeld x.1 && !P.eqGuardType P.depth x.1 && (match d with | .struct fields => fields.toList.all (fun f => f.name != "_") | _ => true)))
    | none => false
  | _, _ => false
def tysB (P : Program) : List (Nat × Ty) → Bool
  | [] => true
  | x :: l => match tyB P x with
    | true => tysB P l
    | false => false
theorem tyB_ok {P : Program} {t : TypeId} {I : Ty} (h : tyB P (t, I) = true) : TyOk P t I := by
  unfold tyB at h
  simp only at h
  split at h
  · rename_i d i hd hi
    split at h
    · rename_i z hz
      simp only [Bool.and_eq_true, beq_nat] at h
      obtain ⟨⟨⟨⟨⟨⟨⟨h1, h0⟩, h2⟩, h3⟩, h4⟩, h5⟩, h6⟩, h7⟩ := h
      refine ⟨⟨d, hd, TyD.isB_ok h1⟩, ⟨i, z, hi, h2, h3, hz, zeroB_ok h4⟩, ⟨i, hi, by rw [hz, ← zeroB_ok h4, ← zShape_ok h0]⟩, h5, ?_, fun he => ?_⟩
      rotate_left
      · rw [he] at h7
        simp only [Bool.not_true, Bool.false_or, Bool.and_eq_true, Bool.not_eq_true'] at h7
        refine ⟨h7.1.1, h7.1.2, fun fields hf f hm => ?_⟩
        rw [hd] at hf
        cases hf
        have := List.all_eq_true.1 h7.2 f hm
        simpa using this
      cases hf : flatN (I.zero.map CV.ns) with
      | nil => rfl
      | cons a b => rw [hf] at h6; cases h6
    · cases h
  · cases h
def TysOk (P : Program) (tys : List (Nat × Ty)) : Prop := ∀ t I, look t tys = some I → TyOk P t I
theorem tysB_ok {P : Program} : ∀ {l : List (Nat × Ty)}, tysB P l = true → TysOk P l
  | [], _, t, I, h => by cases h
  | (d, J) :: l, hb, t, I, h => by
    unfold tysB at hb
    split at hb
    · rename_i h1
      rw [look_cons] at h
      split at h
      · rename_i e
        cases h
        subst e
        exact tyB_ok h1
      · exact tysB_ok hb t I h
    · cases hb
end Vc
namespace Vc
open Go Go.RowKit

def ofC : Value → CV
  | .int k x => .i k x
  | .bool x => .b x
  | .string x => .s x
  | .pointer none => .np
  | .slice none 0 0 => .nsl
  | .map none => .nmp
  | v => .raw v
def ofConst : Value → TV
  | .agg cs => .agg (cs.toList.map ofC)
  | v => .c (ofC v)
theorem ofC_den (e : Env) (v : Value) : (ofC v).den e = v := by
  unfold ofC
  split <;> rfl
theorem ofConst_den (e : Env) (v : Value) : (ofConst v).den e = v := by
  unfold ofConst
  split
  · rename_i cs
    simp only [TV.den, List.map_map]
    have : (cs.toList.map (CV.den e ∘ ofC)) = cs.toList := by
      conv => rhs; rw [← List.map_id cs.toList]
      exact List.map_congr_left fun x _ => ofC_den e x
    rw [this]
  · exact ofC_den e v
def evS (L : LL) : Operand → Option SV
  | .tmp t => look t L
  | .const v => some (.t (ofConst v))
  | .func f => some (.t (.c (.fn (.func f) [])))
  | .global _ => none
def ev (L : LL) (x : Operand) : Option TV := match evS L x with
  | some (.t v) => some v
  | _ => none
theorem evS_ok {F : Frm} {L : LL} {H : HF} {e : Env} {a : Act} {w : World} (S : Sat F (fun t => look t L) H e a w) {x : Operand} {v : SV} (h : evS L x = some v) : a.eval x = v.den e := by
  cases x with
  | tmp t => exact S.sl t v h
  | const c => cases h; exact (ofConst_den e c).symm
  | func f => cases h; rfl
  | global g => cases h
theorem ev_ok {F : Frm} {L : LL} {H : HF} {e : Env} {a : Act} {w : World} (S : Sat F (fun t => look t L) H e a w) {x : Operand} {v : TV} (h : ev L x = some v) : a.eval x = v.den e := by
  unfold ev at h
  split at h
  · rename_i v' hv
    cases h
    exact evS_ok S hv
  · cases h
theorem wp_value {P : Program} {o : Oper} {a : Act} {w : World} {K : Act → World → Prop} {Q : Exit → Act → World → Prop} {v : Value} {w' : World} (h : (execOp a.eval o).run P w = .ok (.value v) w') (hK : K (a.put o.dst v) w') : o.wp P a w K Q := by
  unfold Oper.wp
  rw [h]
  exact hK
theorem wp_skipped {P : Program} {o : Oper} {a : Act} {w : World} {K : Act → World → Prop} {Q : Exit → Act → World → Prop} {w' : World} (h : (execOp a.eval o).run P w = .ok .skip w') (hK : K (a.put o.dst undef) w') : o.wp P a w K Q := by
  unfold Oper.wp
  rw [h]
  exact hK
theorem step_pure {P : Program} {F : Frm} {L : LF} {H : HF} {nx : Nat} {o : Oper} {v : SV} {obs : List Prop} (h : ∀ e a w, Sat F L H e a w → (execOp a.eval o).run P w = .ok (.value (v.den e)) w) : StepOK P F L H nx o ⟨v, [], [], obs⟩ :=
  fun _ e a w S _ _ hK => wp_value (h e a w S) (hK e w (Mv.refl _ _ _ _ _))

def one (v : CV) : Option Eff := some ⟨.t (.c v), [], [], []⟩
def oneP (v : CV) (ps : List Prop) : Option Eff := some ⟨.t (.c v), [], [], ps⟩

/-- Integers. -/
def cmp (op : BinOp) (k : IntKind) (x y : Int) : Option Eff := match op with
  | .add => one (.i k (k.wrap (x + y)))
  | .sub => one (.i k (k.wrap (x - y)))
  | .mul => one (.i k (k.wrap (x * y)))
  | .quo => oneP (.i k (k.wrap (x.tdiv y))) [y ≠ 0]
  | .rem => oneP (.i k (x.tmod y)) [y ≠ 0]
  | .and => one (.i k (k.wrap (BitVec.ofInt k.bits x &&& BitVec.ofInt k.bits y).toNat))
  | .or => one (.i k (k.wrap (BitVec.ofInt k.bits x ||| BitVec.ofInt k.bits y).toNat))
  | .xor => one (.i k (k.wrap (BitVec.ofInt k.bits x ^^^ BitVec.ofInt k.bits y).toNat))
  | .shl => oneP (.i k (k.wrap (x * 2 ^ min y.toNat k.bits))) [0 ≤ y]
  | .shr => oneP (.i k (x.fdiv (2 ^ min y.toNat k.bits))) [0 ≤ y]
  | .eql => one (.b (x == y))
  | .neq => one (.b (x != y))
  | .lss => one (.b (decide (x < y)))
  | .leq => one (.b (decide (x ≤ y)))
  | .gtr => one (.b (decide (y < x)))
  | .geq => one (.b (decide (y ≤ x)))
  | _ => none
def isShift : BinOp → Bool
  | .shl | .shr => true
  | _ => false
def binI (op : BinOp) (k : IntKind) (x : Int) (k' : IntKind) (y : Int) : Option Eff := match isShift op with
  | true => cmp op k x y
  | false => match kindB k k' with
    | true => cmp op k x y
    | false => none
theorem eqGuard_int {op : BinOp} {t : TypeId} {x y : Operand} {k : IntKind} {p : Int} {v : Value} {P : Program} {w : World} : (eqGuard op t x y (.int k p) v).run P w = .ok () w := by
  cases op <;> rfl
theorem cmp_ok {P : Program} {w : World} {op : BinOp} {T : TypeId} {k k' : IntKind} {x y : Int} {E : Eff} (h : binI op k x k' y = some E) (ho : allP E.obs) : E.news = [] ∧ E.upd = [] ∧ ∃ c : CV, E.v = .t (.c c) ∧ c.ns = [] ∧ ∀ e, (binOp op T (.int k x) (.int k' y)).run P w = .ok (c.den e) w := by
  unfold binI at h
  split at h
  · rename_i hs
    cases op <;> first | (cases hs; done) | skip
    all_goals
      cases h
      obtain ⟨h0, _⟩ := ho
      refine ⟨rfl, rfl, _, rfl, rfl, fun e => ?_⟩
      have : ¬ y < 0 := by omega
      simp [binOp, Op.shift, this, CV.den]
  · rename_i hs
    split at h
    · rename_i hk
      have := kindB_ok hk
      subst this
      cases op <;> first | (cases hs; done) | (cases h; done) | skip
      all_goals
        cases h
        refine ⟨rfl, rfl, _, rfl, rfl, fun e => ?_⟩
        first
          | simp [binOp, Op.intArith, Op.intCmp, Op.intBits, CV.den]; done
          | (have h0 : y ≠ 0 := ho.1
             simp [binOp, Op.intDiv, h0, CV.den])
    · cases h

/-- Texts. -/
def binS (op : BinOp) (x y : ByteArray) : Option Eff := match op with
  | .add => oneP (.s (x ++ y)) [x.size + y.size ≤ 9223372036854775807]
  | .eql => one (.b (x.toList == y.toList))
  | .neq => one (.b !(x.toList == y.toList))
  | _ => none
theorem eqGuard_str {op : BinOp} {t : TypeId} {x y : Operand} {p : ByteArray} {v : Value} {P : Program} {w : World} : (eqGuard op t x y (.string p) v).run P w = .ok () w := by
  cases op <;> rfl
theorem binS_ok {P : Program} {w : World} {op : BinOp} {T : TypeId} {x y : ByteArray} {E : Eff} (h : binS op x y = some E) (ho : allP E.obs) : E.news = [] ∧ E.upd = [] ∧ ∃ c : CV, E.v = .t (.c c) ∧ ∀ e, (binOp op T (.string x) (.string y)).run P w = .ok (c.den e) w := by
  cases op <;> first | (cases h; done) | skip
  all_goals
    cases h
    refine ⟨rfl, rfl, _, rfl, fun e => ?_⟩
  · have h0 : x.size + y.size ≤ 9223372036854775807 := ho.1
    have h1 : ¬ (((x.size + y.size : Nat) : Int) > IntKind.i64.max) := by
      have : IntKind.i64.max = 9223372036854775807 := by decide
      rw [this]; omega
    simp only [binOp, Op.stringOp, if_neg h1, CV.den]
    rfl
  · simp [binOp, Op.stringOp, CV.den]
  · simp [binOp, Op.stringOp, CV.den]
def unO (op : UnOp) (c : CV) : Option Eff := match op, c with
  | .not, .b x => one (.b !x)
  | .neg, .i k x => one (.i k (k.wrap (0 - x)))
  | _, _ => none
/-- One of two, by a test. -/
def pickV (cb : Bool) : TV → TV → Option CV
  | .c (.b x), .c (.b y) => some (.b (bif cb then x else y))
  | .c (.i k x), .c (.i k' y) => match kindB k k' with
    | true => some (.i k (bif cb then x else y))
    | false => none
  | .c (.s x), .c (.s y) => some (.s (bif cb then x else y))
  | _, _ => none
/-- An operand of a pick, where the test in temporary t is c and came out as pol. -/
def resP (L : LL) (t : Nat) (pol c : Bool) (x : Operand) : Option (TV × List Prop) := match evS L x with
  | some (.t v) => some (v, [])
  | some (.gd cs v) => match remC [(t, pol, c)] cs with
    | [] => some (v, eqC [(t, pol, c)] cs)
    | _ => none
  | _ => none
theorem resP_ok {F : Frm} {L : LL} {H : HF} {e : Env} {a : Act} {w : World} (S : Sat F (fun t => look t L) H e a w) {t : Nat} {pol c : Bool} {x : Operand} {v : TV} {ps : List Prop} (h : resP L t pol c x = some (v, ps)) (hp : allP ps) (hc : c = pol) : a.eval x = v.den e := by
  unfold resP at h
  split at h
  · rename_i v' hv
    cases h
    exact evS_ok S hv
  · rename_i cs v' hv
    split at h
    · rename_i hr
      cases h
      have h1 := remC_ok (ks := [(t, pol, c)]) (by simp [condB, hc]) hp
      rw [hr] at h1
      have h3 := evS_ok S hv
      rw [h3]
      simp only [SV.den]
      rw [if_pos (h1.symm.trans rfl : condB cs = true)]
    · cases h
  · cases h
def isB (b : Bool) : Operand → Bool
  | .const (.bool c) => eqB b c
  | _ => false
def stPick (orc : List (Nat × Orc)) (L : LL) (c a b : Operand) : Option Eff := match c with
  | .tmp t => match look t L with
    | some (.t (.c (.b cb))) => match look t orc with
      | some (.dec true) => match resP L t true cb a with
        | some (v, ps) => some ⟨.t v, [], [], (cb = true) :: ps⟩
        | none => none
      | some (.dec false) => match resP L t false cb b with
        | some (v, ps) => some ⟨.t v, [], [], (cb = false) :: ps⟩
        | none => none
      | _ => match isB false b with
        | true => match resP L t true cb a with
          | some (.c (.b x), ps) => oneP (.b (cb && x)) ps
          | _ => none
        | false => match isB true a with
          | true => match resP L t false cb b with
            | some (.c (.b x), ps) => oneP (.b (cb || x)) ps
            | _ => none
          | false => match resP L t true cb a, resP L t false cb b with
            | some (v, ps), some (u, qs) => match pickV cb v u with
              | some r => oneP r (app ps qs)
              | none => none
            | _, _ => none
    | _ => none
  | _ => none
theorem pickV_ok {cb : Bool} {v u : TV} {r : CV} (h : pickV cb v u = some r) (e : Env) : r.den e = if cb = true then v.den e else u.den e := by
  unfold pickV at h
  split at h
  · cases h; cases cb <;> rfl
  · split at h
    · rename_i hk
      have := kindB_ok hk
      subst this
      cases h; cases cb <;> rfl
    · cases h
  · cases h; cases cb <;> rfl
  · cases h
theorem isB_ok {b : Bool} {x : Operand} (h : isB b x = true) : x = .const (.bool b) := by
  unfold isB at h
  split at h
  · rw [eqB_true.1 h]
  · cases h
theorem stPick_ok {P : Program} {F : Frm} {H : HF} {nx : Nat} {orc : List (Nat × Orc)} {L : LL} {o : Oper} {c a b : Operand} {E : Eff} (hop : o.op = .pick c a b) (h : stPick orc L c a b = some E) (ho : allP E.obs) : StepOK P F (fun t => look t L) H nx o E := by
  unfold stPick at h
  split at h
  · rename_i t
    split at h
    · rename_i cb hc
      have hrun : ∀ e (ac : Act) w, Sat F (fun t => look t L) H e ac w → (execOp ac.eval o).run P w = .ok (.value (if cb = true then ac.eval a else ac.eval b)) w := by
        intro e ac w S
        have : ac.eval (.tmp t) = .bool cb := S.sl t _ hc
        simp [execOp, hop, this, asBool]
      split at h
      · split at h
        · rename_i v ps hv
          cases h
          obtain ⟨h1, h2⟩ := ho
          refine step_pure fun e ac w S => ?_
          rw [hrun e ac w S, if_pos h1, resP_ok S hv h2 h1]
          rfl
        · cases h
      · split at h
        · rename_i v ps hv
          cases h
          obtain ⟨h1, h2⟩ := ho
          refine step_pure fun e ac w S => ?_
          rw [hrun e ac w S, if_neg (by rw [h1]; simp), resP_ok S hv h2 h1]
          rfl
        · cases h
      · split at h
        · rename_i hb
          have := isB_ok hb
          subst this
          split at h
          · rename_i x ps hv
            cases h
            refine step_pure fun e ac w S => ?_
            rw [hrun e ac w S]
            cases cb with
            | true => rw [if_pos rfl, resP_ok S hv ho rfl]; rfl
            | false => rw [if_neg (by simp)]; rfl
          · cases h
        · split at h
          · rename_i hb
            have := isB_ok hb
            subst this
            split at h
            · rename_i x ps hv
              cases h
              refine step_pure fun e ac w S => ?_
              rw [hrun e ac w S]
              cases cb with
              | true => rw [if_pos rfl]; rfl
              | false => rw [if_neg (by simp), resP_ok S hv ho rfl]; rfl
            · cases h
          · split at h
            · rename_i v ps u qs hv hu
              split at h
              · rename_i r hr
                cases h
                have hp := allP_app.1 ho
                refine step_pure fun e ac w S => ?_
                rw [hrun e ac w S]
                show _ = Result.ok (Next.value (r.den e)) w
                rw [pickV_ok hr e]
                cases cb with
                | true => rw [if_pos rfl, if_pos rfl, resP_ok S hv hp.1 rfl]
                | false => rw [if_neg (by simp), if_neg (by simp), resP_ok S hu hp.2 rfl]
              · cases h
            · cases h
    · cases h
  · cases h
end Vc
namespace Vc
open Go Go.RowKit

section types
variable {P : Program} {w : World} {T : TypeId} {I : Ty}
theorem TyOk.run_size (h : TyOk P T I) : (Go.sizeOf T).run P w = .ok I.size w := by
  obtain ⟨i, z, hi, h1, _⟩ := h.info
  simp [Go.sizeOf, typeInfo, hi, h1]
theorem TyOk.cells (h : TyOk P T I) : P.cellsOf T = I.size := by
  obtain ⟨i, z, hi, h1, _⟩ := h.info
  simp [Program.cellsOf, hi, h1]
theorem TyOk.run_zero (h : TyOk P T I) : ∃ z, (zeroValue T).run P w = .ok z w ∧ z.cells.toList = I.zero.map (CV.den e0) := by
  obtain ⟨i, z, hi, _, _, hz, hc⟩ := h.info
  exact ⟨z, by simp [zeroValue, typeInfo, hi, hz], hc⟩
theorem TyOk.run_agg (h : TyOk P T I) : (isAgg T).run P w = .ok I.d.agg w := by
  obtain ⟨d, hd, hI⟩ := h.und
  cases hk : I.d <;> rw [hk] at hI <;> simp only [TyD.is] at hI
  case ptr => obtain ⟨e, rfl⟩ := hI; simp [isAgg, run_underlying hd, TyD.agg]
  case struct fs => obtain ⟨e, rfl, _⟩ := hI; simp [isAgg, run_underlying hd, TyD.agg]
  case fnc => obtain ⟨a, b, c, rfl⟩ := hI; simp [isAgg, run_underlying hd, TyD.agg]
  case ifc => obtain ⟨e, rfl⟩ := hI; simp [isAgg, run_underlying hd, TyD.agg]
  all_goals (subst hI; simp [isAgg, run_underlying hd, TyD.agg])
theorem TyOk.zero_den (h : TyOk P T I) (e : Env) : I.zero.map (CV.den e) = I.zero.map (CV.den e0) :=
  cells_same (e := e0) (e' := e) fun n hn => by rw [h.zns] at hn; cases hn
end types

def takeC : Nat → List CV → Option (List CV)
  | 0, _ => some []
  | _ + 1, [] => none
  | n + 1, c :: cs => match takeC n cs with
    | some l => some (c :: l)
    | none => none
def dropC : Nat → List CV → List CV
  | 0, l => l
  | _ + 1, [] => []
  | n + 1, _ :: l => dropC n l
theorem takeC_ok : ∀ {n : Nat} {l r : List CV}, takeC n l = some r → r = l.take n ∧ r.length = n
  | 0, l, r, h => by cases h; simp
  | n + 1, [], r, h => by cases h
  | n + 1, c :: cs, r, h => by
    unfold takeC at h
    split at h
    · rename_i l' hl
      cases h
      obtain ⟨h1, h2⟩ := takeC_ok hl
      simp [← h1, h2]
    · cases h
theorem dropC_eq : ∀ (n : Nat) (l : List CV), dropC n l = l.drop n
  | 0, _ => rfl
  | _ + 1, [] => by simp [dropC]
  | n + 1, _ :: l => by simp [dropC, dropC_eq n l]
/-- A value of this type out of cells. -/
def mkV (I : Ty) (cs : List CV) : Option TV := match I.d.agg with
  | true => some (.agg cs)
  | false => match cs with
    | [c] => some (.c c)
    | _ => none
theorem mkV_cells {I : Ty} {cs : List CV} {v : TV} (h : mkV I cs = some v) (e : Env) : v.den e = if I.d.agg = true then .agg (cs.map (CV.den e)).toArray else (cs.map (CV.den e)).headD undef := by
  unfold mkV at h
  split at h
  · rename_i hb
    cases h
    rw [if_pos hb]; rfl
  · rename_i hb
    rw [if_neg (by rw [hb]; simp)]
    split at h
    · cases h; rfl
    · cases h
/-- What stands in a row of cells from a place on. -/
theorem run_part {P : Program} {w : World} {T : TypeId} {I : Ty} (hT : TyOk P T I) {cs l : List CV} {off : Nat} {v : TV} (hl : takeC I.size (dropC off cs) = some l) (hv : mkV I l = some v) (e : Env) : (part T (cs.map (CV.den e)).toArray off).run P w = .ok (v.den e) w := by
  obtain ⟨h1, h2⟩ := takeC_ok hl
  rw [dropC_eq] at h1
  rw [mkV_cells hv e]
  unfold part
  simp only [Sem.run_bind, hT.run_agg, Result.andThen_ok]
  cases hb : I.d.agg with
  | true =>
    simp only [if_true, Sem.run_bind, hT.run_size, Result.andThen_ok, Sem.run_pure]
    congr 2
    simp only [List.extract_toArray, List.extract_eq_take_drop, Nat.add_sub_cancel_left]
    rw [h1, List.map_take, List.map_drop]
  | false =>
    unfold mkV at hv
    rw [hb] at hv
    simp only at hv
    split at hv
    · rename_i c
      have hs : I.size = 1 := by simpa using h2.symm
      have : cs[off]? = some c := by
        have h3 : [c][0]? = ((cs.drop off).take I.size)[0]? := by rw [← h1]
        rw [hs] at h3
        simpa using h3.symm
      simp [this]
    · cases hv

def cellEq : TyD → CV → CV → Option Bool
  | .int _, .i k x, .i k' y => match kindB k k' with
    | true => some (x == y)
    | false => none
  | .bool, .b x, .b y => some (x == y)
  | .str, .s x, .s y => some (x == y)
  | _, _, _ => none
def eqF (rec : TypeId → List CV → List CV → Option Bool) (ty : TypeId → Option Ty) (cs ds : List CV) : List (Nat × TypeId) → Option Bool
  | [] => some true
  | (o, t) :: l => match ty t with
    | some J => match takeC J.size (dropC o cs), takeC J.size (dropC o ds) with
      | some a, some b => match rec t a b, eqF rec ty cs ds l with
        | some p, some q => some (p && q)
        | _, _ => none
      | _, _ => none
    | none => none
def eqA (rec : List CV → List CV → Option Bool) (s : Nat) (cs ds : List CV) : Nat → Nat → Option Bool
  | 0, _ => some true
  | n + 1, i => match takeC s (dropC (i * s) cs), takeC s (dropC (i * s) ds) with
    | some a, some b => match rec a b, eqA rec s cs ds n (i + 1) with
      | some p, some q => some (p && q)
      | _, _ => none
    | _, _ => none
/-- Whether two values of a type of integers, texts and truth values are the same. -/
def eqT (ty : TypeId → Option Ty) : Nat → TypeId → List CV → List CV → Option Bool
  | 0, _, _, _ => none
  | m + 1, T, cs, ds => match ty T with
    | some I => match I.d with
      | .struct fs => match I.eqb with
        | true => eqF (eqT ty m) ty cs ds fs
        | false => none
      | .arr n e => match ty e with
        | some J => eqA (eqT ty m e) J.size cs ds n 0
        | none => none
      | .int _ | .str | .bool => match cs, ds with
        | [c], [d] => cellEq I.d c d
        | _, _ => none
      | _ => none
    | none => none
def valC (I : Ty) (cs : List Value) : Value := if I.d.agg = true then .agg cs.toArray else cs.headD undef
theorem run_cellEq {P : Program} {w : World} {T : TypeId} {I : Ty} (hT : TyOk P T I) {c d : CV} {b : Bool} (h : cellEq I.d c d = some b) (e : Env) (m : Nat) : (Op.equalIn (m + 1) T (c.den e) (d.den e)).run P w = .ok b w ∧ I.d.agg = false := by
  obtain ⟨D, hD, hI2⟩ := hT.und
  cases hk : I.d <;> rw [hk] at h hI2 <;> cases c <;> cases d <;> first | (cases h; done) | skip
  case int.i.i k k1 x k2 y =>
    unfold cellEq at h
    simp only at h
    split at h
    · rename_i hb
      have := kindB_ok hb
      subst this
      cases h
      simp only [TyD.is] at hI2
      subst hI2
      exact ⟨by simp [Op.equalIn, run_underlying hD, CV.den], rfl⟩
    · cases h
  case str.s.s x y =>
    cases h
    simp only [TyD.is] at hI2
    subst hI2
    exact ⟨by simp [Op.equalIn, run_underlying hD, CV.den], rfl⟩
  case bool.b.b x y =>
    cases h
    simp only [TyD.is] at hI2
    subst hI2
    exact ⟨by simp [Op.equalIn, run_underlying hD, CV.den], rfl⟩

/-- As mkV, of the cells' values. -/
theorem part_val {P : Program} {w : World} {T : TypeId} {I : Ty} (hT : TyOk P T I) {cs l : List CV} {off : Nat} (hl : takeC I.size (dropC off cs) = some l) (hv : I.d.agg = false → ∃ c, l = [c]) (e : Env) : (part T (cs.map (CV.den e)).toArray off).run P w = .ok (valC I (l.map (CV.den e))) w := by
  cases hb : I.d.agg with
  | true =>
    have : mkV I l = some (.agg l) := by unfold mkV; rw [hb]
    rw [run_part hT hl this e]
    simp [valC, hb, TV.den]
  | false =>
    obtain ⟨c, rfl⟩ := hv hb
    have : mkV I [c] = some (.c c) := by unfold mkV; rw [hb]
    rw [run_part hT hl this e]
    simp [valC, hb, TV.den]

def EqOk (P : Program) (rec : TypeId → List CV → List CV → Option Bool) (tys : List (Nat × Ty)) (d : Nat) : Prop :=
  ∀ T I cs ds b (e : Env) (w : World), look T tys = some I → rec T cs ds = some b → (I.d.agg = false → (∃ c, cs = [c]) ∧ ∃ c, ds = [c]) ∧ (Op.equalIn d T (valC I (cs.map (CV.den e))) (valC I (ds.map (CV.den e)))).run P w = .ok b w
theorem eqF_ok {P : Program} {tys : List (Nat × Ty)} (hty : TysOk P tys) {rec : TypeId → List CV → List CV → Option Bool} {d : Nat} (hr : EqOk P rec tys d) {cs ds : List CV} {e : Env} {w : World} : ∀ {fields : List Field} {b : Bool}, (∀ f ∈ fields, f.name ≠ "_") → eqF rec (fun t => look t tys) cs ds (fields.map fun f => (f.offset, f.type)) = some b →
    (Op.eqFields d (cs.map (CV.den e)).toArray (ds.map (CV.den e)).toArray fields).run P w = .ok b w
  | [], b, _, h => by cases h; rfl
  | f :: l, b, hn, h => by
    rw [List.map_cons] at h
    unfold eqF at h
    split at h
    · rename_i J hJ
      split at h
      · rename_i a1 b1 ha hb
        split at h
        · rename_i p q hp hq
          cases h
          obtain ⟨h1, h2⟩ := hr _ _ _ _ _ e w hJ hp
          have ih := eqF_ok hty hr (e := e) (w := w) (fun f hf => hn f (List.mem_cons.2 (.inr hf))) hq
          have hT := hty _ _ hJ
          simp only [Op.eqFields, if_pos (hn f (by simp)), Sem.run_bind, part_val hT ha (fun h => (h1 h).1) e, part_val hT hb (fun h => (h1 h).2) e, Result.andThen_ok, h2]
          cases p with
          | true => simp [ih]
          | false => simp
        · cases h
      · cases h
    · cases h
theorem eqA_ok {P : Program} {tys : List (Nat × Ty)} (hty : TysOk P tys) {rec : TypeId → List CV → List CV → Option Bool} {d : Nat} (hr : EqOk P rec tys d) {cs ds : List CV} {e : Env} {w : World} {E : TypeId} {J : Ty} (hJ : look E tys = some J) : ∀ {n i : Nat} {b : Bool}, eqA (rec E) J.size cs ds n i = some b →
    (Op.eqItems d E J.size (cs.map (CV.den e)).toArray (ds.map (CV.den e)).toArray (List.range' i n)).run P w = .ok b w
  | 0, i, b, h => by cases h; rfl
  | n + 1, i, b, h => by
    unfold eqA at h
    split at h
    · rename_i a1 b1 ha hb
      split at h
      · rename_i p q hp hq
        cases h
        obtain ⟨h1, h2⟩ := hr _ _ _ _ _ e w hJ hp
        have ih := eqA_ok hty hr (e := e) (w := w) hJ hq
        have hT := hty _ _ hJ
        rw [List.range'_succ]
        simp only [Op.eqItems, Sem.run_bind, part_val hT ha (fun h => (h1 h).1) e, part_val hT hb (fun h => (h1 h).2) e, Result.andThen_ok, h2]
        cases p with
        | true => simp [ih]
        | false => simp
      · cases h
    · cases h
theorem eqT_ok {P : Program} {tys : List (Nat × Ty)} (hty : TysOk P tys) : ∀ (m d : Nat), m ≤ d → EqOk P (eqT (fun t => look t tys) m) tys d
  | 0, d, _ => fun T I cs ds b e w _ h => by cases h
  | m + 1, 0, hd => by omega
  | m + 1, d + 1, hd => fun T I cs ds b e w hI h => by
    have ih := eqT_ok hty m d (by omega)
    have hT := hty _ _ hI
    obtain ⟨D, hD, hI2⟩ := hT.und
    unfold eqT at h
    rw [hI] at h
    simp only at h
    split at h
    · rename_i fs hfs
      rw [hfs] at hI2
      obtain ⟨fields, rfl, rfl⟩ := hI2
      split at h
      · rename_i heq
        obtain ⟨q1, q2, q3⟩ := hT.eqs heq
        have hag : I.d.agg = true := by rw [hfs]; rfl
        refine ⟨fun h => by (rw [hag] at h; cases h), ?_⟩
        have hff : P.fieldsOf T = fields := by simp [Program.fieldsOf, hD]
        simp only [valC, hag, if_true]
        rw [run_equalIn_struct w d T _ _ (by rw [hff]; exact hD) q1, hff]
        exact eqF_ok hty ih (q3 fields hD) h
      · cases h
    · rename_i n E hfs
      rw [hfs] at hI2
      simp only [TyD.is] at hI2
      subst hI2
      split at h
      · rename_i J hJ
        have hag : I.d.agg = true := by rw [hfs]; rfl
        refine ⟨fun h => by (rw [hag] at h; cases h), ?_⟩
        obtain ⟨i, z, hi, h1, _⟩ := (hty _ _ hJ).info
        simp only [valC, hag, if_true]
        rw [run_equalIn_array w d _ _ hD hi, (hty _ _ hJ).cells, List.range_eq_range']
        exact eqA_ok hty ih hJ h
      · cases h
    all_goals first
      | (cases h; done)
      | (split at h
         · rename_i c d'
           obtain ⟨h1, h2⟩ := run_cellEq hT h e d
           refine ⟨fun _ => ⟨⟨c, rfl⟩, ⟨d', rfl⟩⟩, ?_⟩
           simpa [valC, h2] using h1
         · cases h)
end Vc
namespace Vc
open Go Go.RowKit

/-- A new block by a name. -/
def Env.new (e : Env) (n g : Nat) : Env := ⟨fun m => if m = n then g else e.blk m, e.val, fun m => if m = n then (· = g) else e.fp m, e.one⟩
theorem Env.new_same (e : Env) {n g m : Nat} (h : m ≠ n) : e.same (e.new n g) m := ⟨by simp [Env.new, h], rfl, by simp [Env.new, h]⟩
theorem Mv.new {nx : Nat} {v : SV} {wr : Bool} {ob : Ob} {obs : List Prop} {e : Env} {w : World} {obj : Obj} (h : ob.holds (e.new nx w.heap.size) nx (w.alloc obj)) : Mv nx ⟨v, [(wr, ob)], [], obs⟩ e (e.new nx w.heap.size) w (w.alloc obj) := by
  refine .old ⟨fun n hn => Env.new_same e (by simp only [List.length_cons, List.length_nil] at hn; omega), rfl, rfl, rfl, by simp, fun g hg _ => Below.heap_alloc w obj g hg, fun k b o hk => ?_, fun j k hj hk hne => ?_, fun n o ho => (by cases ho)⟩
  · cases k with
    | zero =>
      cases hk
      refine ⟨h, fun g hg => ?_⟩
      have : g = w.heap.size := by simpa [Env.new] using hg
      subst this
      exact ⟨by simp, .inl (Nat.le_refl _)⟩
    | succ k => simp at hk
  · simp at hj hk
    omega
theorem Env.new_fp (e : Env) (n g : Nat) (k : Nat) : (e.new n g).fp n k ↔ k = (e.new n g).blk n := by simp [Env.new]
theorem Env.new_blk (e : Env) (n g : Nat) : (e.new n g).blk n = g := by simp [Env.new]
theorem cells_new {e : Env} {nx g : Nat} {cs : List CV} (h : ∀ n ∈ flatN (cs.map CV.ns), n < nx) : cs.map (CV.den (e.new nx g)) = cs.map (CV.den e) :=
  cells_same fun n hn => Env.new_same e (by have := h n hn; omega)
theorem step_newcells {P : Program} {F : Frm} {L : LF} {H : HF} {nx : Nat} {o : Oper} {v : CV} {cs : List CV} {T : TypeId} {obs : List Prop} (hcs : Low L H nx → ∀ n ∈ flatN (cs.map CV.ns), n < nx)
    (hrun : ∀ e a w, Sat F L H e a w → (execOp a.eval o).run P w = .ok (.value (v.den (e.new nx w.heap.size))) (w.alloc (.cells (cs.map (CV.den e)).toArray T))) : StepOK P F L H nx o ⟨.t (.c v), [(true, .cells cs T)], [], obs⟩ := by
  intro hlow e a w S K Q hK
  refine wp_value (hrun e a w S) (hK _ _ (Mv.new ⟨fun g => Env.new_fp e nx _ g, ?_⟩))
  rw [Env.new_blk, cells_new (hcs hlow)]
  exact heap_alloc_new w _

theorem ev_low {L : LL} {H : HF} {nx : Nat} (hlow : Low (fun t => look t L) H nx) {x : Operand} {v : TV} (h : ev L x = some v) : ∀ n ∈ v.ns, n < nx := by
  unfold ev at h
  split at h
  · rename_i v' hv
    cases h
    intro n hn
    cases x with
    | tmp t => exact hlow.1 t _ hv n hn
    | const c =>
      cases hv
      have : (ofConst c).ns = [] := by
        unfold ofConst
        have one : ∀ v, (ofC v).ns = [] := fun v => by unfold ofC; split <;> rfl
        split
        · rename_i cs
          have : ∀ l : List Value, flatN ((l.map ofC).map CV.ns) = [] := by
            intro l
            induction l with
            | nil => rfl
            | cons a l ih => simp only [List.map_cons, flatN, one]; simpa using ih
          exact this cs.toList
        · exact one c
      rw [this] at hn
      cases hn
    | func f => cases hv; cases hn
    | global g => cases hv
  · cases h
def TV.cells : TV → List CV
  | .c x => [x]
  | .agg cs => cs
theorem TV.cells_ns (v : TV) : flatN (v.cells.map CV.ns) = v.ns := by
  cases v with
  | c x => simp [TV.cells, TV.ns, flatN]
  | agg cs => rfl
/-- Values that are not rows of values themselves. -/
def CV.flat : CV → Bool
  | .raw v => match v with
    | .agg _ => false
    | .tuple _ => false
    | _ => true
  | _ => true
def TV.flat : TV → Bool
  | .c x => x.flat
  | .agg _ => true
def flats : List CV → Bool
  | [] => true
  | c :: l => match c.flat with
    | true => flats l
    | false => false
theorem TV.cells_den {v : TV} (h : v.flat = true) (e : Env) : (v.den e).cells = (v.cells.map (CV.den e)).toArray := by
  cases v with
  | c x =>
    have ho : ∀ u : Value, u.oneCell' = true → u.cells = #[u] := fun u hu => by cases u <;> first | (cases hu; done) | rfl
    cases x with
    | nm n => exact ho _ (e.one n)
    | el n j =>
      refine ho _ ?_
      simp only [TV.den, CV.den]
      split <;> rfl
    | sub n o k l =>
      refine ho _ ?_
      simp only [TV.den, CV.den]
      split <;> rfl
    | raw r => cases r <;> first | (cases h; done) | rfl
    | _ => rfl
  | agg cs => rfl
theorem flats_one {l : List CV} (h : flats l = true) (e : Env) : ∀ u ∈ l.map (CV.den e), u.oneCell' = true := by
  induction l with
  | nil => simp
  | cons c l ih =>
    unfold flats at h
    split at h
    · rename_i hc
      intro u hu
      rw [List.map_cons] at hu
      rcases List.mem_cons.1 hu with rfl | hu
      · cases c with
        | nm n => exact e.one n
        | el n j =>
          simp only [CV.den]
          split <;> rfl
        | sub n o k l =>
          simp only [CV.den]
          split <;> rfl
        | raw r => cases r <;> first | (cases hc; done) | rfl
        | _ => rfl
      · exact ih h u hu
    · cases h

def stAlloc (ty : TypeId → Option Ty) (nx : Nat) (T : TypeId) : Option Eff := match ty T with
  | some I => some ⟨.t (.c (.p nx 0)), [(true, .cells I.zero T)], [], []⟩
  | none => none
theorem stAlloc_ok {P : Program} {F : Frm} {L : LF} {H : HF} {nx : Nat} {tys : List (Nat × Ty)} (hty : TysOk P tys) {o : Oper} {T : TypeId} {E : Eff} (hop : o.op = .alloc T) (h : stAlloc (fun t => look t tys) nx T = some E) : StepOK P F L H nx o E := by
  unfold stAlloc at h
  split at h
  · rename_i I hI
    cases h
    have hT := hty _ _ hI
    refine step_newcells (fun _ n hn => by rw [hT.zns] at hn; cases hn) fun e a w S => ?_
    obtain ⟨z, hz, hc⟩ := hT.run_zero (w := w)
    have : z.cells = (I.zero.map (CV.den e)).toArray := by rw [hT.zero_den e, ← hc]
    simp [execOp, hop, Instr.alloc, hz, newVar, newRow, this, CV.den, Env.new_blk]
  · cases h
def stBox (L : LL) (nx : Nat) (T : TypeId) (x : Operand) : Option Eff := match ev L x with
  | some v => match v.flat with
    | true => some ⟨.t (.c (.p nx 0)), [(true, .cells v.cells T)], [], []⟩
    | false => none
  | none => none
theorem stBox_ok {P : Program} {F : Frm} {L : LL} {H : HF} {nx : Nat} {o : Oper} {T : TypeId} {x : Operand} {E : Eff} (hop : o.op = .box T x) (h : stBox L nx T x = some E) : StepOK P F (fun t => look t L) H nx o E := by
  unfold stBox at h
  split at h
  · rename_i v hv
    split at h
    · rename_i hf
      cases h
      refine step_newcells (fun hlow n hn => by rw [TV.cells_ns] at hn; exact ev_low hlow hv n hn) fun e a w S => ?_
      simp [execOp, hop, Instr.box, newVar, newRow, ev_ok S hv, TV.cells_den hf, CV.den, Env.new_blk]
    · cases h
  · cases h

def fillC : List CV → Nat → List CV → List CV
  | [], _, zs => zs
  | _, _, [] => []
  | c :: cs, 0, _ :: zs => c :: fillC cs 0 zs
  | cs, n + 1, z :: zs => z :: fillC cs n zs
theorem fillC_get : ∀ (cs : List CV) (n : Nat) (zs : List CV) (j : Nat), (fillC cs n zs)[j]? = if n ≤ j ∧ j < n + cs.length ∧ j < zs.length then cs[j - n]? else zs[j]?
  | [], n, zs, j => by rw [fillC]; rw [if_neg (by simp; omega)]
  | c :: cs, n, [], j => by simp [fillC]
  | c :: cs, 0, z :: zs, 0 => by simp [fillC]
  | c :: cs, 0, z :: zs, j + 1 => by
    have := fillC_get cs 0 zs j
    simp only [fillC, List.getElem?_cons_succ, this]
    simp
  | c :: cs, n + 1, z :: zs, 0 => by simp [fillC]
  | c :: cs, n + 1, z :: zs, j + 1 => by
    have := fillC_get (c :: cs) n zs j
    simp only [fillC, List.getElem?_cons_succ, this]
    simp only [List.length_cons]
    by_cases h : n ≤ j ∧ j < n + (cs.length + 1) ∧ j < zs.length
    · rw [if_pos h, if_pos (by omega), show j + 1 - (n + 1) = j - n by omega]
    · rw [if_neg h, if_neg (by omega)]
theorem fillC_mem {cs zs : List CV} {n : Nat} {c : CV} (h : c ∈ fillC cs n zs) : c ∈ cs ∨ c ∈ zs := by
  obtain ⟨j, hj⟩ := List.mem_iff_getElem?.1 h
  rw [fillC_get] at hj
  split at hj
  · exact .inl (List.mem_of_getElem? hj)
  · exact .inr (List.mem_of_getElem? hj)
theorem foldl_set_get (off : Nat) (i : Nat) : ∀ (cs : List Value) (k : Nat) (zs : Array Value), ((cs.zipIdx k).foldl (fun zs x => zs.setIfInBounds (off + x.2) x.1) zs)[i]? = if off + k ≤ i ∧ i < off + k + cs.length ∧ i < zs.size then cs[i - off - k]? else zs[i]?
  | [], k, zs => by simp; intro h1 h2; omega
  | c :: cs, k, zs => by
    rw [List.zipIdx_cons, List.foldl_cons, foldl_set_get off i cs (k + 1)]
    simp only [Array.size_setIfInBounds, List.length_cons, Array.getElem?_setIfInBounds]
    by_cases h : i = off + k
    · subst h
      rw [if_neg (by omega)]
      by_cases h2 : off + k < zs.size
      · simp [h2]
      · simp [h2]
    · by_cases h2 : off + (k + 1) ≤ i ∧ i < off + (k + 1) + cs.length ∧ i < zs.size
      · rw [if_pos h2, if_pos (by omega), show i - off - k = (i - off - (k + 1)) + 1 by omega, List.getElem?_cons_succ]
      · have h3 : ¬ (off + k = i) := fun e => h e.symm
        have h4 : ¬ (off + k ≤ i ∧ i < off + k + (cs.length + 1) ∧ i < zs.size) := by omega
        rw [if_neg h2, if_neg h3, if_neg h4]
theorem foldl_fill (cs : List CV) (off : Nat) (zs : List CV) (e : Env) : (cs.map (CV.den e)).toArray.zipIdx.foldl (fun zs (c, j) => zs.setIfInBounds (off + j) c) (zs.map (CV.den e)).toArray = ((fillC cs off zs).map (CV.den e)).toArray := by
  apply Array.ext_getElem?
  intro i
  rw [← Array.foldl_toList, Array.toList_zipIdx]
  have := foldl_set_get off i (cs.map (CV.den e)) 0 (zs.map (CV.den e)).toArray
  simp only [Nat.add_zero, Nat.sub_zero, List.length_map, List.size_toArray] at this
  refine this.trans ?_
  simp only [List.getElem?_toArray, List.getElem?_map, fillC_get]
  split <;> rfl
def lenC : List CV → Nat
  | [] => 0
  | _ :: l => Nat.succ (lenC l)
theorem lenC_eq : ∀ l : List CV, lenC l = l.length
  | [] => rfl
  | _ :: l => by rw [lenC, lenC_eq l]; rfl
def fillP (place : Nat → Option (Nat × Nat)) : List (Nat × TV) → List CV → Option (List CV)
  | [], zs => some zs
  | (k, v) :: l, zs => match place k with
    | some (off, size) => match v.flat with
      | true => match Nat.beq (lenC v.cells) size with
        | true => match Nat.ble (off + size) (lenC zs) with
          | true => fillP place l (fillC v.cells off zs)
          | false => none
        | false => none
      | false => none
    | none => none
theorem fillP_ok {place : Nat → Option (Nat × Nat)} {place' : Nat → Option (Nat × Nat)} (hp : ∀ k x, place k = some x → place' k = some x) (e : Env) : ∀ {l : List (Nat × TV)} {zs r : List CV}, fillP place l zs = some r →
    Instr.fill place' (zs.map (CV.den e)).toArray (l.map fun x => (x.1, x.2.den e)) = some (r.map (CV.den e)).toArray ∧ ∀ c ∈ r, c ∈ zs ∨ ∃ x ∈ l, c ∈ x.2.cells
  | [], zs, r, h => by cases h; exact ⟨rfl, fun c hc => .inl hc⟩
  | (k, v) :: l, zs, r, h => by
    unfold fillP at h
    split at h
    · rename_i off size hk
      split at h
      · rename_i hf
        split at h
        · rename_i h1
          split at h
          · rename_i h2
            rw [beq_nat, lenC_eq] at h1
            have h2' := Nat.le_of_ble_eq_true h2
            rw [lenC_eq] at h2'
            obtain ⟨i1, i2⟩ := fillP_ok hp e h
            refine ⟨?_, fun c hc => ?_⟩
            · rw [List.map_cons]
              unfold Instr.fill
              rw [hp k _ hk]
              simp only
              rw [TV.cells_den hf e]
              simp only [List.size_toArray, List.length_map]
              rw [if_neg (by simp; omega), foldl_fill]
              exact i1
            · rcases i2 c hc with h3 | ⟨x, hx, h3⟩
              · rcases fillC_mem h3 with h4 | h4
                · exact .inr ⟨(k, v), by simp, h4⟩
                · exact .inl h4
              · exact .inr ⟨x, List.mem_cons.2 (.inr hx), h3⟩
          · cases h
        · cases h
      · cases h
    · cases h
def evP (L : LL) : List (Nat × Operand) → Option (List (Nat × TV))
  | [] => some []
  | (k, x) :: l => match ev L x with
    | some v => match evP L l with
      | some vs => some ((k, v) :: vs)
      | none => none
    | none => none
theorem evP_ok {F : Frm} {L : LL} {H : HF} {e : Env} {a : Act} {w : World} (S : Sat F (fun t => look t L) H e a w) : ∀ {l : List (Nat × Operand)} {vs : List (Nat × TV)}, evP L l = some vs → l.map (fun x => (x.1, a.eval x.2)) = vs.map fun x => (x.1, x.2.den e)
  | [], vs, h => by cases h; rfl
  | (k, x) :: l, vs, h => by
    unfold evP at h
    split at h
    · rename_i v hv
      split at h
      · rename_i vs' hvs
        cases h
        rw [List.map_cons, List.map_cons, evP_ok S hvs, ev_ok S hv]
      · cases h
    · cases h
theorem evP_low {L : LL} {H : HF} {nx : Nat} (hlow : Low (fun t => look t L) H nx) : ∀ {l : List (Nat × Operand)} {vs : List (Nat × TV)}, evP L l = some vs → ∀ x ∈ vs, ∀ n ∈ x.2.ns, n < nx
  | [], vs, h => by cases h; simp
  | (k, x) :: l, vs, h => by
    unfold evP at h
    split at h
    · rename_i v hv
      split at h
      · rename_i vs' hvs
        cases h
        intro y hy
        rcases List.mem_cons.1 hy with rfl | hy
        · exact ev_low hlow hv
        · exact evP_low hlow hvs y hy
      · cases h
    · cases h
def szs (ty : TypeId → Option Ty) : List (Nat × TypeId) → Option (List (Nat × Nat))
  | [] => some []
  | (o, t) :: l => match ty t with
    | some J => match szs ty l with
      | some r => some ((o, J.size) :: r)
      | none => none
    | none => none
def stBuild (ty : TypeId → Option Ty) (L : LL) (T : TypeId) (parts : List (Nat × Operand)) : Option Eff := match ty T with
  | some I => match evP L parts with
    | some vs => match I.d with
      | .struct fs => match szs ty fs with
        | some ps => match fillP (fun k => nth k ps) vs I.zero with
          | some cs => some ⟨.t (.agg cs), [], [], []⟩
          | none => none
        | none => none
      | .arr _ e => match ty e with
        | some J => match fillP (fun k => some (k * J.size, J.size)) vs I.zero with
          | some cs => some ⟨.t (.agg cs), [], [], []⟩
          | none => none
        | none => none
      | _ => none
    | none => none
  | none => none
theorem szs_ok {P : Program} {tys : List (Nat × Ty)} (hty : TysOk P tys) : ∀ {fields : List Field} {ps : List (Nat × Nat)}, szs (fun t => look t tys) (fields.map fun f => (f.offset, f.type)) = some ps →
    fields.mapM (fun f => (P.info? f.type).map fun i => (f.offset, i.size)) = some ps
  | [], ps, h => by cases h; rfl
  | f :: l, ps, h => by
    rw [List.map_cons] at h
    unfold szs at h
    split at h
    · rename_i J hJ
      split at h
      · rename_i r hr
        cases h
        obtain ⟨i, z, hi, h1, _⟩ := (hty _ _ hJ).info
        simp [List.mapM_cons, szs_ok hty hr, hi, h1]
      · cases h
    · cases h
theorem stBuild_ok {P : Program} {F : Frm} {L : LL} {H : HF} {nx : Nat} {tys : List (Nat × Ty)} (hty : TysOk P tys) {o : Oper} {T : TypeId} {parts : Array (Nat × Operand)} {E : Eff} (hop : o.op = .build T parts) (h : stBuild (fun t => look t tys) L T parts.toList = some E) : StepOK P F (fun t => look t L) H nx o E := by
  unfold stBuild at h
  split at h
  · rename_i I hI
    have hT := hty _ _ hI
    obtain ⟨d, hd, hId⟩ := hT.und
    obtain ⟨i, z, hi, _, _, hz, hzc⟩ := hT.info
    split at h
    · rename_i vs hvs
      have key : ∀ cs, (∀ e, P.built T (vs.map fun x => (x.1, x.2.den e)) = some (cs.map (CV.den e)).toArray) → StepOK P F (fun t => look t L) H nx o ⟨.t (.agg cs), [], [], []⟩ := by
        intro cs hb
        refine step_pure fun e a w S => ?_
        have hp : (parts.map fun x => (x.1, a.eval x.2)).toList = vs.map fun x => (x.1, x.2.den e) := by
          rw [Array.toList_map]; exact evP_ok S hvs
        have := run_build (P := P) w T (parts.map fun x => (x.1, a.eval x.2)) _ (by rw [hp]; exact hb e)
        simp only [execOp, hop, Sem.run_bind, this, Result.andThen_ok, Sem.run_pure]
        rfl
      have hzz : ∀ e, z.cells = (I.zero.map (CV.den e)).toArray := fun e => by rw [hT.zero_den e, ← hzc]
      split at h
      · rename_i fs hfs
        rw [hfs] at hId
        obtain ⟨fields, rfl, rfl⟩ := hId
        split at h
        · rename_i ps hps
          split at h
          · rename_i cs hcs
            cases h
            refine key cs fun e => ?_
            unfold Program.built
            simp only [hi, hd, hz, szs_ok hty hps]
            rw [hzz e]
            refine (fillP_ok (place' := fun x => ps.toArray[x]?) (fun k x hk => ?_) e hcs).1
            rw [nth_eq] at hk
            simpa using hk
          · cases h
        · cases h
      · rename_i n e' hfs
        rw [hfs] at hId
        simp only [TyD.is] at hId
        subst hId
        split at h
        · rename_i J hJ
          split at h
          · rename_i cs hcs
            cases h
            refine key cs fun e => ?_
            obtain ⟨ie, z', hie, h1, _⟩ := (hty _ _ hJ).info
            unfold Program.built
            simp only [hi, hd, hz, hie]
            rw [hzz e, h1]
            exact (fillP_ok (fun k x hk => hk) e hcs).1
          · cases h
        · cases h
      · cases h
    · cases h
  · cases h
def repl : Nat → List CV → List CV
  | 0, _ => []
  | n + 1, l => app l (repl n l)
def stBuildSlice (ty : TypeId → Option Ty) (L : LL) (nx : Nat) (T : TypeId) (n : Nat) (parts : List (Nat × Operand)) : Option Eff := match ty T with
  | some I => match I.d with
    | .slice e => match ty e with
      | some J => match evP L parts with
        | some vs => match Nat.ble (n * J.size) 16777216 with
          | true => match fillP (fun k => some (k * J.size, J.size)) vs (repl n J.zero) with
            | some cs => some ⟨.t (.c (.sl nx 0 n n)), [(true, .cells cs e)], [], []⟩
            | none => none
          | false => none
        | none => none
      | none => none
    | _ => none
  | none => none
theorem repl_zero (z : List Value) (hz : 0 < z.length) : ∀ n, (List.range (n * z.length)).map (fun i => (z[i % z.length]?).getD default) = (List.replicate n z).flatten
  | 0 => by simp
  | n + 1 => by
    rw [Nat.succ_mul, List.range_add, List.map_append, repl_zero z hz n, List.replicate_succ', List.flatten_append]
    congr 1
    simp only [List.map_map, List.flatten_cons, List.flatten_nil, List.append_nil]
    apply List.ext_getElem?
    intro i
    simp only [List.getElem?_map]
    by_cases hi : i < z.length
    · simp [hi, Nat.mod_eq_of_lt hi]
    · simp [hi]
theorem repl_map (e : Env) (z : List CV) : ∀ n, (repl n z).map (CV.den e) = (List.replicate n (z.map (CV.den e))).flatten
  | 0 => rfl
  | n + 1 => by rw [repl, app_eq, List.map_append, repl_map e z n, List.replicate_succ, List.flatten_cons]
theorem repl_mem {c : CV} {z : List CV} : ∀ {n : Nat}, c ∈ repl n z → c ∈ z
  | 0, h => by cases h
  | n + 1, h => by
    rw [repl, app_eq] at h
    rcases List.mem_append.1 h with h | h
    · exact h
    · exact repl_mem h
theorem stBuildSlice_ok {P : Program} {F : Frm} {L : LL} {H : HF} {nx : Nat} {tys : List (Nat × Ty)} (hty : TysOk P tys) {o : Oper} {T : TypeId} {n : Nat} {parts : Array (Nat × Operand)} {E : Eff} (hop : o.op = .buildSlice T n parts) (h : stBuildSlice (fun t => look t tys) L nx T n parts.toList = some E) : StepOK P F (fun t => look t L) H nx o E := by
  unfold stBuildSlice at h
  split at h
  · rename_i I hI
    have hT := hty _ _ hI
    obtain ⟨d, hd, hId⟩ := hT.und
    split at h
    · rename_i E' hE'
      rw [hE'] at hId
      simp only [TyD.is] at hId
      subst hId
      split at h
      · rename_i J hJ
        have hTJ := hty _ _ hJ
        split at h
        · rename_i vs hvs
          split at h
          · rename_i hle
            split at h
            · rename_i cs hcs
              cases h
              have hle' := Nat.le_of_ble_eq_true hle
              refine step_newcells (fun hlow k hk => ?_) fun e a w S => ?_
              · rw [mem_flatN] at hk
                obtain ⟨l, hl, hk⟩ := hk
                obtain ⟨c, hc, rfl⟩ := List.mem_map.1 hl
                rcases (fillP_ok (place' := fun k => some (k * J.size, J.size)) (fun k x hk => hk) e0 hcs).2 c hc with h1 | ⟨x, hx, h1⟩
                · have h2 : k ∈ flatN (J.zero.map CV.ns) := mem_flatN.2 ⟨_, List.mem_map.2 ⟨c, repl_mem h1, rfl⟩, hk⟩
                  rw [hTJ.zns] at h2
                  cases h2
                · refine evP_low hlow hvs x hx k ?_
                  rw [← TV.cells_ns]
                  exact mem_flatN.2 ⟨_, List.mem_map.2 ⟨c, h1, rfl⟩, hk⟩
              · have hp : (parts.map fun x => (x.1, a.eval x.2)).toList = vs.map fun x => (x.1, x.2.den e) := by
                  rw [Array.toList_map]; exact evP_ok S hvs
                obtain ⟨z, hz, hzc⟩ := hTJ.run_zero (w := w)
                have hzz : z.cells = (J.zero.map (CV.den e)).toArray := by rw [hTJ.zero_den e, ← hzc]
                have hfill := (fillP_ok (place' := fun k => some (k * J.size, J.size)) (fun k x hk => hk) e hcs).1
                have hzl : z.cells.size = J.size := by rw [hzz]; simp [hTJ.zlen]
                have hgt : ¬ (n * J.size > 2 ^ 24) := by omega
                have hfill2 : ∀ zs : Array Value, zs = ((repl n J.zero).map (CV.den e)).toArray → Instr.fill (fun i => some (i * J.size, J.size)) zs (parts.map fun x => (x.1, a.eval x.2)).toList = some (cs.map (CV.den e)).toArray := by
                  rintro zs rfl
                  rw [hp]; exact hfill
                by_cases h0 : n * J.size = 0
                · have : Instr.fill (fun i => some (i * J.size, J.size)) #[] (parts.map fun x => (x.1, a.eval x.2)).toList = some (cs.map (CV.den e)).toArray := by
                    refine hfill2 #[] ?_
                    rw [repl_map]
                    rcases Nat.mul_eq_zero.1 h0 with h1 | h1
                    · subst h1; rfl
                    · have : J.zero = [] := List.eq_nil_of_length_eq_zero (by rw [hTJ.zlen]; exact h1)
                      rw [this]
                      simp
                  rw [Array.toList_map] at this
                  have this2 : Instr.fill (fun i => some (i * J.size, J.size)) (Array.map (fun _ => (default : Value)) (Array.range 0)) (parts.toList.map fun x => (x.1, a.eval x.2)) = some (cs.map (CV.den e)).toArray := by
                    rw [show Array.map (fun _ : Nat => (default : Value)) (Array.range 0) = #[] from by simp]; exact this
                  simp [execOp, hop, Instr.buildSlice, run_underlying hd, hTJ.run_size, hgt, h0, this2, newRow, CV.den, Env.new_blk]
                · have hpos : 0 < J.size := by
                    rcases Nat.eq_zero_or_pos J.size with h1 | h1
                    · rw [h1] at h0; simp at h0
                    · exact h1
                  have : Instr.fill (fun i => some (i * J.size, J.size)) ((Array.range (n * J.size)).map fun x => z.cells[x % z.cells.size]!) (parts.map fun x => (x.1, a.eval x.2)).toList = some (cs.map (CV.den e)).toArray := by
                    refine hfill2 _ ?_
                    rw [repl_map, ← repl_zero (J.zero.map (CV.den e)) (by simp [hTJ.zlen]; exact hpos) n]
                    simp only [List.length_map, hTJ.zlen]
                    rw [hzl, hzz]
                    apply Array.ext_getElem?
                    intro i
                    simp [Array.getElem!_eq_getD, Array.getD_eq_getD_getElem?]
                    rw [← Array.getElem?_toList, Array.toList_range]
                  rw [Array.toList_map] at this
                  simp [execOp, hop, Instr.buildSlice, run_underlying hd, hTJ.run_size, hgt, h0, hz, this, newRow, CV.den, Env.new_blk]
            · cases h
          · cases h
        · cases h
      · cases h
    · cases h
  · cases h
end Vc
