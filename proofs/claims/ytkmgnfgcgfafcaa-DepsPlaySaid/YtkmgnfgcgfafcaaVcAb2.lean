/- A walk by reckoning: contracts of methods of things told by one name. No program in sight. -/
import Derived.Test.YtkmgnfgcgfafcaaVcAb
namespace Vc
open Go Go.RowKit

def Env.comp (e : Env) (r : Nat → Nat) : Env := ⟨fun n => e.blk (r n), fun n => e.val (r n), fun n => e.fp (r n), fun n => e.one (r n)⟩
theorem CV.comp_den (e : Env) (r : Nat → Nat) (c : CV) : (c.re r).den e = c.den (e.comp r) := CV.re_den (e := e.comp r) (e' := e) fun n _ => ⟨rfl, rfl⟩
theorem TV.comp_den (e : Env) (r : Nat → Nat) (c : TV) : (c.re r).den e = c.den (e.comp r) := TV.re_den (e := e.comp r) (e' := e) fun n _ => ⟨rfl, rfl⟩
theorem reC_comp (e : Env) (r : Nat → Nat) (cs : List CV) : (reC r cs).map (CV.den e) = cs.map (CV.den (e.comp r)) := reC_den (e := e.comp r) (e' := e) fun n _ => ⟨rfl, rfl⟩
theorem Ob.re_back {e : Env} {r : Nat → Nat} {n : Nat} {w : World} {o : Ob} (h : (o.re r).holds e (r n) w) : o.holds (e.comp r) n w := by
  cases o with
  | cells cs t => exact ⟨h.1, by have := h.2; rw [reC_comp] at this; exact this⟩
  | _ => exact h
/-- A function that reads things under names of its own. -/
def rdsOk (r : Nat → Nat) (H : HL) : HL → Prop
  | [] => True
  | (n, some (false, o)) :: l => (∃ b0, lookH H (r n) = some (b0, o.re r)) ∧ rdsOk r H l
  | _ => False
theorem rdsOk_ok {r : Nat → Nat} {H : HL} : ∀ {H' : HL}, rdsOk r H H' → ∀ n b o, lookH H' n = some (b, o) → b = false ∧ ∃ b0, lookH H (r n) = some (b0, o.re r)
  | [], _, n, b, o, h => by cases h
  | (m, some (false, o')) :: l, hr, n, b, o, h => by
    rw [lookH_cons] at h
    split at h
    · rename_i hn
      cases h
      subst hn
      exact ⟨rfl, hr.1⟩
    · exact rdsOk_ok hr.2 n b o h
  | (m, some (true, o')) :: l, hr, n, b, o, h => hr.elim
  | (m, none) :: l, hr, n, b, o, h => hr.elim
theorem mem_rd (r : Nat → Nat) {H H' : HL} (h : rdsOk r H H') {e : Env} {w : World} (M : MemOk H e w) : Mem (fun _ => False) H' (e.comp r) w := by
  refine ⟨fun n b o hn => ?_, fun n o m c q hn hm hne => ?_⟩
  · obtain ⟨hb, b0, h0⟩ := rdsOk_ok h n b o hn
    obtain ⟨h1, h2⟩ := M.ob _ _ _ h0
    exact ⟨Ob.re_back h1, fun g hg => ⟨h2 g hg, fun hb' => by rw [hb] at hb'; cases hb'⟩⟩
  · have := (rdsOk_ok h n true o hn).1
    cases this
/-- A method that changes the thing it is called of. -/
theorem fnA {P : Program} {f : FuncId} {fn : Func} {c : Code} (N : Nat) (hf : P.funcs[f]? = some fn) (hb : fn.body = some c) (hN : fn.ntmps = N) {d : Nat} {bs : List TV} {H : HL} {nx : Nat} {φ φ' : AbP} {v v' : SV} {news news' : List (Bool × Ob)}
    (hd : lookH H d = some (true, .ab φ)) (v0 : Value) (hp0 : Pins φ v0) (hp1 : Pins φ' v0) (hbs : bares bs = true) (hl : Nat.ble (bs.length + 1) N = true) (hW : wfL 1 (argsL 0 ((TV.c (.nm 0) :: bs).map .t)) = true)
    (hv : v'.re (fun n => nx + (n - 1)) = v) (hnw : reN (fun n => nx + (n - 1)) news' = news) (hvr : inR 1 (1 + news'.length) v'.ns = true) (hnr : newsR 1 (1 + news'.length) news' = true)
    (hg : ∀ w W, At P ⟨w, W, N⟩ (bodyPost P fn (MPost w W v' ((true, .ab φ') :: news'))) c [] (argsL 0 ((TV.c (.nm 0) :: bs).map .t)) [(0, some (true, .ab φ))] 1) : FnH P f (.c (.nm d) :: bs) H nx ⟨v, news, [(d, some (.ab φ'))], []⟩ := by
  refine fnM N hf hb hN (args' := .c (.nm 0) :: bs) (H' := [(0, some (true, .ab φ))]) (nx' := 1) [(d, φ')] (fun e w M => ?_) hl hW rfl (fun e w M u hu v1 F w' h => ?_) (fun u hu => ?_) (by simp) hv hnw rfl hvr hnr hg
  · refine ⟨e.comp fun _ => d, ⟨fun n b o hn => ?_, fun n o m c q hn hm hne => ?_⟩, ?_⟩
    · rw [lookH_cons] at hn
      split at hn
      · cases hn
        obtain ⟨h1, h2⟩ := M.ob d true _ hd
        exact ⟨h1, fun g hg => ⟨h2 g hg, fun _ => ⟨(d, φ'), by simp, hg⟩⟩⟩
      · cases hn
    · rw [lookH_cons] at hn hm
      split at hn
      · split at hm
        · omega
        · cases hm
      · cases hn
    · rw [List.map_cons, List.map_cons, bares_den hbs e, ← bares_den hbs (e.comp fun _ => d)]
      rfl
  · simp only [List.mem_singleton] at hu
    subst hu
    rw [hp1 _ _ _ h]
    exact (hp0 _ _ _ (M.ob d true _ hd).1.1).symm
  · simp only [List.mem_singleton] at hu
    subst hu
    exact ⟨_, hd⟩
/-- A function that changes two things. -/
theorem fnA2 {P : Program} {f : FuncId} {fn : Func} {c : Code} (N : Nat) (hf : P.funcs[f]? = some fn) (hb : fn.body = some c) (hN : fn.ntmps = N) {d r : Nat} {bs : List TV} {H : HL} {nx : Nat} {φ φ' ψ ψ' : AbP} {v v' : SV} {news news' : List (Bool × Ob)}
    (hd : lookH H d = some (true, .ab φ)) (hr : lookH H r = some (true, .ab ψ)) (hdr : d ≠ r) (v0 u0 : Value) (hp0 : Pins φ v0) (hp1 : Pins φ' v0) (hq0 : Pins ψ u0) (hq1 : Pins ψ' u0) (hbs : bares bs = true) (hl : Nat.ble (bs.length + 2) N = true) (hW : wfL 2 (argsL 0 ((TV.c (.nm 0) :: TV.c (.nm 1) :: bs).map .t)) = true)
    (hv : v'.re (fun n => nx + (n - 2)) = v) (hnw : reN (fun n => nx + (n - 2)) news' = news) (hvr : inR 2 (2 + news'.length) v'.ns = true) (hnr : newsR 2 (2 + news'.length) news' = true)
    (hg : ∀ w W, At P ⟨w, W, N⟩ (bodyPost P fn (MPost w W v' ((true, .ab φ') :: (true, .ab ψ') :: news'))) c [] (argsL 0 ((TV.c (.nm 0) :: TV.c (.nm 1) :: bs).map .t)) [(0, some (true, .ab φ)), (1, some (true, .ab ψ))] 2) :
    FnH P f (.c (.nm d) :: .c (.nm r) :: bs) H nx ⟨v, news, [(d, some (.ab φ')), (r, some (.ab ψ'))], []⟩ := by
  refine fnM N hf hb hN (args' := .c (.nm 0) :: .c (.nm 1) :: bs) (H' := [(0, some (true, .ab φ)), (1, some (true, .ab ψ))]) (nx' := 2) [(d, φ'), (r, ψ')] (fun e w M => ?_) hl hW rfl (fun e w M u hu v1 F w' h => ?_) (fun u hu => ?_) (by simpa using hdr) hv hnw rfl hvr hnr hg
  · refine ⟨e.comp fun n => if n = 0 then d else r, ⟨fun n b o hn => ?_, fun n o m c q hn hm hne => ?_⟩, ?_⟩
    · rw [lookH_cons] at hn
      split at hn
      · rename_i h0
        cases hn
        subst h0
        obtain ⟨h1, h2⟩ := M.ob d true _ hd
        exact ⟨h1, fun g hg => ⟨h2 g hg, fun _ => ⟨(d, φ'), by simp, hg⟩⟩⟩
      · rw [lookH_cons] at hn
        split at hn
        · rename_i h0
          cases hn
          subst h0
          obtain ⟨h1, h2⟩ := M.ob r true _ hr
          exact ⟨h1, fun g hg => ⟨h2 g hg, fun _ => ⟨(r, ψ'), by simp, hg⟩⟩⟩
        · cases hn
    · have hc : ∀ {n : Nat} {z : Bool × Ob}, lookH [(0, some (true, .ab φ)), (1, some (true, .ab ψ))] n = some z → n = 0 ∨ n = 1 := by
        intro n z h
        rw [lookH_cons] at h
        split at h
        · left; assumption
        · rw [lookH_cons] at h
          split at h
          · right; assumption
          · cases h
      intro g hg hg'
      rcases hc hn with rfl | rfl <;> rcases hc hm with rfl | rfl
      · exact hne rfl
      · exact M.dj d _ r _ _ hd hr hdr g hg hg'
      · exact M.dj r _ d _ _ hr hd (fun h => hdr h.symm) g hg hg'
      · exact hne rfl
    · rw [List.map_cons, List.map_cons, List.map_cons, List.map_cons, bares_den hbs e, ← bares_den hbs (e.comp fun n => if n = 0 then d else r)]
      rfl
  · simp only [List.mem_cons, List.not_mem_nil, or_false] at hu
    rcases hu with rfl | rfl
    · rw [hp1 _ _ _ h]
      exact (hp0 _ _ _ (M.ob d true _ hd).1.1).symm
    · rw [hq1 _ _ _ h]
      exact (hq0 _ _ _ (M.ob r true _ hr).1.1).symm
  · simp only [List.mem_cons, List.not_mem_nil, or_false] at hu
    rcases hu with rfl | rfl
    · exact ⟨_, hd⟩
    · exact ⟨_, hr⟩
/-- A function that makes a thing that has a number. -/
theorem pins_ex {κ : Type} {φ : κ → AbP} {k : κ} {v : Value} (h : Pins (φ k) v) : Pins (φ k) v := h
/-- A thing is not nil. -/
def NotNil (φ : AbP) : Prop := ∀ v F w, φ v F w → ∃ b, v = ptr b
theorem NotNil.pins {φ : AbP} {b : Nat} (h : Pins φ (ptr b)) : NotNil φ := fun v F w hp => ⟨b, h v F w hp⟩
theorem NotNil.ex {φ : Nat → AbP} (h : ∀ b, Pins (φ b) (ptr b)) : NotNil (exP φ) := fun v F w ⟨b, hb⟩ => ⟨b, h b v F w hb⟩
theorem spec_nil {P : Program} {L : LL} {H : HL} {nx d : Nat} {b : Bool} {φ : AbP} {tys : List (Nat × Ty)} (hty : TysOk P tys) {o : Oper} {T T' : TypeId} {x y : Operand} {I : Ty} (hop : o.op = .binOp .eql T x y T') (hx : ev L x = some (.c (.nm d))) (hy : ev L y = some (.c .np)) (hT : look T tys = some I) (hI : I.d = .ptr)
    (hd : lookH H d = some (b, .ab φ)) (hp : NotNil φ) : Spec P L H nx o ⟨.t (.c (.b false)), [], [], []⟩ := by
  refine ⟨fun F => step_pure fun e a w S => ?_⟩
  obtain ⟨dt, hd', hId⟩ := (hty _ _ hT).und
  rw [hI] at hId
  obtain ⟨el, rfl⟩ := hId
  obtain ⟨v0, hv0⟩ := hp _ _ _ (S.ob d b _ hd).1.1
  have hv : a.eval x = ptr v0 := by
    rw [ev_ok S hx]
    exact hv0
  have heq : (Op.equal T (ptr v0) (.pointer none)).run P w = .ok false w := eq_pn 9999 hd' _
  have hbin := run_eq (w := w) (op := .eql) rfl (T := T) (x := ptr v0) (y := .pointer none) (r := false) heq (by simp [ptr]) (by simp [ptr]) (by simp [ptr]) (by simp [ptr])
  have hg : (eqGuard .eql T x y (ptr v0) (.pointer none)).run P w = .ok () w := rfl
  simp only [execOp, hop, Sem.run_bind, hv, ev_ok S hy, TV.den, CV.den, hg, Result.andThen_ok, hbin, Sem.run_pure]
  rfl
theorem Mv.weak1 {nx d : Nat} {v : SV} {news : List (Bool × Ob)} {φ φ' : AbP} {obs : List Prop} {e e' : Env} {w w' : World} (M : Mv nx ⟨v, news, [(d, some (.ab φ))], obs⟩ e e' w w') (hs : stable φ') (hp : ∀ v F w, φ v F w → φ' v F w) : Mv nx ⟨v, news, [(d, some (.ab φ'))], obs⟩ e e' w w' := by
  have hr : ∀ {g : Nat}, (∃ n o, (n, o) ∈ [(d, some (Ob.ab φ))] ∧ e.fp n g) → ∃ n o, (n, o) ∈ [(d, some (Ob.ab φ'))] ∧ e.fp n g := by
    rintro g ⟨n, o, ho, hg⟩
    simp at ho
    exact ⟨d, some (.ab φ'), by simp, ho.1 ▸ hg⟩
  cases M with
  | old M =>
    refine .old ⟨M.agree, M.os, M.tape, M.out, M.size, fun g hg hno => M.block g hg fun n o ho => ?_, fun k b o hk => ?_, M.ndj, fun n o ho => ?_⟩
    · simp at ho
      exact ho.1 ▸ hno d (some (.ab φ')) (by simp)
    · obtain ⟨h1, h2⟩ := M.news k b o hk
      refine ⟨h1, fun g hg => ⟨(h2 g hg).1, (h2 g hg).2.imp id fun ⟨n, hn, _⟩ => by simp at hn⟩⟩
    · simp at ho
      obtain ⟨rfl, rfl⟩ := ho
      have := M.upd n (.ab φ) (by simp)
      exact ⟨hp _ _ _ this.1, hs⟩
  | anew M =>
    refine .anew ⟨fun n hn => ⟨(M.agree n hn).1, fun ho => (M.agree n hn).2 fun o hm => ?_⟩, M.os, M.tape, M.out, M.size, fun g hg hno => M.block g hg fun n o ho => ?_, fun k b o hk => ?_, fun n o ho => ?_, M.ndj, fun n o m q hn hm => ?_, fun n o k hn => ?_⟩
    · simp at hm
      exact ho (some (.ab φ')) (by simp [hm.1])
    · simp at ho
      exact ho.1 ▸ hno d (some (.ab φ')) (by simp)
    · obtain ⟨h1, h2⟩ := M.news k b o hk
      exact ⟨h1, fun g hg => ⟨(h2 g hg).1, (h2 g hg).2.imp id hr⟩⟩
    · simp at ho
      obtain ⟨rfl, rfl⟩ := ho
      obtain ⟨h1, h2⟩ := M.upd n (.ab φ) (by simp)
      exact ⟨⟨hp _ _ _ h1.1, hs⟩, fun g hg => ⟨(h2 g hg).1, (h2 g hg).2.imp id hr⟩⟩
    · simp at hn hm
      intro hne
      exact absurd (hn.1.trans hm.1.symm) hne
    · simp at hn
      obtain ⟨rfl, rfl⟩ := hn
      exact M.nudj n (.ab φ) k (by simp)
/-- A method of a thing of which something is there. -/
theorem fnh_ex {κ : Type} {P : Program} {f : FuncId} {args : List TV} {H : HL} {nx d : Nat} {φ φ' : κ → AbP} {v : SV} {news : List (Bool × Ob)} {obs : List Prop} (hd : lookH H d = some (true, .ab (exP φ))) (hs : ∀ k, stable (φ k)) (hs' : ∀ k, stable (φ' k))
    (h : ∀ k, FnH P f args ((d, some (true, .ab (φ k))) :: H) nx ⟨v, news, [(d, some (.ab (φ' k)))], obs⟩) : FnH P f args H nx ⟨v, news, [(d, some (.ab (exP φ')))], obs⟩ := by
  refine ⟨fun hw ha e w M => ?_⟩
  obtain ⟨k, hk⟩ := (M.ob d true _ hd).1.1
  have M' : MemOk ((d, some (true, .ab (φ k))) :: H) e w := by
    refine ⟨fun n b o hn => ?_, fun n o m c q hn hm hne g hg hg' => ?_⟩
    · rw [lookH_cons] at hn
      split at hn
      · rename_i h1
        cases hn
        subst h1
        exact ⟨⟨hk, hs k⟩, (M.ob n _ _ hd).2⟩
      · exact M.ob n b o hn
    · rw [lookH_cons] at hn hm
      split at hn
      · rename_i h1
        cases hn
        subst h1
        rw [if_neg (fun h => hne h.symm)] at hm
        exact M.dj n _ m c q hd hm hne g hg hg'
      · split at hm
        · rename_i h1
          cases hm
          subst h1
          exact M.dj n o m _ _ hn hd hne g hg hg'
        · exact M.dj n o m c q hn hm hne g hg hg'
  refine Calls.mono ((h k).h (fun n x hn => ?_) ha e w M') ?_
  · rw [lookH_cons] at hn
    split at hn
    · rename_i h1
      cases hn
      subst h1
      exact ⟨(hw n _ hd).1, fun m hm => by simp [Ob.ns] at hm⟩
    · exact hw n x hn
  · rintro en w' ⟨e', rfl, M2⟩
    exact ⟨e', rfl, M2.weak1 (exP_stable hs') fun v F w hq => ⟨k, hq⟩⟩
end Vc
