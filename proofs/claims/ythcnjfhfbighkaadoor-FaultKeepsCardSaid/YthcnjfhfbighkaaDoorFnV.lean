/- Functions that are told by a name: what a closure answers; functions that take a thing and make others. No program in sight. -/
import Derived.Test.YthcnjfhfbighkaaDoorVcAb
import Derived.Maps.RangeRun
namespace Vc
open Go Go.RowKit
/-- A function value that answers so, whatever else is in the memory. -/
def fnP {α : Type} (P : Program) (arg : α → Value) (ok : α → Prop) (pd : α → Bool) : AbP := fun v F w =>
  ∃ g lb, v = .func (.func g) #[] lb ∧ fnB P g = true ∧ (∀ q, F q → q < w.heap.size) ∧ ∀ x, ok x → ∀ w', (∀ q, F q → w'.heap[q]? = w.heap[q]?) → Calls P g (#[arg x] ++ lb) w' fun en w'' => en = .returned (.bool (pd x)) ∧ Below w'.heap.size w' w''
theorem fnP_stable {α : Type} {P : Program} {arg : α → Value} {ok : α → Prop} {pd : α → Bool} : stable (fnP P arg ok pd) := by
  rintro v F w w' ⟨g, lb, h1, h2, h3, h4⟩ hk
  refine ⟨g, lb, h1, h2, fun q hq => ?_, fun x hx w2 h5 => h4 x hx w2 fun q hq => (h5 q hq).trans (hk q hq)⟩
  have h6 := hk q hq
  rw [Array.getElem?_eq_getElem (h3 q hq)] at h6
  exact (Array.getElem?_eq_some_iff.1 h6).1
theorem spec_fn {α : Type} {P : Program} {arg : α → Value} {ok : α → Prop} {pd : α → Bool} {L : LL} {H : HL} {nx d : Nat} {b : Bool} {o : Oper} {f y : Operand} {ats : Array TypeId} (x : α) {vx : TV} (hop : o.op = .call { callee := .value f, args := #[y], argTypes := ats })
    (hf : ev L f = some (.c (.nm d))) (hy : ev L y = some vx) (hd : lookH H d = some (b, .ab (fnP P arg ok pd))) (hx : ∀ e, vx.den e = arg x) (hok : ok x) : Spec P L H nx o ⟨.t (.c (.b (pd x))), [], [], []⟩ := by
  refine ⟨fun F hlow e a w S K Q hK => ?_⟩
  obtain ⟨g, lb, h1, h2, h3, h4⟩ := (S.ob d b _ hd).1.1
  have hf' : a.eval f = .func (.func g) #[] lb := (ev_ok S hf).trans h1
  have hy' : a.eval y = arg x := (ev_ok S hy).trans (hx e)
  have hrun : (execOp a.eval o).run P w = .ok (.enter g (#[arg x] ++ lb)) w := by
    have hargs : (#[y] : Array Operand).map a.eval = #[arg x] := by simp [hy']
    simp only [execOp, hop, resolve, hf', hargs, Deferred.ofValue, invoke, Sem.run_bind, Sem.run_pure, Result.andThen_ok, run_callFunc h2]
    simp
  unfold Oper.wp
  rw [hrun, Oper.upon_enter]
  refine (h4 x hok w fun _ _ => rfl).mono ?_
  rintro en w' ⟨rfl, hb⟩
  exact hK e w' (Mv.of_below hb)
/-- What a closure has caught is in the memory, and is not the thing l. -/
def capsOk (l : Nat) (H : HL) : HL → Prop
  | [] => True
  | (n, some (false, o)) :: t => Nat.beq n l = false ∧ (∃ b0, lookH H n = some (b0, o)) ∧ capsOk l H t
  | _ => False
theorem capsOk_ok {l : Nat} {H : HL} : ∀ {Hc : HL}, capsOk l H Hc → ∀ n b o, lookH Hc n = some (b, o) → b = false ∧ n ≠ l ∧ ∃ b0, lookH H n = some (b0, o)
  | [], _, n, b, o, h => by cases h
  | (m, some (false, o')) :: t, hr, n, b, o, h => by
    rw [lookH_cons] at h
    split at h
    · rename_i hn
      cases h
      subst hn
      refine ⟨rfl, fun h => ?_, hr.2.1⟩
      rw [h] at hr
      have h2 := hr.1
      rw [Nat.beq_refl] at h2
      cases h2
    · exact capsOk_ok hr.2.2 n b o h
  | (m, some (true, o')) :: t, hr, n, b, o, h => hr.elim
  | (m, none) :: t, hr, n, b, o, h => hr.elim
def fnFp (Hc : HL) (e : Env) (q : Nat) : Prop := ∃ n x, lookH Hc n = some x ∧ e.fp n q
/-- A closure is a function that is told by a name. -/
theorem fnP_of {α : Type} {P : Program} {arg : α → Value} {av : α → TV} {ok : α → Prop} {pd : α → Bool} {Hc : HL} {nc g : Nat} {caps : List (Nat × Nat)} (hav : ∀ x e, (av x).den e = arg x) (hbr : ∀ x, (av x).ns = [])
    (hg : fnB P g = true) (hW : wfH nc Hc = true) (hcn : wfL nc [(0, .t (.c (.fn (.func g) caps)))] = true) (hc : ∀ x, ok x → FnH P g (av x :: capsV caps) Hc nc ⟨.t (.c (.b (pd x))), [], [], []⟩) {e : Env} {w : World} (M : MemOk Hc e w) (hro : ∀ n b o, lookH Hc n = some (b, o) → b = false) :
    fnP P arg ok pd ((TV.c (.fn (.func g) caps)).den e) (fnFp Hc e) w := by
  have hwf := wf hcn hW
  refine ⟨g, _, rfl, hg, fun q ⟨n, x, h1, h2⟩ => (M.ob n x.1 x.2 h1).2 q h2, fun x hx w' hk => ?_⟩
  have M' : MemOk Hc e w' := ⟨fun n b o h => ⟨Ob.stays (M.ob n b o h).1 fun q hq => hk q ⟨n, _, h, hq⟩, fun q hq => by
      have h6 := hk q ⟨n, _, h, hq⟩
      have h7 := (M.ob n b o h).2 q hq
      rw [Array.getElem?_eq_getElem h7] at h6
      exact (Array.getElem?_eq_some_iff.1 h6).1⟩, M.dj⟩
  have := (hc x hx).h hwf.h (fun v hv n hn => ?_) e w' M'
  · rw [List.map_cons, hav, capsV_den] at this
    have e1 : (arg x :: caps.map fun (x : Nat × Nat) => Value.pointer (some ⟨e.blk x.1, x.2, none⟩)).toArray = #[arg x] ++ (caps.map fun (x : Nat × Nat) => Value.pointer (some ⟨e.blk x.1, x.2, none⟩)).toArray := by simp
    rw [e1] at this
    refine this.mono ?_
    rintro en w'' ⟨e', rfl, Mv⟩
    exact ⟨rfl, ⟨Mv.os, Mv.tape, Mv.out, Mv.size, fun q hq => Mv.block q hq fun n o ho => (by cases ho)⟩⟩
  · rcases List.mem_cons.1 hv with rfl | hv
    · rw [hbr] at hn; cases hn
    · exact hwf.l 0 _ rfl n (capsV_ns hv hn)
/-- A row and a function. -/
theorem mem_fn {α : Type} {P : Program} {arg : α → Value} {av : α → TV} {ok : α → Prop} {pd : α → Bool} {H Hc : HL} {nc g l n s : Nat} {T : TypeId} {xs : List Value} {caps : List (Nat × Nat)} (hav : ∀ x e, (av x).den e = arg x) (hbr : ∀ x, (av x).ns = [])
    (hg : fnB P g = true) (hW : wfH nc Hc = true) (hcn : wfL nc [(0, .t (.c (.fn (.func g) caps)))] = true) (hc : ∀ x, ok x → FnH P g (av x :: capsV caps) Hc nc ⟨.t (.c (.b (pd x))), [], [], []⟩) (hl : lookH H l = some (true, .own T s n xs)) (hs : capsOk l H Hc) {e : Env} {w : World} (M : MemOk H e w) :
    ∃ e', Mem (fun q => ∃ u ∈ [l], e.fp u q) [(0, some (true, .own T s n xs)), (1, some (false, .ab (fnP P arg ok pd)))] e' w ∧ [TV.c (.nm l), .c (.fn (.func g) caps)].map (TV.den e) = [TV.c (.nm 0), .c (.nm 1)].map (TV.den e') := by
  have Mc : MemOk Hc e w := ⟨fun n b o h => (let ⟨_, _, b0, h0⟩ := capsOk_ok hs n b o h; M.ob n b0 o h0), fun n o m c q h => by have := (capsOk_ok hs n _ _ h).1; cases this⟩
  have hp := fnP_of hav hbr hg hW hcn hc Mc fun n b o h => (capsOk_ok hs n b o h).1
  obtain ⟨⟨o1, o2⟩, o3⟩ := M.ob l true _ hl
  refine ⟨⟨e.blk, fun m => if m = 0 then e.val l else (TV.c (.fn (.func g) caps)).den e, fun m q => if m = 0 then e.fp l q else fnFp Hc e q, fun m => by
      show (if m = 0 then e.val l else (TV.c (.fn (.func g) caps)).den e).oneCell' = true
      split
      · exact e.one l
      · rfl⟩, ⟨fun n b o h => ?_, fun n o m c q h h' => ?_⟩, rfl⟩
  · rw [lookH_cons] at h
    split at h
    · rename_i hn
      cases h
      subst hn
      exact ⟨⟨o1, o2⟩, fun q hq => ⟨o3 q hq, fun _ => ⟨l, by simp, hq⟩⟩⟩
    · rw [lookH_cons] at h
      split at h
      · rename_i hn
        cases h
        subst hn
        exact ⟨⟨hp, fnP_stable⟩, fun q hq => ⟨let ⟨n, x, h1, h2⟩ := hq; (Mc.ob n x.1 x.2 h1).2 q h2, fun h => by cases h⟩⟩
      · cases h
  · rw [lookH_cons] at h h'
    split at h
    · rename_i hn
      split at h'
      · omega
      · rw [lookH_cons] at h'
        split at h'
        · rename_i hm
          subst hn hm
          rintro _ q hq ⟨j, x, h1, h2⟩
          obtain ⟨_, h3, b0, h4⟩ := capsOk_ok hs j x.1 x.2 h1
          exact M.dj l _ j b0 x.2 hl h4 (fun h => h3 h.symm) q hq h2
        · cases h'
    · rw [lookH_cons] at h
      split at h
      · cases h
      · cases h
/-- A function that takes things, and makes others: out of a walk from names of its own. -/
theorem fnK {P : Program} {f : FuncId} {fn : Func} {c : Code} (N : Nat) (hf : P.funcs[f]? = some fn) (hb : fn.body = some c) (hN : fn.ntmps = N) {args args' : List TV} {H H' : HL} {nx nx' : Nat} {v v' : SV} {news news' : List (Bool × Ob)} {upd : List (Nat × Option Ob)} (ks : List Nat)
    (hM : ∀ e w, MemOk H e w → ∃ e', Mem (fun g => ∃ u ∈ ks, e.fp u g) H' e' w ∧ args.map (TV.den e) = args'.map (TV.den e')) (hl : Nat.ble args'.length N = true) (hW : wfL nx' (argsL 0 (args'.map .t)) = true) (hW2 : wfH nx' H' = true)
    (hv : v'.re (nx + ·) = v) (hnw : reN (nx + ·) news' = news) (hu : ks.map (fun u => (u, none)) = upd) (hvr : inR 0 news'.length v'.ns = true) (hnr : newsR 0 news'.length news' = true)
    (hg : ∀ w W, At P ⟨w, W, N⟩ (bodyPost P fn (MPost w W v' news')) c [] (argsL 0 (args'.map .t)) H' nx') : FnH P f args H nx ⟨v, news, upd, []⟩ := by
  subst hv hnw hu
  refine ⟨fun hwf _ e w M => ?_⟩
  obtain ⟨e', M', he⟩ := hM e w M
  have := call_at N hf hb hN (args'.map .t) e' H' nx' _ (w := w) (by simpa using Nat.le_of_ble_eq_true hl) (wf hW hW2) M' (hg w _)
  rw [List.map_map] at this
  rw [he]
  refine Calls.mono this ?_
  rintro en w' ⟨e1, rfl, K, h1, h2⟩
  refine ⟨e.open e1 nx news'.length, ?_, .old ⟨?_, K.os, K.tape, K.out, K.size, ?_, ?_, ?_, ?_⟩⟩
  · show Ending.returned (v'.den e1) = _
    rw [SV.re_den (e := e1) fun n hn => (Env.open_new e e1 (inR_ok hvr n hn).2).1]
  · intro n hn
    simp only [reN_length] at hn
    refine ⟨?_, ?_, ?_⟩ <;> (show (if _ then _ else _) = _; rw [if_neg (by omega)])
  · exact fun g hg hno => K.block g hg fun ⟨u, hu, hgf⟩ => hno u none (List.mem_map.2 ⟨u, hu, rfl⟩) hgf
  · intro k b o hk
    rw [reN_get] at hk
    cases hk' : news'[k]? with
    | none => rw [hk'] at hk; cases hk
    | some z =>
      rw [hk'] at hk
      cases hk
      obtain ⟨b, o⟩ := z
      have hlt : k < news'.length := by
        rcases Nat.lt_or_ge k news'.length with h | h
        · exact h
        · rw [List.getElem?_eq_none h] at hk'; cases hk'
      obtain ⟨q1, q2⟩ := h1 k b o hk'
      obtain ⟨p1, p2⟩ := Env.open_new e e1 (nx := nx) hlt
      refine ⟨Ob.re_holds p1 p2 (fun m hm => (Env.open_new e e1 (newsR_ok hnr k b o hk' m hm).2).1) q1, fun g hg => ?_⟩
      rw [p2] at hg
      exact ⟨(q2 g hg).1, (q2 g hg).2.imp id fun ⟨u, hu, hgf⟩ => ⟨u, List.mem_map.2 ⟨u, hu, rfl⟩, hgf⟩⟩
  · intro j k hj hk hne g hg hg'
    simp only [reN_length] at hj hk
    rw [(Env.open_new e e1 hj).2] at hg
    rw [(Env.open_new e e1 hk).2] at hg'
    exact h2 j k hj hk hne g hg hg'
  · intro n o ho
    obtain ⟨u, _, h⟩ := List.mem_map.1 ho
    cases h
/-- The head of an own row, by a name of its own. -/
theorem Sat.headB {F : Frm} {L : LL} {H : HL} {nx k n m s t : Nat} {T : TypeId} {xs ys : List Value} {e : Env} {a : Act} {w : World} (S : Sat F (fun t => look t L) (lookH H) e a w) (hW : WF L H nx) (hl : look t L = some (.t (.c (.sub k 0 0 m)))) (hk : lookH H k = some (true, .own T s n xs)) (hm : m ≤ n) (hn : 0 < n) (hy : xs.take (m * s) = ys) :
    WF ((t, .t (.c (.nm nx))) :: L) ((nx, some (true, .own T s m ys)) :: (k, none) :: H) (nx + 1) ∧ ∃ e', Sat F (fun t' => look t' ((t, .t (.c (.nm nx))) :: L)) (lookH ((nx, some (true, .own T s m ys)) :: (k, none) :: H)) e' a w := by
  refine ⟨⟨fun t' v hv n hn => ?_, fun n x hx => ?_⟩, ?_⟩
  · rw [look_cons] at hv
    split at hv
    · cases hv
      have : n = nx := by simpa [SV.ns, TV.ns, CV.ns] using hn
      omega
    · have := hW.l t' v hv n hn
      omega
  · rw [lookH_cons] at hx
    split at hx
    · cases hx
      exact ⟨by omega, fun m hm => by simp [Ob.ns] at hm⟩
    · rw [lookH_cons] at hx
      split at hx
      · cases hx
      · obtain ⟨h1, h2⟩ := hW.h n x hx
        exact ⟨by omega, fun m hm => by have := h2 m hm; omega⟩
  · obtain ⟨⟨ho, hf⟩, hlt⟩ := S.ob k true _ hk
    have hlen := ho.1
    rcases ho.2 with ⟨_, h0⟩ | ⟨g, cap, cur, hv, h1, h2, h3, h4, h5, h6⟩
    · omega
    have hsl := S.sl _ _ hl
    have hv' : (CV.sub k 0 0 m).den e = .slice (some ⟨g, 0, none⟩) m cap := by
      have hc : ¬ cap = 0 := by omega
      simp [CV.den, hv, hc, Addr.add]
    have hown : w.ownsRow 0 T s (.slice (some ⟨g, 0, none⟩) m cap) m ys := by
      refine ⟨?_, .inr ⟨g, cap, cur, rfl, Nat.zero_le _, h2, by omega, h4, h5, ?_⟩⟩
      · rw [← hy, List.length_take, hlen]
        exact Nat.min_eq_left (Nat.mul_le_mul_right s hm)
      · rw [← hy, ← h6, List.take_take, Nat.min_eq_left (Nat.mul_le_mul_right s hm)]
    have hob : ∀ q, (e.newV nx (.slice (some ⟨g, 0, none⟩) m cap)).fp nx q ↔ g = q := fun q => by
      rw [Env.newV_fp]; simp [Value.ownBlock]
    have hkf : ∀ q, e.fp k q ↔ g = q := fun q => by rw [hf, hv]; simp [Value.ownBlock]
    have hsame : ∀ n, n < nx → e.same (e.newV nx (.slice (some ⟨g, 0, none⟩) m cap)) n := fun n hn => Env.newV_same e (by omega)
    refine ⟨e.newV nx (.slice (some ⟨g, 0, none⟩) m cap), S.fr, S.sz, S.df, fun t' v hv2 => ?_, fun n b o hx => ?_, fun n o m' c' q hn2 hm2 hne g' hg hg' => ?_⟩
    · simp only [look_cons] at hv2
      split at hv2
      · rename_i ht
        cases hv2
        subst ht
        rw [hsl]
        simp only [SV.den, TV.den]
        rw [hv']
        exact (Env.newV_val (v := .slice (some ⟨g, 0, none⟩) m cap) e nx rfl).symm
      · rw [S.sl t' v hv2]
        exact (SV.den_same fun n hn => hsame n (hW.l t' v hv2 n hn)).symm
    · rw [lookH_cons] at hx
      split at hx
      · rename_i hn2
        cases hx
        subst hn2
        refine ⟨⟨by rw [Env.newV_val _ _ rfl]; exact hown, fun q => by rw [Env.newV_fp, Env.newV_val _ _ rfl]⟩, fun q hq => hlt q ((hkf q).2 ((hob q).1 hq)) |>.imp id id⟩
      · rw [lookH_cons] at hx
        split at hx
        · cases hx
        · obtain ⟨h1, h2⟩ := hW.h n _ hx
          obtain ⟨h3, h4⟩ := S.ob n b o hx
          have hs := hsame n h1
          refine ⟨Ob.same hs h3 fun m hm => (hsame m (h2 m hm)).v, fun g hg => ?_⟩
          rw [hs.2.2] at hg
          exact h4 g hg
    · rw [lookH_cons] at hn2 hm2
      split at hn2
      · rename_i e1
        subst e1
        rw [hob] at hg
        split at hm2
        · omega
        · rw [lookH_cons] at hm2
          split at hm2
          · cases hm2
          · rename_i hmk
            rw [(hsame m' (hW.h m' _ hm2).1).2.2] at hg'
            exact S.dj k _ m' c' q hk hm2 (fun h => hmk h.symm) g' ((hkf g').2 hg) hg'
      · rw [lookH_cons] at hn2
        split at hn2
        · cases hn2
        · rename_i hnk
          rw [(hsame n (hW.h n _ hn2).1).2.2] at hg
          split at hm2
          · rename_i e1
            subst e1
            rw [hob] at hg'
            exact S.dj n o k true _ hn2 hk hnk g' hg ((hkf g').2 hg')
          · rw [lookH_cons] at hm2
            split at hm2
            · cases hm2
            · rw [(hsame m' (hW.h m' _ hm2).1).2.2] at hg'
              exact S.dj n o m' c' q hn2 hm2 hne g' hg hg'
theorem Done.head {F : Frm} {L : LL} {H : HL} {nx n m s : Nat} {T : TypeId} {xs ys : List Value} {Q : Act → World → Prop} (t k : Nat) (hl : look t L = some (.t (.c (.sub k 0 0 m)))) (hk : lookH H k = some (true, .own T s n xs)) (hm : m ≤ n) (hn : 0 < n) (hy : xs.take (m * s) = ys)
    (h : Done F Q ((t, .t (.c (.nm nx))) :: L) ((nx, some (true, .own T s m ys)) :: (k, none) :: H) (nx + 1)) : Done F Q L H nx :=
  ⟨fun hW e a w S => let ⟨W', e', S'⟩ := S.headB hW hl hk hm hn hy; h.h W' e' a w S'⟩
theorem Done.nilCell {F : Frm} {Q : Act → World → Prop} {L : LL} {H : HL} {nx : Nat} {b : Bool} {cs cs' : List CV} {U : TypeId} (k i : Nat) (T : TypeId) (s : Nat) (hk : lookH H k = some (b, .cells cs U)) (hi : cs[i]? = some .nsl) (hs : cs.set i (.nm nx) = cs')
    (h : Done F Q L ((k, some (b, .cells cs' U)) :: (nx, some (true, .own T s 0 [])) :: H) (nx + 1)) : Done F Q L H nx := by
  subst hs
  refine ⟨fun hW e a w S => h.h ⟨fun t' v hv n hn => ?_, fun n x hx => ?_⟩ (e.newV nx (.slice none 0 0)) a w ?_⟩
  · have := hW.l t' v hv n hn
    omega
  · obtain ⟨g1, g2⟩ := hW.h k _ hk
    rw [lookH_cons] at hx
    split at hx
    · rename_i hn
      cases hx
      refine ⟨by omega, fun m hm => ?_⟩
      simp only [Ob.ns] at hm
      obtain ⟨l, hl, hm⟩ := mem_flatN.1 hm
      obtain ⟨c', hc', rfl⟩ := List.mem_map.1 hl
      rcases List.mem_or_eq_of_mem_set hc' with h1 | h1
      · have := g2 m (by simp only [Ob.ns]; exact mem_flatN.2 ⟨_, List.mem_map.2 ⟨c', h1, rfl⟩, hm⟩)
        omega
      · subst h1
        simp [CV.ns] at hm
        omega
    · rw [lookH_cons] at hx
      split at hx
      · cases hx
        exact ⟨by omega, fun m hm => by simp [Ob.ns] at hm⟩
      · obtain ⟨h1, h2⟩ := hW.h n x hx
        exact ⟨by omega, fun m hm => by have := h2 m hm; omega⟩
  · have hkl := (hW.h k _ hk).1
    have hsame : ∀ n, n < nx → e.same (e.newV nx (.slice none 0 0)) n := fun n hn => Env.newV_same e (by omega)
    have hno : ∀ g, ¬ (e.newV nx (.slice none 0 0)).fp nx g := fun g hg => by
      have := (Env.newV_fp e nx (.slice none 0 0) g).1 hg
      cases this
    have hval : (e.newV nx (.slice none 0 0)).val nx = .slice none 0 0 := Env.newV_val (v := .slice none 0 0) e nx rfl
    have cut : ∀ {n : Nat} {z : Bool × Ob}, lookH ((k, some (b, .cells (cs.set i (.nm nx)) U)) :: (nx, some (true, .own T s 0 [])) :: H) n = some z → n = k ∧ z = (b, .cells (cs.set i (.nm nx)) U) ∨ n = nx ∧ z = (true, .own T s 0 []) ∨ n ≠ k ∧ n ≠ nx ∧ lookH H n = some z := by
      intro n z hz
      rw [lookH_cons] at hz
      split at hz
      · rename_i hn; cases hz; exact .inl ⟨hn, rfl⟩
      · rename_i hn
        rw [lookH_cons] at hz
        split at hz
        · rename_i hn'; cases hz; exact .inr (.inl ⟨hn', rfl⟩)
        · rename_i hn'; exact .inr (.inr ⟨hn, hn', hz⟩)
    have old : ∀ {n : Nat} {z : Bool × Ob}, lookH ((k, some (b, .cells (cs.set i (.nm nx)) U)) :: (nx, some (true, .own T s 0 [])) :: H) n = some z → n ≠ nx → ∃ q, lookH H n = some (z.1, q) := by
      intro n z hz hne
      rcases cut hz with ⟨rfl, rfl⟩ | ⟨h1, _⟩ | ⟨_, _, h1⟩
      · exact ⟨_, hk⟩
      · exact absurd h1 hne
      · exact ⟨_, h1⟩
    refine ⟨S.fr, S.sz, S.df, fun t' v hv => ?_, fun n b' o hx => ?_, fun n o m c' q hn hm hne g hg hg' => ?_⟩
    · rw [S.sl t' v hv]
      exact (SV.den_same fun n hn => hsame n (hW.l t' v hv n hn)).symm
    · rcases cut hx with ⟨rfl, hz⟩ | ⟨rfl, hz⟩ | ⟨h1, h2, hz⟩
      · cases hz
        obtain ⟨⟨q1, q2⟩, q3⟩ := S.ob _ _ _ hk
        have hs := hsame n hkl
        refine ⟨⟨by rw [hs.2.2, hs.1]; exact q1, ?_⟩, fun g hg => by rw [hs.2.2] at hg; exact q3 g hg⟩
        rw [hs.1, q2]
        have hcs : (cs.set i (.nm nx)).map (CV.den (e.newV nx (.slice none 0 0))) = cs.map (CV.den e) := by
          have hold := cells_samev (e := e) (e' := e.newV nx (.slice none 0 0)) (cs := cs) fun m hm => (hsame m ((hW.h n _ hk).2 m hm)).v
          rw [List.map_set, hold]
          apply List.ext_getElem?
          intro j
          rw [List.getElem?_set]
          split
          · rename_i hj
            subst hj
            have : i < cs.length := (List.getElem?_eq_some_iff.1 hi).1
            rw [if_pos (by simpa using this), List.getElem?_map, hi]
            simp [CV.den, hval]
          · rfl
        rw [hcs]
      · cases hz
        exact ⟨⟨⟨by simp, .inl ⟨hval, rfl⟩⟩, fun g => by rw [Env.newV_fp, hval]⟩, fun g hg => (hno g hg).elim⟩
      · obtain ⟨g1, g2⟩ := hW.h n _ hz
        obtain ⟨h3, h4⟩ := S.ob n b' o hz
        have hs := hsame n g1
        refine ⟨Ob.same hs h3 fun m hm => (hsame m (g2 m hm)).v, fun g hg => ?_⟩
        rw [hs.2.2] at hg
        exact h4 g hg
    · have hnn : n ≠ nx := fun h => by subst h; exact hno g hg
      have hmm : m ≠ nx := fun h => by subst h; exact hno g hg'
      obtain ⟨q1, h1⟩ := old hn hnn
      obtain ⟨q2, h2⟩ := old hm hmm
      rw [(hsame n (hW.h n _ h1).1).2.2] at hg
      rw [(hsame m (hW.h m _ h2).1).2.2] at hg'
      exact S.dj n q1 m c' q2 h1 h2 hne g hg hg'
theorem At.foldR {P : Program} {F : Frm} {Q : Exit → Act → World → Prop} {c : Code} {ks : List KI} {L : LL} {H : HL} {nx : Nat} (t : Tmp) (y : CV) (ρ : List (Nat × Nat)) (O : List (Bool × Ob)) (x : CV) (hl : look t L = some (.t (.c y))) (hy : allP (y.eqs ρ x)) (hH : allP (subH ρ H (newsH 0 O))) (hi : injK ρ (keysH (newsH 0 O)) [] = true) (hf : okF O = true) (hone : ∀ e : Env, (x.den e).oneCell' = true)
    (h : At P F Q c ks ((t, .t (.c (.nm nx))) :: L) ((nx, some (true, .ab (absP O x))) :: killH ρ 0 O.length H) (nx + 1)) : At P F Q c ks L H nx :=
  ⟨fun hW e a w S => let ⟨hW', e', S'⟩ := S.foldR hW hH hi hf hone hl hy; h.h hW' e' a w S'⟩
theorem Sat.foldE {F : Frm} {L : LL} {H : HL} {nx : Nat} {O : List (Bool × Ob)} {x : CV} {ρ : List (Nat × Nat)} {e : Env} {a : Act} {w : World} (S : Sat F (fun t => look t L) (lookH H) e a w) (hW : WF L H nx) (hH : allP (subH ρ H (newsH 0 O))) (hi : injK ρ (keysH (newsH 0 O)) [] = true) (hf : okF O = true) (hone : ∀ e : Env, (x.den e).oneCell' = true) :
    WF L ((nx, some (true, .ab (absP O x))) :: killH ρ 0 O.length H) (nx + 1) ∧ Sat F (fun t => look t L) (lookH ((nx, some (true, .ab (absP O x))) :: killH ρ 0 O.length H)) (e.shut ρ nx O.length (x.den (e.ren ρ))) a w := by
  have S' := S.sub (L' := []) ρ trivial hH hi
  have hlk : ∀ {k : Nat}, k < O.length → ∃ b o, O[k]? = some (b, o) ∧ lookH (newsH 0 O) k = some (b, o) ∧ ∃ b' o', lookH H (Vc.ren ρ k) = some (b', o') ∧ (b = true → b' = true) := by
    intro k hk
    have h1 : O[k]? = some (O[k].1, O[k].2) := by rw [List.getElem?_eq_getElem hk]
    have h2 : lookH (newsH 0 O) k = some (O[k].1, O[k].2) := by rw [lookH_newsH, if_pos (by omega), Nat.sub_zero]; exact h1
    obtain ⟨b', o', q1, q2, _⟩ := subH_ok (e := e) (w := w) hH k _ _ h2
    exact ⟨_, _, h1, h2, b', o', q1, q2⟩
  have hemp : ∀ {k : Nat} {b : Bool} {o : Ob}, O[k]? = some (b, o) → b = false → ∀ g, ¬ (e.ren ρ).fp k g := by
    intro k b o hk hb g
    have hlt : k < O.length := by
      rcases Nat.lt_or_ge k O.length with h | h
      · exact h
      · rw [List.getElem?_eq_none h] at hk; cases hk
    have h2 : lookH (newsH 0 O) k = some (b, o) := by rw [lookH_newsH, if_pos (by omega), Nat.sub_zero]; exact hk
    rcases okF_ok hf k b o hk with h | ⟨m, y, h⟩
    · rw [hb] at h; cases h
    · subst h
      exact (S'.ob k _ _ h2).1.1 g
  have hfull : ∀ {k : Nat} {g : Nat}, k < O.length → e.fp (Vc.ren ρ k) g → ∃ o o', lookH (newsH 0 O) k = some (true, o) ∧ lookH H (Vc.ren ρ k) = some (true, o') := by
    intro k g hk hg
    obtain ⟨b, o, h1, h2, b', o', h3, h4⟩ := hlk hk
    cases b with
    | true => rw [h4 rfl] at h3; exact ⟨o, o', h2, h3⟩
    | false => exact (hemp h1 rfl g hg).elim
  have hv1 : (e.shut ρ nx O.length (x.den (e.ren ρ))).val nx = x.den (e.ren ρ) := by
    show (if nx = nx then (if _ then _ else uv) else _) = _
    rw [if_pos rfl, if_pos (hone _)]
  have hf1 : (e.shut ρ nx O.length (x.den (e.ren ρ))).fp nx = fun g => ∃ j, j < O.length ∧ e.fp (Vc.ren ρ j) g := by
    show (if nx = nx then _ else _) = _
    rw [if_pos rfl]
  refine ⟨⟨fun t v hv n hn => by have := hW.l t v hv n hn; omega, fun n z hz => ?_⟩, ⟨S.fr, S.sz, S.df, fun t v hv => ?_, fun n b o hz => ?_, fun n o m c q hn hm hne g hg hg' => ?_⟩⟩
  · rw [lookH_cons] at hz
    split at hz
    · rename_i hn
      cases hz
      exact ⟨by omega, fun m hm => by simp [Ob.ns] at hm⟩
    · obtain ⟨h1, _⟩ := look_killH ρ H n _ _ hz
      obtain ⟨g1, g2⟩ := hW.h n z h1
      exact ⟨by omega, fun m hm => by have := g2 m hm; omega⟩
  · rw [S.sl t v hv]
    exact (SV.den_same fun n hn => Env.shut_same e (by have := hW.l t v hv n hn; omega)).symm
  · rw [lookH_cons] at hz
    split at hz
    · rename_i hn
      cases hz
      subst hn
      refine ⟨⟨?_, absP_stable O x⟩, fun g hg => ?_⟩
      · rw [hv1, hf1]
        refine ⟨e.ren ρ, rfl, fun k b o hk => ?_, fun j k hj hk hne g h1 h2 => ?_, fun g => Iff.rfl, fun g ⟨j, hj, hg⟩ => ?_⟩
        · have hlt : k < O.length := by
            rcases Nat.lt_or_ge k O.length with h | h
            · exact h
            · rw [List.getElem?_eq_none h] at hk; cases hk
          have h2 : lookH (newsH 0 O) k = some (b, o) := by rw [lookH_newsH, if_pos (by omega), Nat.sub_zero]; exact hk
          exact ⟨(S'.ob k _ _ h2).1, hemp hk⟩
        · obtain ⟨o, _, q1, _⟩ := hfull hj h1
          obtain ⟨o', _, q2, _⟩ := hfull hk h2
          exact S'.dj _ _ _ _ _ q1 q2 hne g h1 h2
        · obtain ⟨o, _, q1, _⟩ := hfull hj hg
          exact ((S'.ob _ _ _ q1).2 g hg).1
      · rw [hf1] at hg
        obtain ⟨j, hj, hg⟩ := hg
        obtain ⟨o, _, q1, _⟩ := hfull hj hg
        obtain ⟨p1, p2⟩ := (S'.ob _ _ _ q1).2 g hg
        exact ⟨p1, fun _ => p2 rfl⟩
    · rename_i hn
      obtain ⟨h1, _⟩ := look_killH ρ H n _ _ hz
      obtain ⟨h3, h4⟩ := S.ob n b o h1
      have hs := Env.shut_same (ρ := ρ) (k := O.length) (v := x.den (e.ren ρ)) e hn
      refine ⟨Ob.same hs h3 fun m hm => (Env.shut_same e (by have := (hW.h n _ h1).2 m hm; omega)).v, fun g hg => ?_⟩
      rw [hs.2.2] at hg
      exact h4 g hg
  · rw [lookH_cons] at hn hm
    split at hn
    · rename_i h1
      subst h1
      rw [if_neg (fun h => hne h.symm)] at hm
      obtain ⟨k1, k2⟩ := look_killH ρ H m _ _ hm
      rw [hf1] at hg
      obtain ⟨j, hj, hg⟩ := hg
      rw [(Env.shut_same (ρ := ρ) (k := O.length) (v := x.den (e.ren ρ)) e (fun h => hne h.symm)).2.2] at hg'
      obtain ⟨_, o', _, q2⟩ := hfull hj hg
      exact S.dj _ _ m c q q2 k1 (fun h => k2 j (by omega) (by omega) h.symm) g hg hg'
    · rename_i hnn
      obtain ⟨k1, k2⟩ := look_killH ρ H n _ _ hn
      rw [(Env.shut_same (ρ := ρ) (k := O.length) (v := x.den (e.ren ρ)) e hnn).2.2] at hg
      split at hm
      · rename_i h1
        subst h1
        rw [hf1] at hg'
        obtain ⟨j, hj, hg'⟩ := hg'
        obtain ⟨_, o', _, q2⟩ := hfull hj hg'
        exact S.dj n o _ _ _ k1 q2 (fun h => k2 j (by omega) (by omega) h) g hg hg'
      · rename_i hmn
        obtain ⟨k3, _⟩ := look_killH ρ H m _ _ hm
        rw [(Env.shut_same (ρ := ρ) (k := O.length) (v := x.den (e.ren ρ)) e hmn).2.2] at hg'
        exact S.dj n o m c q k1 k3 hne g hg hg'
/-- The names that a closing takes. -/
def trueU (ρ : List (Nat × Nat)) : Nat → List (Bool × Ob) → List (Nat × Option Ob)
  | _, [] => []
  | k, (true, _) :: l => (Vc.ren ρ k, none) :: trueU ρ (k + 1) l
  | k, (false, _) :: l => trueU ρ (k + 1) l
theorem trueU_mem {ρ : List (Nat × Nat)} : ∀ {l : List (Bool × Ob)} {k j : Nat} {o : Ob}, l[j]? = some (true, o) → (Vc.ren ρ (k + j), none) ∈ trueU ρ k l
  | [], k, j, o, h => by simp at h
  | (b, o') :: l, k, 0, o, h => by
    simp at h
    obtain ⟨rfl, rfl⟩ := h
    exact List.mem_cons.2 (.inl rfl)
  | (true, o') :: l, k, j + 1, o, h => by
    have := trueU_mem (ρ := ρ) (k := k + 1) (j := j) (l := l) (by simpa using h)
    rw [show k + 1 + j = k + (j + 1) by omega] at this
    exact List.mem_cons.2 (.inr this)
  | (false, o') :: l, k, j + 1, o, h => by
    have := trueU_mem (ρ := ρ) (k := k + 1) (j := j) (l := l) (by simpa using h)
    rw [show k + 1 + j = k + (j + 1) by omega] at this
    exact this
theorem trueU_none {ρ : List (Nat × Nat)} : ∀ {l : List (Bool × Ob)} {k n : Nat} {o : Option Ob}, (n, o) ∈ trueU ρ k l → o = none
  | [], _, _, _, h => by cases h
  | (true, _) :: l, k, n, o, h => by
    rcases List.mem_cons.1 h with h | h
    · cases h; rfl
    · exact trueU_none h
  | (false, _) :: l, k, n, o, h => trueU_none (l := l) h
theorem bares_no : ∀ {l : List TV}, bares l = true → ∀ v ∈ l, ∀ n, ¬ n ∈ v.ns
  | [], _, v, h, _ => by cases h
  | u :: l, hb, v, h, n => by
    unfold bares at hb
    split at hb
    · rename_i h1
      rcases List.mem_cons.1 h with rfl | h
      · intro hn
        cases hv : v.ns with
        | nil => rw [hv] at hn; cases hn
        | cons a t => rw [hv] at h1; cases h1
      · exact bares_no hb v h n
    · cases hb
/-- A contract on a thing told by one name, where the thing is open. -/
theorem fnh_open {P : Program} {f : FuncId} {bs : List TV} {H : HL} {nx : Nat} {O O' : List (Bool × Ob)} {x y : CV} {v : SV} {news : List (Bool × Ob)} {upd : List (Nat × Option Ob)} (ρ : List (Nat × Nat)) (hH : allP (subH ρ H (newsH 0 O))) (hi : injK ρ (keysH (newsH 0 O)) [] = true) (hf : okF O = true) (hone : ∀ e : Env, (x.den e).oneCell' = true)
    (hy : allP (y.eqs ρ x)) (hbs : bares bs = true) (hv : bare v.ns = true) (hO : newsR 0 O'.length O' = true) (hnw : reN (nx + ·) O' = news) (hu : trueU ρ 0 O = upd)
    (hc : ∀ (H : HL) (nx d : Nat), lookH H d = some (true, .ab (absP O x)) → FnH P f (.c (.nm d) :: bs) H nx ⟨v, [], [(d, some (.ab (absP O' x)))], []⟩) : FnH P f (.c y :: bs) H nx ⟨v, news, upd, []⟩ := by
  subst hnw hu
  refine ⟨fun hwf _ e w M => ?_⟩
  have S : Sat ⟨w, fun _ => True, 0⟩ (fun t => look t []) (lookH H) e ⟨#[], []⟩ w := ⟨⟨rfl, rfl, rfl, Nat.le_refl _, fun _ _ h => (h trivial).elim⟩, rfl, rfl, fun t v h => (by cases h), fun n b o h => ⟨(M.ob n b o h).1, fun g hg => ⟨(M.ob n b o h).2 g hg, fun _ => .inr trivial⟩⟩, M.dj⟩
  have hW : WF [] H nx := ⟨fun t v h => (by cases h), hwf⟩
  obtain ⟨hW', S'⟩ := S.foldE hW hH hi hf hone
  have hpin : ∀ j b o, O[j]? = some (b, o) → b = false → ∀ g, ¬ e.fp (Vc.ren ρ j) g := by
    intro j b o hj hb g
    have hlt : j < O.length := by
      rcases Nat.lt_or_ge j O.length with h | h
      · exact h
      · rw [List.getElem?_eq_none h] at hj; cases hj
    have h2 : lookH (newsH 0 O) j = some (b, o) := by rw [lookH_newsH, if_pos (by omega), Nat.sub_zero]; exact hj
    rcases okF_ok hf j b o hj with h | ⟨m, z, h⟩
    · rw [hb] at h; cases h
    · subst h
      exact ((S.sub (L' := []) ρ trivial hH hi).ob j _ _ h2).1.1 g
  have hf1 : ∀ g, (e.shut ρ nx O.length (x.den (e.ren ρ))).fp nx g → ∃ n, (n, none) ∈ trueU ρ 0 O ∧ e.fp n g := by
    intro g hg
    have hg' : ∃ j, j < O.length ∧ e.fp (Vc.ren ρ j) g := by simpa [Env.shut] using hg
    obtain ⟨j, hj, hg2⟩ := hg'
    have h1 : O[j]? = some (O[j].1, O[j].2) := by rw [List.getElem?_eq_getElem hj]
    cases hb : O[j].1 with
    | false => exact (hpin j _ _ h1 hb g hg2).elim
    | true =>
      rw [hb] at h1
      have := trueU_mem (ρ := ρ) (k := 0) h1
      rw [Nat.zero_add] at this
      exact ⟨_, this, hg2⟩
  have hv1 : (e.shut ρ nx O.length (x.den (e.ren ρ))).val nx = y.den e := by
    have : (e.shut ρ nx O.length (x.den (e.ren ρ))).val nx = x.den (e.ren ρ) := by simp [Env.shut, hone]
    rw [this]
    exact (CV.eqs_ok (e := e) hy).symm
  have hnx : lookH ((nx, some (true, .ab (absP O x))) :: killH ρ 0 O.length H) nx = some (true, .ab (absP O x)) := by rw [lookH_cons, if_pos rfl]
  have c := (hc _ (nx + 1) nx hnx).h hW'.h (fun v hv n hn => by
    rcases List.mem_cons.1 hv with rfl | hv
    · have : n = nx := by simpa [TV.ns, CV.ns] using hn
      omega
    · exact (bares_no hbs v hv n hn).elim) _ w S'.memOk
  have hargs : (TV.c (.nm nx) :: bs).map (TV.den (e.shut ρ nx O.length (x.den (e.ren ρ)))) = (TV.c y :: bs).map (TV.den e) := by
    rw [List.map_cons, List.map_cons, bares_den hbs e, ← bares_den hbs (e.shut ρ nx O.length (x.den (e.ren ρ)))]
    congr 1
  rw [hargs] at c
  refine Calls.mono c ?_
  rintro en w' ⟨e2, rfl, Mv⟩
  have hold := S'.ob nx true _ hnx
  have hab : absP O' x (e2.val nx) (e2.fp nx) w' ∧ ∀ g, e2.fp nx g → g < w'.heap.size ∧ (w.heap.size ≤ g ∨ ∃ n, (n, none) ∈ trueU ρ 0 O ∧ e.fp n g) := by
    cases Mv with
    | old M2 =>
      have h1 := M2.upd nx (.ab (absP O' x)) (by simp)
      have h2 := (M2.agree nx (.inl (Nat.lt_succ_self nx))).2.2
      refine ⟨h1.1, fun g hg => ?_⟩
      rw [h2] at hg
      have h3 := (hold.2 g hg).1
      exact ⟨Nat.lt_of_lt_of_le h3 M2.size, .inr (hf1 g hg)⟩
    | anew M2 =>
      obtain ⟨h1, h2⟩ := M2.upd nx (.ab (absP O' x)) (by simp)
      refine ⟨h1.1, fun g hg => ?_⟩
      obtain ⟨h3, h4⟩ := h2 g hg
      refine ⟨h3, h4.imp id fun ⟨n, o, h5, h6⟩ => ?_⟩
      simp at h5
      obtain ⟨rfl, rfl⟩ := h5
      exact hf1 g h6
  obtain ⟨⟨e3, h1, h2, h3, h4, h5⟩, hfp⟩ := hab
  refine ⟨e.open e3 nx O'.length, by rw [bare_sv hv e2, bare_sv hv (e.open e3 nx O'.length)], .old ⟨fun n hn => ?_, Mv.os, Mv.tape, Mv.out, Mv.size, fun g hg hno => ?_, fun k b o hk => ?_, fun j k hj hk hne g hg hg' => ?_, fun n o ho => ?_⟩⟩
  · simp only [reN_length] at hn
    refine ⟨?_, ?_, ?_⟩ <;> (show (if _ then _ else _) = _; rw [if_neg (by omega)])
  · refine Mv.block g hg fun n o ho hgf => ?_
    simp at ho
    obtain ⟨rfl, rfl⟩ := ho
    obtain ⟨n, h6, h7⟩ := hf1 g hgf
    exact hno n none h6 h7
  · rw [reN_get] at hk
    cases hk' : O'[k]? with
    | none => rw [hk'] at hk; cases hk
    | some z =>
      rw [hk'] at hk
      cases hk
      obtain ⟨b, o⟩ := z
      have hlt : k < O'.length := by
        rcases Nat.lt_or_ge k O'.length with h | h
        · exact h
        · rw [List.getElem?_eq_none h] at hk'; cases hk'
      obtain ⟨p1, p2⟩ := Env.open_new e e3 (nx := nx) hlt
      refine ⟨Ob.re_holds p1 p2 (fun m hm => (Env.open_new e e3 (newsR_ok hO k b o hk' m hm).2).1) (h2 k b o hk').1, fun g hg => ?_⟩
      rw [p2] at hg
      exact hfp g ((h4 g).2 ⟨k, hlt, hg⟩)
  · simp only [reN_length] at hj hk
    rw [(Env.open_new e e3 hj).2] at hg
    rw [(Env.open_new e e3 hk).2] at hg'
    exact h3 j k hj hk hne g hg hg'
  · have := trueU_none ho
    cases this
theorem spec_nnil {P : Program} {L : LL} {H : HL} {nx d : Nat} {b : Bool} {φ : AbP} {tys : List (Nat × Ty)} (hty : TysOk P tys) {o : Oper} {T T' : TypeId} {x y : Operand} {I : Ty} (hop : o.op = .binOp .neq T x y T') (hx : ev L x = some (.c (.nm d))) (hy : ev L y = some (.c .np)) (hT : look T tys = some I) (hI : I.d = .ptr)
    (hd : lookH H d = some (b, .ab φ)) (hp : NotNil φ) : Spec P L H nx o ⟨.t (.c (.b true)), [], [], []⟩ := by
  refine ⟨fun F => step_pure fun e a w S => ?_⟩
  obtain ⟨dt, hd', hId⟩ := (hty _ _ hT).und
  rw [hI] at hId
  obtain ⟨el, rfl⟩ := hId
  obtain ⟨v0, hv0⟩ := hp _ _ _ (S.ob d b _ hd).1.1
  have hv : a.eval x = ptr v0 := by
    rw [ev_ok S hx]
    exact hv0
  have heq : (Op.equal T (ptr v0) (.pointer none)).run P w = .ok false w := eq_pn 9999 hd' _
  have hbin := run_eq (w := w) (op := .neq) rfl (T := T) (x := ptr v0) (y := .pointer none) (r := false) heq (by simp [ptr]) (by simp [ptr]) (by simp [ptr]) (by simp [ptr])
  have hg : (eqGuard .neq T x y (ptr v0) (.pointer none)).run P w = .ok () w := rfl
  simp only [execOp, hop, Sem.run_bind, hv, ev_ok S hy, TV.den, CV.den, hg, Result.andThen_ok, hbin, Sem.run_pure]
  rfl
/-- A part of an own row is cleared. -/
theorem spec_clear {P : Program} {L : LL} {H : HL} {nx d : Nat} {tys : List (Nat × Ty)} (hty : TysOk P tys) {o : Oper} {T el U : TypeId} {x : Operand} {n k off len : Nat} {xs ys : List Value} {I J : Ty} {z : CV} (hop : o.op = .call { callee := .builtin .clear, args := #[x], argTypes := #[T] })
    (hx : ev L x = some (.c (.sub d off k len))) (hT : look T tys = some I) (hI : I.d = .slice el) (hJ : look el tys = some J) (hJz : J.zero = [z]) (hJa : J.d.agg = false) (hz1 : (z.den e0).oneCell' = true) (hzc : (z.den e0).cells = #[z.den e0])
    (hd : lookH H d = some (true, .own U 1 n xs)) (hoff : off = k) (hl : k + len = n) (hpos : 0 < len) (hy : setAt xs k (List.replicate len (z.den e0)) = ys) :
    Spec P L H nx o ⟨.t (.c (.raw (.tuple #[]))), [], [(d, some (.own U 1 n ys))], []⟩ := by
  subst hoff
  refine ⟨fun F _ e a w S K Q hK => ?_⟩
  obtain ⟨dt, hdt, hId⟩ := (hty _ _ hT).und
  rw [hI] at hId
  simp only [TyD.is] at hId
  subst hId
  have hzv := (hty _ _ hJ).run_zeroV
  rw [hJz, hJa] at hzv
  obtain ⟨⟨hown, hfp⟩, _⟩ := S.ob d true _ hd
  have hxl := hown.1
  rcases hown.2 with ⟨_, h0⟩ | ⟨g, cap, cur, hval, h1, hblk, h3, h4, h5, h6⟩
  · omega
  rw [Nat.mul_one] at hxl h5 h6
  have hx' : a.eval x = .slice (some ⟨g, off, none⟩) len (cap - off) := by
    have hc : ¬ cap = off := by omega
    refine (ev_ok S hx).trans ?_
    simp only [TV.den, CV.den, hval, if_neg hc, Option.map_some, lit_add, Nat.zero_add]
  have hrep : (Builtin.zeroCells (z.den e0).cells len).toList = List.replicate len (z.den e0) := by
    rw [hzc]
    simp [Builtin.zeroCells]
    apply List.ext_getElem
    · simp
    · intro i h1 h2
      simp [Nat.mod_one]
  have hst := run_storeCells_at (P := P) g off U (List.replicate len (z.den e0)) 0 cur w hblk (by simp; omega) (by intro v hv; rw [List.eq_of_mem_replicate hv]; exact hz1)
  simp only [Nat.add_zero, List.length_replicate] at hst
  obtain ⟨m, rfl⟩ : ∃ m, len = m + 1 := ⟨len - 1, by omega⟩
  have hrun : (Builtin.clear_ #[T] o.type #[.slice (some ⟨g, off, none⟩) (m + 1) (cap - off)]).run P w = .ok (.tuple #[]) (w.setRow g (cur.toList.take off ++ List.replicate (m + 1) (z.den e0) ++ cur.toList.drop (off + (m + 1))).toArray) := by
    simp only [zVal, List.map_cons, List.map_nil, List.headD_cons] at hzv
    simp [Builtin.clear_, run_underlying hdt, hzv, hrep, hst]
  have hfp' : ∀ q, e.fp d q ↔ q = g := fun q => by
    rw [hfp q, hval]
    exact ⟨fun h => (Option.some.inj h).symm, fun h => h ▸ rfl⟩
  suffices hMv : Mv nx ⟨.t (.c (.raw (.tuple #[]))), [], [(d, some (.own U 1 n ys))], []⟩ e e w (w.setRow g (cur.toList.take off ++ List.replicate (m + 1) (z.den e0) ++ cur.toList.drop (off + (m + 1))).toArray) by
    refine wp_value (v := .tuple #[]) ?_ (hK e _ hMv)
    simp [execOp, hop, resolve, invoke, builtin, hx', hrun]
  · refine .old ⟨fun _ _ => ⟨rfl, rfl, rfl⟩, rfl, rfl, rfl, by simp, fun q hq hno => ?_, fun k b o hk => (by simp at hk), fun j k hj hk => (by simp at hj), fun m' o hm => ?_⟩
    · exact setRow_other w g q _ fun he => hno d (some (.own U 1 n ys)) (by simp) ((hfp' q).2 he)
    · simp at hm
      obtain ⟨rfl, rfl⟩ := hm
      refine ⟨⟨?_, .inr ⟨g, cap, _, hval, h1, setRow_heap w _ _ _ _ _ hblk, h3, h4, ?_, ?_⟩⟩, hfp⟩
      · rw [← hy, Nat.mul_one, setAt_length (by simp; omega)]; exact hxl
      · simp; omega
      · have := take_setAt (c := cur.toList) (vs := List.replicate (m + 1) (z.den e0)) (m := n) (j := off) (by simp; omega) (by simp; omega)
        rw [h6, hy, List.length_replicate] at this
        rw [Nat.mul_one]
        simpa using this
end Vc
namespace Cw
open Go Vc
open Go.Proofs
section
variable {α : Type} {vv : α → Value}
def gm (vv : α → Value) (W : List (Int × α)) : List (Int × Value) := W.map fun p => (p.1, vv p.2)
def gget (k : Int) : List (Int × α) → Option α
  | [] => none
  | (q, x) :: l => if q = k then some x else gget k l
def gdel (k : Int) : List (Int × α) → List (Int × α)
  | [] => []
  | (q, x) :: l => if q = k then l else (q, x) :: gdel k l
theorem gm_get (k : Int) : ∀ W : List (Int × α), mget k (gm vv W) = (gget k W).map vv
  | [] => rfl
  | (q, x) :: l => by
    show mget k ((q, vv x) :: gm vv l) = _
    unfold mget gget
    split
    · rfl
    · exact gm_get k l
theorem gm_del (k : Int) : ∀ W : List (Int × α), mdel k (gm vv W) = gm vv (gdel k W)
  | [] => rfl
  | (q, x) :: l => by
    show mdel k ((q, vv x) :: gm vv l) = _
    unfold mdel gdel
    split
    · rfl
    · rw [gm_del k l]; rfl
theorem gm_put {k : Int} {x : α} : ∀ {W : List (Int × α)}, (∀ p ∈ W, p.1 ≠ k) → mput k (vv x) (gm vv W) = gm vv (W ++ [(k, x)])
  | [], _ => rfl
  | (q, y) :: l, h => by
    show mput k (vv x) ((q, vv y) :: gm vv l) = _
    unfold mput
    rw [if_neg (h (q, y) (by simp)), gm_put fun p hp => h p (by simp [hp])]
    rfl
theorem gm_length (W : List (Int × α)) : (gm vv W).length = W.length := by simp [gm]
theorem gm_fst (W : List (Int × α)) : (gm vv W).map Prod.fst = W.map Prod.fst := by simp [gm]
theorem gget_mem {k : Int} {x : α} : ∀ {W : List (Int × α)}, gget k W = some x → (k, x) ∈ W
  | [], h => by cases h
  | (q, y) :: l, h => by
    unfold gget at h
    split at h
    · rename_i hq; cases h; subst hq; simp
    · exact List.mem_cons.2 (.inr (gget_mem h))
theorem gdel_mem {k : Int} {p : Int × α} : ∀ {W : List (Int × α)}, p ∈ gdel k W → p ∈ W
  | [], h => by cases h
  | (q, y) :: l, h => by
    unfold gdel at h
    split at h
    · exact List.mem_cons.2 (.inr h)
    · rcases List.mem_cons.1 h with h | h
      · rw [h]; simp
      · exact List.mem_cons.2 (.inr (gdel_mem h))
theorem gdel_none {k : Int} : ∀ {W : List (Int × α)}, gget k W = none → gdel k W = W
  | [], _ => rfl
  | (q, x) :: l, h => by
    unfold gget at h
    split at h
    · cases h
    · rename_i hq; simp [gdel, hq, gdel_none h]
theorem gdel_length {k : Int} {x : α} : ∀ {W : List (Int × α)}, gget k W = some x → (gdel k W).length + 1 = W.length
  | [], h => by cases h
  | (q, y) :: l, h => by
    unfold gget at h
    unfold gdel
    split at h
    · rename_i hq; rw [if_pos hq]; rfl
    · rename_i hq; rw [if_neg hq, List.length_cons, gdel_length h]; rfl
theorem gdel_fst {k : Int} : ∀ {W : List (Int × α)}, ((gdel k W).map Prod.fst).Sublist (W.map Prod.fst)
  | [] => List.Sublist.refl _
  | (q, x) :: l => by
    unfold gdel
    split
    · exact List.Sublist.cons _ (List.Sublist.refl _)
    · exact List.Sublist.cons_cons _ gdel_fst
theorem gget_at : ∀ {W : List (Int × α)}, (W.map Prod.fst).Pairwise (· < ·) → ∀ {p : Int × α}, p ∈ W → gget p.1 W = some p.2
  | [], _, p, h => by cases h
  | (q, x) :: l, hp, p, h => by
    rw [List.map_cons, List.pairwise_cons] at hp
    unfold gget
    rcases List.mem_cons.1 h with rfl | h
    · simp
    · have := hp.1 p.1 (List.mem_map.2 ⟨p, h, rfl⟩)
      rw [if_neg (by omega)]
      exact gget_at hp.2 h
theorem gget_none {k : Int} : ∀ {W : List (Int × α)}, (∀ p ∈ W, p.1 ≠ k) → gget k W = none
  | [], _ => rfl
  | (q, x) :: l, h => by
    unfold gget
    rw [if_neg (h (q, x) (by simp)), gget_none fun p hp => h p (by simp [hp])]
/-- A lookup: with a word of whether it is there; without. -/
theorem lk_gm (k : Int) (W : List (Int × α)) (x0 : α) : lkV (gm vv W) k (vv x0) true = .tuple #[vv ((gget k W).getD x0), .bool (gget k W).isSome] := by
  unfold lkV
  rw [gm_get]
  cases gget k W <;> rfl
theorem lk_gm1 (k : Int) (W : List (Int × α)) (x0 : α) : lkV (gm vv W) k (vv x0) false = vv ((gget k W).getD x0) := by
  unfold lkV
  rw [gm_get]
  cases gget k W <;> rfl
end
end Cw
namespace Vc
open Go Go.RowKit
/-- Blocks of cells, each by its number. -/
def bufsQ (T : TypeId) (l : List (Nat × List CV)) : AbP := fun v F w =>
  v = .pointer none ∧ (l.map Prod.fst).Nodup ∧ (∀ g, F g ↔ g ∈ l.map Prod.fst) ∧ (∀ p ∈ l, w.heap[p.1]? = some (.cells (p.2.map (CV.den e0)).toArray T (0, 0))) ∧ ∀ p ∈ l, flatN (p.2.map CV.ns) = []
theorem bufsQ_stable {T : TypeId} {l : List (Nat × List CV)} : stable (bufsQ T l) := by
  rintro v F w w' ⟨h1, h2, h3, h4, h5⟩ hk
  exact ⟨h1, h2, h3, fun p hp => (hk p.1 ((h3 p.1).2 (List.mem_map.2 ⟨p, hp, rfl⟩))).trans (h4 p hp), h5⟩
theorem bufsQ_perm {T : TypeId} {l l' : List (Nat × List CV)} (h : l.Perm l') : ∀ v F w, bufsQ T l v F w → bufsQ T l' v F w := by
  rintro v F w ⟨h1, h2, h3, h4, h5⟩
  have hm := h.map Prod.fst
  exact ⟨h1, hm.nodup_iff.1 h2, fun g => (h3 g).trans hm.mem_iff, fun p hp => h4 p (h.mem_iff.2 hp), fun p hp => h5 p (h.mem_iff.2 hp)⟩
abbrev oneO (T : TypeId) (b : Nat) (cs : List CV) (l : List (Nat × List CV)) : List (Bool × Ob) := [(true, .cells cs T), (false, .pin 0 b), (true, .ab (bufsQ T l))]
theorem cells_e0 {cs : List CV} (h : flatN (cs.map CV.ns) = []) (e : Env) : cs.map (CV.den e) = cs.map (CV.den e0) := cells_same fun n hn => by rw [h] at hn; cases hn
theorem bufsQ_out {T : TypeId} {b : Nat} {cs : List CV} {l : List (Nat × List CV)} : ∀ v F w, bufsQ T ((b, cs) :: l) v F w → absP (oneO T b cs l) .np v F w := by
  rintro v F w ⟨h1, h2, h3, h4, h5⟩
  rw [List.map_cons, List.nodup_cons] at h2
  have hlt : ∀ p ∈ (b, cs) :: l, p.1 < w.heap.size := fun p hp => (Array.getElem?_eq_some_iff.1 (h4 p hp)).1
  refine ⟨⟨fun _ => b, fun _ => .pointer none, fun k g => if k = 0 then g = b else if k = 2 then g ∈ l.map Prod.fst else False, fun _ => rfl⟩, h1, ?_, ?_, ?_, ?_⟩
  · intro k c o hk
    match k with
    | 0 =>
      cases hk
      exact ⟨⟨fun g => by simp, (h4 (b, cs) (by simp)).trans (congrArg (fun (l : List Value) => some (Obj.cells l.toArray T (0, 0))) (cells_e0 (cs := cs) (h5 (b, cs) (by simp)) _).symm)⟩, fun h => by cases h⟩
    | 1 =>
      cases hk
      exact ⟨⟨fun g => by simp, rfl⟩, fun _ g => by simp⟩
    | 2 =>
      cases hk
      exact ⟨⟨⟨rfl, h2.2, fun g => by simp, fun p hp => h4 p (List.mem_cons.2 (.inr hp)), fun p hp => h5 p (List.mem_cons.2 (.inr hp))⟩, bufsQ_stable⟩, fun h => by cases h⟩
    | k + 3 => simp at hk
  · intro j k hj hk hne g hg hg'
    match j, k with
    | 0, 0 => exact hne rfl
    | 0, 1 => simp at hg'
    | 0, 2 => simp at hg hg'; subst hg; exact h2.1 (by simpa using hg')
    | 1, _ => simp at hg
    | 2, 0 => simp at hg hg'; subst hg'; exact h2.1 (by simpa using hg)
    | 2, 1 => simp at hg'
    | 2, 2 => exact hne rfl
    | j + 3, _ => simp at hj; omega
    | 0, k + 3 => simp at hk; omega
    | 2, k + 3 => simp at hk; omega
  · intro g
    rw [h3, List.map_cons, List.mem_cons]
    constructor
    · rintro (h | h)
      · exact ⟨0, by simp, by simpa using h⟩
      · exact ⟨2, by simp, by simpa using h⟩
    · rintro ⟨k, hk, hg⟩
      match k with
      | 0 => exact .inl (by simpa using hg)
      | 1 => simp at hg
      | 2 => exact .inr (by simpa using hg)
      | k + 3 => simp at hk; omega
  · intro g hg
    obtain ⟨p, hp, rfl⟩ := List.mem_map.1 ((h3 g).1 hg)
    exact hlt p hp
theorem bufsQ_in {T : TypeId} {b : Nat} {cs : List CV} {l : List (Nat × List CV)} (hcs : flatN (cs.map CV.ns) = []) : ∀ v F w, absP (oneO T b cs l) .np v F w → bufsQ T ((b, cs) :: l) v F w := by
  rintro v F w ⟨e, h1, h2, h3, h4, h5⟩
  obtain ⟨⟨a1, a2⟩, _⟩ := h2 0 true _ rfl
  obtain ⟨⟨p1, p2⟩, _⟩ := h2 1 false _ rfl
  obtain ⟨⟨⟨q1, q2, q3, q4, q5⟩, _⟩, _⟩ := h2 2 true _ rfl
  rw [p2] at a1 a2
  rw [cells_e0 hcs e] at a2
  refine ⟨h1, ?_, fun g => ?_, fun p hp => ?_, fun p hp => ?_⟩
  · rw [List.map_cons, List.nodup_cons]
    refine ⟨fun h => ?_, q2⟩
    exact h3 0 2 (by simp) (by simp) (by decide) b ((a1 b).2 rfl) ((q3 b).2 h)
  · rw [h4, List.map_cons, List.mem_cons]
    constructor
    · rintro ⟨k, hk, hg⟩
      match k with
      | 0 => exact .inl ((a1 g).1 hg)
      | 1 => exact (p1 g hg).elim
      | 2 => exact .inr ((q3 g).1 hg)
      | k + 3 => simp at hk; omega
    · rintro (h | h)
      · exact ⟨0, by simp, (a1 g).2 h⟩
      · exact ⟨2, by simp, (q3 g).2 h⟩
  · rcases List.mem_cons.1 hp with rfl | hp
    · exact a2
    · exact q4 p hp
  · rcases List.mem_cons.1 hp with rfl | hp
    · exact hcs
    · exact q5 p hp
theorem At.weak {P : Program} {F : Frm} {Q : Exit → Act → World → Prop} {c : Code} {ks : List KI} {L : LL} {H : HL} {nx : Nat} {φ φ' : AbP} {b : Bool} (d : Nat) (hd : lookH H d = some (b, .ab φ)) (hs : stable φ') (hp : ∀ v F w, φ v F w → φ' v F w) (h : At P F Q c ks L ((d, some (b, .ab φ')) :: H) nx) : At P F Q c ks L H nx :=
  ⟨fun hW e a w S => h.h (wf_ab hW hd) e a w (S.weakAb hd hs (hp _ _ _))⟩
/-- A lookup in a map of pointers: the block that it finds has a name. -/
theorem spec_lookp {P : Program} {tys : List (Nat × Ty)} (hty : TysOk P tys) {L : LL} {H : HL} {nx q n n0 : Nat} {b2 : Bool} {o : Oper} {T : TypeId} {x ix : Operand} {k : Int} {Z : Ty} {r : Option Nat} {m : List (Int × Value)} (hop : o.op = .lookup T x ix false)
    (hZ : mapT (fun t => look t tys) T = some Z) (hx : mpOf L H x = some (r, m)) (hk : ev L ix = some (.c (.i .i64 k))) (hq : lookH H q = some (b2, .pin n n0)) (hg : mget k m = some (ptr n0)) : Spec P L H nx o ⟨.t (.c (.p n 0)), [], [], []⟩ := by
  refine ⟨fun F => ?_⟩
  obtain ⟨kt, et, t1, t2, t3⟩ := mapT_ok hty hZ
  refine step_pure fun e a w S => ?_
  have hk' : a.eval ix = .int .i64 k := ev_ok S hk
  have hb : e.blk n = n0 := (S.ob q b2 _ hq).1.2
  have hv : ∀ z, lkV m k z false = (SV.t (.c (.p n 0))).den e := fun z => by
    unfold lkV
    rw [hg]
    simp only [SV.den, TV.den, CV.den, hb]
    rfl
  rcases mpOf_ok S hx with ⟨n', b, rfl, _, _, hx', _, hm⟩ | ⟨rfl, rfl, hx'⟩
  · have := hm.run_lookup t1 t2 (t3 w) k false
    rw [hv] at this
    simp [execOp, hop, hx', hk', this]
  · cases hg
/-- A map of pointers is written: the block has a name, and a number. -/
theorem spec_mapup {P : Program} {tys : List (Nat × Ty)} (hty : TysOk P tys) {L : LL} {H : HL} {nx q n n0 d : Nat} {b2 : Bool} {o : Oper} {T : TypeId} {x ix y : Operand} {k : Int} {Z : Ty} {m : List (Int × Value)} (hop : o.op = .mapUpdate T x ix y)
    (hZ : mapT (fun t => look t tys) T = some Z) (hx : mpOf L H x = some (some d, m)) (hk : ev L ix = some (.c (.i .i64 k))) (hy : ev L y = some (.c (.p n 0))) (hq : lookH H q = some (b2, .pin n n0)) (hki : inI64 k) :
    Spec P L H nx o ⟨.t (.c (.raw undef)), [], [(d, some (.mp (mput k (ptr n0) m)))], []⟩ := by
  refine ⟨fun F => ?_⟩
  obtain ⟨kt, et, t1, t2, t3⟩ := mapT_ok hty hZ
  intro _ e a w S K Q hK
  have hk' : a.eval ix = .int .i64 k := ev_ok S hk
  have hb : e.blk n = n0 := (S.ob q b2 _ hq).1.2
  have hv' : a.eval y = ptr n0 := by
    rw [ev_ok S hy]
    simp only [TV.den, CV.den, hb]
    rfl
  rcases mpOf_ok S hx with ⟨n', b, hn', _, _, hx', hfp, hm⟩ | ⟨hn', _, _⟩
  · cases hn'
    obtain ⟨ob, r1, r2⟩ := hm.run_update t1 t2 k (ptr n0) hki
    refine wp_skipped (w' := { w with heap := w.heap.setIfInBounds (e.blk d) ob }) ?_ (hK e _ (mp_write hfp r2))
    simp [execOp, hop, hx', hk', hv', r1]
  · cases hn'
end Vc
namespace Vc
open Go Go.RowKit
/-- The blocks of the names from j on have these numbers. -/
def pinsL (bs : Nat → Nat) : Nat → Nat → List (Bool × Ob)
  | _, 0 => []
  | j, n + 1 => (false, .pin j (bs j)) :: pinsL bs (j + 1) n
theorem pinsL_get (bs : Nat → Nat) : ∀ (n j i : Nat), i < n → (pinsL bs j n)[i]? = some (false, .pin (j + i) (bs (j + i)))
  | 0, _, _, h => by omega
  | n + 1, j, 0, _ => rfl
  | n + 1, j, i + 1, h => by
    have := pinsL_get bs n (j + 1) i (by omega)
    rw [pinsL, List.getElem?_cons_succ, this, show j + 1 + i = j + (i + 1) by omega]
theorem pinsL_length (bs : Nat → Nat) : ∀ (n j : Nat), (pinsL bs j n).length = n
  | 0, _ => rfl
  | n + 1, j => by rw [pinsL, List.length_cons, pinsL_length bs n]
/-- A value that is told by blocks' numbers alone. -/
def CV.blkB (k : Nat) : CV → Bool
  | .p n _ | .sl n _ _ _ | .mp n => Nat.blt n k
  | .fn _ caps => caps.all fun x => Nat.blt x.1 k
  | .nm _ | .el .. | .sub .. => false
  | _ => true
theorem CV.blk_den {k : Nat} {r : Nat → Nat} {e e1 : Env} (h : ∀ j, j < k → e1.blk j = e.blk (r j)) {c : CV} (hc : c.blkB k = true) : (c.re r).den e = c.den e1 := by
  cases c with
  | p n o => simp only [CV.blkB, Nat.blt_eq] at hc; simp only [CV.re, CV.den, h n hc]
  | sl n => simp only [CV.blkB, Nat.blt_eq] at hc; simp only [CV.re, CV.den, h n hc]
  | mp n => simp only [CV.blkB, Nat.blt_eq] at hc; simp only [CV.re, CV.den, h n hc]
  | nm n => cases hc
  | el n => cases hc
  | sub n => cases hc
  | fn f caps =>
    simp only [CV.blkB, List.all_eq_true, Nat.blt_eq] at hc
    simp only [CV.re, CV.den, List.map_map]
    congr 2
    exact List.map_congr_left fun x hx => by simp only [Function.comp, h x.1 (hc x hx)]
  | _ => rfl
theorem blk_dens {k : Nat} {r : Nat → Nat} {e e1 : Env} (h : ∀ j, j < k → e1.blk j = e.blk (r j)) {cs : List CV} (hc : cs.all (CV.blkB k) = true) : (reC r cs).map (CV.den e) = cs.map (CV.den e1) := by
  rw [reC_eq, List.map_map]
  exact List.map_congr_left fun c hm => CV.blk_den h (List.all_eq_true.1 hc c hm)
/-- What a call leaves that writes structs: the value, and the blocks. -/
def UPost (w : World) (W : Nat → Prop) (v : SV) (us : List (Nat × List CV × TypeId)) (bs : Nat → Nat) (k : Nat) (en : Ending) (w' : World) : Prop :=
  ∃ e, en = .returned (v.den e) ∧ Keeps ⟨w, W, 0⟩ w' ∧ (∀ j, j < k → e.blk j = bs j) ∧ ∀ u ∈ us, w'.heap[bs u.1]? = some (.cells (u.2.1.map (CV.den e)).toArray u.2.2 (0, 0))
def usOk (H : HL) : List (Nat × List CV × TypeId) → Prop
  | [] => True
  | u :: l => (∃ b cs, lookH H u.1 = some (b, .cells cs u.2.2) ∧ cs = u.2.1) ∧ usOk H l
theorem usOk_mem {H : HL} : ∀ {us : List (Nat × List CV × TypeId)}, usOk H us → ∀ u ∈ us, ∃ b, lookH H u.1 = some (b, .cells u.2.1 u.2.2)
  | [], _, u, h => by cases h
  | x :: l, ⟨⟨b, cs, h1, h2⟩, h3⟩, u, h => by
    rcases List.mem_cons.1 h with rfl | h
    · exact ⟨b, by rw [h1, h2]⟩
    · exact usOk_mem h3 u h
def pinOk (H : HL) (bs : Nat → Nat) (k : Nat) : Nat → Prop
  | 0 => True
  | j + 1 => lookH H (k + j) = some (false, .pin j (bs j)) ∧ pinOk H bs k j
theorem pinOk_at {H : HL} {bs : Nat → Nat} {k : Nat} : ∀ {n : Nat}, pinOk H bs k n → ∀ j, j < n → lookH H (k + j) = some (false, .pin j (bs j))
  | 0, _, j, h => by omega
  | n + 1, ⟨h1, h2⟩, j, h => by
    by_cases hj : j = n
    · subst hj; exact h1
    · exact pinOk_at h2 j (by omega)
theorem upost_of {F : Frm} {L : LL} {H : HL} {e : Env} {a : Act} {w : World} {w0 : World} {W : Nat → Prop} {N k : Nat} {v : SV} {us : List (Nat × List CV × TypeId)} {bs : Nat → Nat} (hF : F = ⟨w0, W, N⟩) (S : Sat F (fun t => look t L) (lookH H) e a w) (hu : usOk H us) (hk : us.all (fun u => Nat.blt u.1 k) = true) (hp : pinOk H bs k k) : UPost w0 W v us bs k (.returned (v.den e)) w := by
  subst hF
  have hb : ∀ j, j < k → e.blk j = bs j := fun j hj => (S.ob _ _ _ (pinOk_at hp j hj)).1.2
  refine ⟨e, rfl, ⟨S.fr.os, S.fr.tape, S.fr.out, S.fr.size, S.fr.block⟩, hb, fun u h => ?_⟩
  obtain ⟨b, h1⟩ := usOk_mem hu u h
  have h2 := List.all_eq_true.1 hk u h
  simp only [Nat.blt_eq] at h2
  rw [← hb u.1 h2]
  exact (S.ob _ _ _ h1).1.2
theorem retU {P : Program} {w0 : World} {W : Nat → Prop} {N k : Nat} {L : LL} {H : HL} {nx : Nat} {tys : List (Nat × Ty)} (hty : TysOk P tys) {fn : Func} {v : SV} {us : List (Nat × List CV × TypeId)} {bs : Nat → Nat} {vs : List TV} (h : outV (fun t => look t tys) L H fn.results.toList = some vs)
    (hv : retS vs = v) (hu : usOk H us) (hk : us.all (fun u => Nat.blt u.1 k) = true) (hp : pinOk H bs k k) : Done ⟨w0, W, N⟩ (bodyPost P fn (UPost w0 W v us bs k) .ret) L H nx := by
  subst hv
  exact ⟨fun _ _ _ _ S => ⟨S.df, _, run_results hty S h, upost_of rfl S hu hk hp⟩⟩
theorem endU {P : Program} {w0 : World} {W : Nat → Prop} {N k : Nat} {L : LL} {H : HL} {nx : Nat} {tys : List (Nat × Ty)} (hty : TysOk P tys) {fn : Func} {v : SV} {us : List (Nat × List CV × TypeId)} {bs : Nat → Nat} {vs : List TV} (h : outV (fun t => look t tys) L H fn.results.toList = some vs)
    (hv : retS vs = v) (hu : usOk H us) (hk : us.all (fun u => Nat.blt u.1 k) = true) (hp : pinOk H bs k k) : Done ⟨w0, W, N⟩ (bodyPost P fn (UPost w0 W v us bs k) .normal) L H nx := by
  subst hv
  exact ⟨fun _ _ _ _ S => ⟨S.df, _, run_results hty S h, upost_of rfl S hu hk hp⟩⟩
/-- The things of the callee, found by the caller's names. -/
def usedOk (r : Nat → Nat) (H : HL) (us : List (Nat × List CV × TypeId)) : Nat → List (Bool × Ob) → Prop
  | _, [] => True
  | j, (b, o) :: l => (match b with | true => lookH H (r j) = some (true, o.re r) ∧ us.any (fun u => u.1 == j) = true | false => ∃ b0, lookH H (r j) = some (b0, o.re r)) ∧ usedOk r H us (j + 1) l
theorem usedOk_at {r : Nat → Nat} {H : HL} {us : List (Nat × List CV × TypeId)} : ∀ {l : List (Bool × Ob)} {k : Nat}, usedOk r H us k l → ∀ i b o, l[i]? = some (b, o) → ∃ b0, lookH H (r (k + i)) = some (b0, o.re r) ∧ (b = true → b0 = true ∧ ∃ u ∈ us, u.1 = k + i)
  | [], _, _, i, b, o, h => by cases h
  | (b', o') :: l, k, ⟨h1, h2⟩, i, b, o, h => by
    cases i with
    | zero =>
      cases h
      cases b' with
      | true =>
        obtain ⟨h3, h4⟩ := h1
        obtain ⟨u, hu, h5⟩ := List.any_eq_true.1 h4
        exact ⟨true, h3, fun _ => ⟨rfl, u, hu, by simpa using h5⟩⟩
      | false => exact ⟨h1.choose, h1.choose_spec, fun h => by cases h⟩
    | succ i =>
      rw [List.getElem?_cons_succ] at h
      have := usedOk_at h2 i b o h
      rwa [show k + 1 + i = k + (i + 1) by omega] at this
def cellsUp (O : List (Bool × Ob)) : List (Nat × List CV × TypeId) → Bool
  | [] => true
  | u :: l => (match O[u.1]? with | some (true, .cells _ _) => true | _ => false) && cellsUp O l
theorem cellsUp_at {O : List (Bool × Ob)} : ∀ {us : List (Nat × List CV × TypeId)}, cellsUp O us = true → ∀ u ∈ us, ∃ cs T, O[u.1]? = some (true, .cells cs T)
  | [], _, u, h => by cases h
  | x :: l, hc, u, h => by
    unfold cellsUp at hc
    rw [Bool.and_eq_true] at hc
    rcases List.mem_cons.1 h with rfl | h
    · have := hc.1
      split at this
      · rename_i cs T ho
        exact ⟨cs, T, ho⟩
      · cases this
    · exact cellsUp_at hc.2 u h
/-- A function that writes structs that are told by names. -/
theorem fnU {P : Program} {f : FuncId} {fn : Func} {c : Code} (N : Nat) (hf : P.funcs[f]? = some fn) (hb : fn.body = some c) (hN : fn.ntmps = N) {args args' : List TV} {H : HL} {nx : Nat} {v : SV} {upd : List (Nat × Option Ob)} (r : Nat → Nat) (O : List (Bool × Ob)) (us : List (Nat × List CV × TypeId))
    (ha : reT r args' = args) (hbr : ∀ a ∈ args', ∀ n ∈ a.ns, n < O.length) (hO : usedOk r H us 0 O) (hc : cellsUp O us = true) (hinj : ∀ i j, i < O.length → j < O.length → r i = r j → i = j) (hnd : (us.map (·.1)).Nodup)
    (hons : newsR 0 O.length O = true)
    (hl : Nat.ble args'.length N = true) (hW : wfL (O.length + O.length) (argsL 0 (args'.map .t)) = true) (hW2 : ∀ bs, wfH (O.length + O.length) (newsH 0 (app O (pinsL bs 0 O.length))) = true)
    (hv : v.ns = []) (hbk : us.all (fun u => u.2.1.all (CV.blkB O.length)) = true) (hu : us.map (fun u => (r u.1, some (.cells (reC r u.2.1) u.2.2))) = upd)
    (hg : ∀ w W bs, At P ⟨w, W, N⟩ (bodyPost P fn (UPost w W v us bs O.length)) c [] (argsL 0 (args'.map .t)) (newsH 0 (app O (pinsL bs 0 O.length))) (O.length + O.length)) : FnH P f args H nx ⟨v, [], upd, []⟩ := by
  subst ha hu
  refine ⟨fun hwf _ e w M => ?_⟩
  let k := O.length
  let bs : Nat → Nat := fun j => e.blk (r j)
  let e' : Env := ⟨fun n => e.blk (r n), fun n => e.val (r n), fun n g => n < k ∧ e.fp (r n) g, fun n => e.one (r n)⟩
  have hlook : ∀ n x, lookH (newsH 0 (app O (pinsL bs 0 k))) n = some x → (n < k ∧ O[n]? = some x) ∨ (k ≤ n ∧ x = (false, .pin (n - k) (bs (n - k)))) := by
    intro n x h
    rw [lookH_newsH, if_pos (Nat.zero_le _), Nat.sub_zero, app_eq] at h
    by_cases hn : n < k
    · rw [List.getElem?_append_left hn] at h
      exact .inl ⟨hn, h⟩
    · rw [List.getElem?_append_right (by omega)] at h
      have hlt : n - k < k := by
        rcases Nat.lt_or_ge (n - k) k with h1 | h1
        · exact h1
        · rw [List.getElem?_eq_none (by rw [pinsL_length]; exact h1)] at h; cases h
      rw [pinsL_get bs k 0 (n - k) hlt, Nat.zero_add] at h
      cases h
      exact .inr ⟨by omega, rfl⟩
  have hmem : Mem (fun g => ∃ u ∈ us, e.fp (r u.1) g) (newsH 0 (app O (pinsL bs 0 k))) e' w := by
    refine ⟨fun n b o hn => ?_, fun n o m c q hn hm hne g hg hg' => ?_⟩
    · rcases hlook n _ hn with ⟨h1, h2⟩ | ⟨h1, h2⟩
      · obtain ⟨b0, h3, h4⟩ := usedOk_at hO n b o h2
        rw [Nat.zero_add] at h3 h4
        obtain ⟨h5, h6⟩ := M.ob _ _ _ h3
        have hs : (e.comp r).same e' n := ⟨rfl, rfl, by funext g; exact propext ⟨fun h => h.2, fun h => ⟨h1, h⟩⟩⟩
        refine ⟨Ob.same hs (Ob.re_back h5) fun m _ => ⟨rfl, rfl⟩, fun g hg => ⟨h6 g hg.2, fun hb => ?_⟩⟩
        obtain ⟨_, u, hu, h7⟩ := h4 hb
        exact ⟨u, hu, by rw [h7]; exact hg.2⟩
      · cases h2
        exact ⟨⟨fun g hg => by have := hg.1; omega, rfl⟩, fun g hg => absurd hg.1 (by omega)⟩
    · rcases hlook n _ hn with ⟨h1, h2⟩ | ⟨h1, h2⟩
      · rcases hlook m _ hm with ⟨h3, h4⟩ | ⟨h3, h4⟩
        · obtain ⟨b0, h5, h6⟩ := usedOk_at hO n true o h2
          obtain ⟨b1, h7, _⟩ := usedOk_at hO m c q h4
          rw [Nat.zero_add] at h5 h6 h7
          obtain ⟨h6, _⟩ := h6 rfl
          subst h6
          exact M.dj _ _ _ _ _ h5 h7 (fun h => hne (hinj n m h1 h3 h)) g hg.2 hg'.2
        · have := hg'.1; omega
      · cases h2
  have := call_at N hf hb hN (args'.map .t) e' _ (k + k) _ (w := w) (by simpa using Nat.le_of_ble_eq_true hl) (wf hW (hW2 bs)) hmem (hg w _ bs)
  rw [List.map_map] at this
  have hargs : (reT r args').map (TV.den e) = args'.map (SV.den e' ∘ SV.t) := by
    rw [reT_eq, List.map_map]
    exact List.map_congr_left fun a _ => TV.re_den (e := e') (e' := e) fun n _ => ⟨rfl, rfl⟩
  rw [hargs]
  refine Calls.mono this ?_
  rintro en w' ⟨e1, rfl, K, h1, h2⟩
  have hblk : ∀ j, j < k → e1.blk j = e.blk (r j) := h1
  have hup : ∀ u ∈ us, ∃ cs T, O[u.1]? = some (true, .cells cs T) ∧ u.1 < k := by
    intro u hu
    obtain ⟨cs, T, h⟩ := cellsUp_at hc u hu
    refine ⟨cs, T, h, ?_⟩
    rcases Nat.lt_or_ge u.1 k with h1 | h1
    · exact h1
    · rw [List.getElem?_eq_none h1] at h; cases h
  have hcl : ∀ u ∈ us, ∀ g, e.fp (r u.1) g ↔ g = e.blk (r u.1) := by
    intro u hu
    obtain ⟨cs, T, h, _⟩ := hup u hu
    obtain ⟨b0, h3, _⟩ := usedOk_at hO u.1 _ _ h
    rw [Nat.zero_add] at h3
    exact (M.ob _ _ _ h3).1.1
  refine ⟨e, ?_, .old ⟨fun n _ => ⟨rfl, rfl, rfl⟩, K.os, K.tape, K.out, K.size, fun g hg hno => K.block g hg fun ⟨u, hu, hgf⟩ => hno (r u.1) _ (List.mem_map.2 ⟨u, hu, rfl⟩) hgf, fun k b o h => by simp at h, fun j k h => by simp at h, fun n o ho => ?_⟩⟩
  · show Ending.returned (v.den e1) = .returned (v.den e)
    rw [SV.den_same (e := e1) (e' := e) fun n hn => by rw [hv] at hn; cases hn]
  · obtain ⟨u, hu, he⟩ := List.mem_map.1 ho
    cases he
    refine ⟨hcl u hu, ?_⟩
    rw [blk_dens hblk (List.all_eq_true.1 hbk u hu)]
    exact h2 u hu
end Vc
namespace Vc
open Go Go.RowKit Go.MapKept
/-- A name gets a block, a value, a region. -/
def Env.put3 (e : Env) (n b : Nat) (v : Value) (Fp : Nat → Prop) : Env := ⟨fun m => if m = n then b else e.blk m, fun m => if m = n then (if v.oneCell' = true then v else uv) else e.val m, fun m => if m = n then Fp else e.fp m, fun m => by
  show (if m = n then (if v.oneCell' = true then v else uv) else e.val m).oneCell' = true
  split
  · split
    · assumption
    · rfl
  · exact e.one m⟩
theorem Env.put3_same (e : Env) {n m b : Nat} {v : Value} {Fp : Nat → Prop} (h : m ≠ n) : e.same (e.put3 n b v Fp) m := ⟨by simp [Env.put3, h], by simp [Env.put3, h], by simp [Env.put3, h]⟩
theorem Env.put3_blk (e : Env) {n b : Nat} {v : Value} {Fp : Nat → Prop} : (e.put3 n b v Fp).blk n = b := by simp [Env.put3]
theorem Env.put3_val (e : Env) {n b : Nat} {v : Value} {Fp : Nat → Prop} (h : v.oneCell' = true) : (e.put3 n b v Fp).val n = v := by simp [Env.put3, h]
theorem Env.put3_fp (e : Env) {n b : Nat} {v : Value} {Fp : Nat → Prop} : (e.put3 n b v Fp).fp n = Fp := by simp [Env.put3]
/-- Something that may be read gets a name. -/
theorem Sat.newF {F : Frm} {L : LL} {H : HL} {nx : Nat} {e : Env} {a : Act} {w : World} (S : Sat F (fun t => look t L) (lookH H) e a w) (hW : WF L H nx) (o : Ob) (b : Nat) (v : Value) (Fp : Nat → Prop) (hns : ∀ m ∈ o.ns, m < nx + 1)
    (ho : o.holds (e.put3 nx b v Fp) nx w) (hF : ∀ g, Fp g → g < w.heap.size ∧ ∀ n o', lookH H n = some (true, o') → ¬ e.fp n g) :
    WF L ((nx, some (false, o)) :: H) (nx + 1) ∧ Sat F (fun t => look t L) (lookH ((nx, some (false, o)) :: H)) (e.put3 nx b v Fp) a w := by
  have hsame : ∀ n, n < nx → e.same (e.put3 nx b v Fp) n := fun n hn => Env.put3_same e (by omega)
  refine ⟨⟨fun t v hv n hn => by have := hW.l t v hv n hn; omega, fun n z hz => ?_⟩, S.fr, S.sz, S.df, fun t v hv => ?_, fun n c o hz => ?_, fun n o k c q hn hk hne g hg hg' => ?_⟩
  · rw [lookH_cons] at hz
    split at hz
    · cases hz
      exact ⟨by omega, hns⟩
    · obtain ⟨g1, g2⟩ := hW.h n z hz
      exact ⟨by omega, fun k hk => by have := g2 k hk; omega⟩
  · rw [S.sl t v hv]
    exact (SV.den_same fun n hn => hsame n (hW.l t v hv n hn)).symm
  · rw [lookH_cons] at hz
    split at hz
    · rename_i hn
      cases hz
      subst hn
      refine ⟨ho, fun g hg => ⟨?_, fun h => by cases h⟩⟩
      rw [Env.put3_fp] at hg
      exact (hF g hg).1
    · obtain ⟨h1, h2⟩ := hW.h n _ hz
      obtain ⟨h3, h4⟩ := S.ob n c o hz
      refine ⟨Ob.same (hsame n h1) h3 fun k hk => (hsame k (h2 k hk)).v, fun g hg => ?_⟩
      rw [(hsame n h1).2.2] at hg
      exact h4 g hg
  · rw [lookH_cons] at hn hk
    split at hn
    · cases hn
    · split at hk
      · rename_i h2
        subst h2
        rw [Env.put3_fp] at hg'
        rw [(hsame n (hW.h n _ hn).1).2.2] at hg
        exact (hF g hg').2 n o hn hg
      · rw [(hsame n (hW.h n _ hn).1).2.2] at hg
        rw [(hsame k (hW.h k _ hk).1).2.2] at hg'
        exact S.dj n o k c q hn hk hne g hg hg'
section
variable {P : Program} {F : Frm} {Q : Exit → Act → World → Prop} {c : Code} {ks : List KI} {L : LL} {H : HL} {nx : Nat}
/-- A block's number gets a name. -/
theorem At.num (n0 : Nat) (h : At P F Q c ks L ((nx, some (false, .pin nx n0)) :: H) (nx + 1)) : At P F Q c ks L H nx :=
  ⟨fun hW e a w S => by
    obtain ⟨hW', S'⟩ := S.newF hW (.pin nx n0) n0 uv (fun _ => False) (fun m hm => by simp [Ob.ns] at hm; omega) ⟨fun g hg => by rw [Env.put3_fp] at hg; exact hg, Env.put3_blk e⟩ (fun g hg => hg.elim)
    exact h.h hW' _ a w S'⟩
/-- The very map. -/
def mapX (bm : Nat) (es : Array MapEntry) (clock : Nat) : AbP := fun _ F w => (∀ g, F g ↔ g = bm) ∧ w.heap[bm]? = some (.map es clock)
theorem mapX_stable {bm : Nat} {es : Array MapEntry} {clock : Nat} : stable (mapX bm es clock) := fun v F w w' ⟨h1, h2⟩ hk => ⟨h1, (hk bm ((h1 bm).2 rfl)).trans h2⟩
theorem At.twin {d p bm : Nat} {b2 : Bool} {m : List (Int × Value)} (hd : lookH H d = some (false, .mp m)) (hp : lookH H p = some (b2, .pin d bm))
    (h : ∀ es clock, Stamped es clock → es.toList.map mkv = m.map mpe → At P F Q c ks L ((nx, some (false, .ab (mapX bm es clock))) :: H) (nx + 1)) : At P F Q c ks L H nx :=
  ⟨fun hW e a w S => by
    obtain ⟨⟨h1, es, clock, h2, h3, h4, h5⟩, h6⟩ := S.ob d false _ hd
    have hb : e.blk d = bm := (S.ob p b2 _ hp).1.2
    rw [hb] at h1 h2
    obtain ⟨hW', S'⟩ := S.newF hW (.ab (mapX bm es clock)) 0 uv (fun g => g = bm) (fun m hm => by simp [Ob.ns] at hm) ⟨⟨fun g => by rw [Env.put3_fp], h2⟩, mapX_stable⟩ (fun g hg => by
      subst hg
      refine ⟨(h6 g ((h1 g).2 rfl)).1, fun n o' hn hg' => ?_⟩
      by_cases hne : n = d
      · subst hne
        rw [hd] at hn
        cases hn
      · exact S.dj n o' d _ _ hn hd hne g hg' ((h1 g).2 rfl))
    exact (h es clock h3 h4).h hW' _ a w S'⟩
end
/-- Behind a pointer. -/
def qget (n : Nat) : List (Nat × List CV) → Option (List CV)
  | [] => none
  | (m, cs) :: l => if m = n then some cs else qget n l
theorem qget_mem {n : Nat} {cs : List CV} : ∀ {l : List (Nat × List CV)}, qget n l = some cs → (n, cs) ∈ l
  | [], h => by cases h
  | (m, cs') :: l, h => by
    unfold qget at h
    split at h
    · rename_i hm
      cases h
      subst hm
      simp
    · exact List.mem_cons_of_mem _ (qget_mem h)
theorem spec_loadQ {P : Program} {tys : List (Nat × Ty)} (hty : TysOk P tys) {L : LL} {H : HL} {nx p q n n0 off : Nat} {b1 b2 : Bool} {o : Oper} {T Tq : TypeId} {I : Ty} {x : Operand} {l : List (Nat × List CV)} {cs : List CV} {y : CV} (hop : o.op = .load T x)
    (hI : look T tys = some I) (hsz : I.size = 1) (hmk : mkV I [y] = some (.c y)) (hx : ev L x = some (.c (.p n off))) (hp : lookH H p = some (b1, .pin n n0)) (hq : lookH H q = some (b2, .ab (bufsQ Tq l))) (hg : qget n0 l = some cs) (hc : cs[off]? = some y) :
    Spec P L H nx o ⟨.t (.c y), [], [], []⟩ := by
  refine ⟨fun F => step_pure fun e a w S => ?_⟩
  have hT := hty _ _ hI
  have hb : e.blk n = n0 := (S.ob p b1 _ hp).1.2
  obtain ⟨⟨_, _, _, h4, h5⟩, _⟩ := (S.ob q b2 _ hq).1
  have hm := qget_mem hg
  have hblk := h4 _ hm
  have hcl : y.den e0 = y.den e := by
    refine (CV.den_same fun k hk => ?_)
    have : k ∈ flatN (cs.map CV.ns) := mem_flatN.2 ⟨_, List.mem_map.2 ⟨y, List.mem_of_getElem? hc, rfl⟩, hk⟩
    rw [h5 _ hm] at this
    cases this
  have hev : a.eval x = .pointer (some ⟨n0, off, none⟩) := by
    rw [ev_ok S hx]
    simp only [TV.den, CV.den, hb]
  have hrun := run_loadVar (P := P) (w := w) hT ⟨n0, off, none⟩ e (l := [y]) (by rw [hsz]; rfl) hmk fun j u hu => by
    cases j with
    | zero =>
      rw [lit_add, cell_of_row w n0 (off + 0) _ Tq (0, 0) hblk]
      simp at hu
      simp only [List.getElem?_toArray, List.getElem?_map, Nat.add_zero, hc, Option.map_some]
      rw [← hu, hcl]
    | succ j => simp at hu
  simp only [execOp, hop, hev, Instr.loadAt, Instr.sureAddr, Sem.run_bind, Sem.run_pure, Result.andThen_ok, hrun]
  rfl
/-- A map that is ranged over. -/
def itP (bm clock : Nat) (seen : Array Nat) : AbP := fun v F w => ∃ r c0, v = ptr r ∧ (∀ g, F g ↔ g = r) ∧ w.heap[r]? = some (.mapIter (some bm) clock seen c0) ∧ clock ≤ c0
/-- .. that has handed out an entry. -/
def itL (bm clock : Nat) (seen : Array Nat) (x : MapEntry) : AbP := fun v F w => ∃ r, v = ptr r ∧ (∀ g, F g ↔ g = r) ∧ w.heap[r]? = some (.mapIter (some bm) clock (seen.push x.born) clock)
theorem itP_stable {bm clock : Nat} {seen : Array Nat} : stable (itP bm clock seen) := by
  rintro v F w w' ⟨r, c0, h1, h2, h3, h4⟩ hk
  exact ⟨r, c0, h1, h2, (hk r ((h2 r).2 rfl)).trans h3, h4⟩
theorem itL_stable {bm clock : Nat} {seen : Array Nat} {x : MapEntry} : stable (itL bm clock seen x) := by
  rintro v F w w' ⟨r, h1, h2, h3⟩ hk
  exact ⟨r, h1, h2, (hk r ((h2 r).2 rfl)).trans h3⟩
theorem itL_itP {bm clock : Nat} {seen : Array Nat} {x : MapEntry} : ∀ v F w, itL bm clock seen x v F w → itP bm clock (seen.push x.born) v F w := by
  rintro v F w ⟨r, h1, h2, h3⟩
  exact ⟨r, clock, h1, h2, h3, Nat.le_refl _⟩
def anyP : AbP := fun _ F _ => ∀ g, ¬ F g
theorem anyP_stable : stable anyP := fun _ _ _ _ h _ => h
theorem spec_range {P : Program} {tys : List (Nat × Ty)} (hty : TysOk P tys) {L : LL} {H : HL} {nx d p tw bm clock : Nat} {b1 b2 b3 : Bool} {o : Oper} {T : TypeId} {Z : Ty} {x : Operand} {m : List (Int × Value)} {es : Array MapEntry} (hop : o.op = .range T x)
    (hZ : mapT (fun t => look t tys) T = some Z) (hx : ev L x = some (.c (.mp d))) (hd : lookH H d = some (b1, .mp m)) (hp : lookH H p = some (b2, .pin d bm)) (ht : lookH H tw = some (b3, .ab (mapX bm es clock))) :
    Spec P L H nx o ⟨.t (.c (.nm nx)), [(true, .ab (itP bm clock #[]))], [], []⟩ := by
  refine ⟨fun F => ?_⟩
  obtain ⟨kt, et, t1, _, _⟩ := mapT_ok hty hZ
  intro hlow e a w S K Q hK
  have hb : e.blk d = bm := (S.ob p b2 _ hp).1.2
  have hev : a.eval x = .map (some bm) := by
    rw [ev_ok S hx]
    simp only [TV.den, CV.den, hb]
  have hm := (S.ob tw b3 _ ht).1.1.2
  let r := w.heap.size
  let e' := e.put3 nx r (ptr r) (fun g => g = r)
  have hv : e'.val nx = ptr r := Env.put3_val e rfl
  refine wp_value (v := (SV.t (.c (.nm nx))).den e') (w' := w.alloc (.mapIter (some bm) clock #[] clock)) ?_ (hK e' _ (.old ⟨fun n hn => Env.put3_same e (by simp only [List.length_cons, List.length_nil] at hn; omega), rfl, rfl, rfl, by simp, fun g hg _ => Below.heap_alloc w _ g hg, fun k b o hk => ?_, fun j k hj hk hne => ?_, fun n o ho => (by cases ho)⟩))
  · simp only [execOp, hop, hev, run_range_map w T kt et bm es clock t1 hm, Sem.run_bind, Result.andThen_ok, Sem.run_pure, SV.den, TV.den, CV.den, hv]
    rfl
  · cases k with
    | zero =>
      cases hk
      have hfp : e'.fp nx = fun g => g = r := Env.put3_fp e
      refine ⟨⟨⟨r, clock, hv, fun g => by rw [Nat.add_zero, hfp], heap_alloc_new w _, Nat.le_refl _⟩, itP_stable⟩, fun g hg => ?_⟩
      rw [Nat.add_zero, hfp] at hg
      subst hg
      exact ⟨by simp [r], .inl (Nat.le_refl _)⟩
    | succ k => simp at hk
  · simp only [List.length_cons, List.length_nil] at hj hk
    omega
theorem spec_next_end {P : Program} {L : LL} {H : HL} {nx it tw bm clock : Nat} {b1 b2 : Bool} {o : Oper} {x : Operand} {es : Array MapEntry} {seen : Array Nat} (hop : o.op = .next x false)
    (hx : ev L x = some (.c (.nm it))) (hi : lookH H it = some (b1, .ab (itP bm clock seen))) (ht : lookH H tw = some (b2, .ab (mapX bm es clock))) (hst : Stamped es clock) (hz : (leftOf es seen).size = 0) :
    Spec P L H nx o ⟨.tup [.c (.b false)], [], [], []⟩ := by
  refine ⟨fun F => step_pure fun e a w S => ?_⟩
  obtain ⟨r, c0, h1, h2, h3, h4⟩ := (S.ob it b1 _ hi).1.1
  have hm := (S.ob tw b2 _ ht).1.1.2
  have hev : a.eval x = .pointer (some ⟨r, 0, none⟩) := by
    rw [ev_ok S hx]
    exact h1
  rcases run_next_at (P := P) w o.type r bm clock c0 seen es clock h3 hm ((stamped_iff es clock).1 hst).1 h4 with ⟨_, h5⟩ | ⟨y, hy, _⟩
  · simp only [execOp, hop, hev, h5, Sem.run_bind, Result.andThen_ok, Sem.run_pure]
    rfl
  · have : (leftOf es seen).toList.length = 0 := by simpa using hz
    rw [List.length_eq_zero_iff] at this
    rw [this] at hy
    cases hy
theorem spec_next {P : Program} {L : LL} {H : HL} {nx it tw bm clock : Nat} {b2 : Bool} {o : Oper} {x : Operand} {es : Array MapEntry} {seen : Array Nat} (hop : o.op = .next x false)
    (hx : ev L x = some (.c (.nm it))) (hi : lookH H it = some (true, .ab (itP bm clock seen))) (ht : lookH H tw = some (b2, .ab (mapX bm es clock))) (hst : Stamped es clock) (hz : (leftOf es seen).size ≠ 0) (hone : ∀ y ∈ es.toList, y.key.oneCell' = true ∧ y.val.oneCell' = true) :
    Spec P L H nx o ⟨.tup [.c (.b true), .c (.nm nx), .c (.nm (nx + 1))], [(false, .ab anyP), (false, .ab anyP)], [(it, some (.ab (exP fun y : {y // y ∈ (leftOf es seen).toList} => itL bm clock seen y.1)))], []⟩ := by
  refine ⟨fun F => ?_⟩
  intro hlow e a w S K Q hK
  obtain ⟨r, c0, h1, h2, h3, h4⟩ := (S.ob it true _ hi).1.1
  have hm := (S.ob tw b2 _ ht).1.1.2
  have hev : a.eval x = .pointer (some ⟨r, 0, none⟩) := by
    rw [ev_ok S hx]
    exact h1
  rcases run_next_at (P := P) w o.type r bm clock c0 seen es clock h3 hm ((stamped_iff es clock).1 hst).1 h4 with ⟨h5, _⟩ | ⟨y, hy, w1, hw1, h5⟩
  · exact absurd h5 hz
  · have hye : y ∈ es.toList := (mem_left hy).1
    obtain ⟨o1, o2⟩ := hone y hye
    let e1 := e.put3 nx 0 y.key (fun _ => False)
    let e2 := e1.put3 (nx + 1) 0 y.val (fun _ => False)
    have v1 : e2.val nx = y.key := ((Env.put3_same e1 (by omega)).2.1).trans (Env.put3_val e o1)
    have v2 : e2.val (nx + 1) = y.val := Env.put3_val e1 o2
    have hit : it < nx := (hlow.2 it _ hi).1
    have hs : ∀ n, n ≠ nx → n ≠ nx + 1 → e.same e2 n := fun n g1 g2 => ⟨((Env.put3_same e1 g2).1).trans (Env.put3_same e g1).1, ((Env.put3_same e1 g2).2.1).trans (Env.put3_same e g1).2.1, ((Env.put3_same e1 g2).2.2).trans (Env.put3_same e g1).2.2⟩
    have f1 : e2.fp nx = fun _ => False := ((Env.put3_same e1 (by omega)).2.2).trans (Env.put3_fp e)
    have f2 : e2.fp (nx + 1) = fun _ => False := Env.put3_fp e1
    let w' := ChangeMaps.setBlock w1 r (.mapIter (some bm) clock (seen.push y.born) clock)
    have hh : w1.heap = w.heap ∧ w1.os = w.os ∧ w1.tape = w.tape ∧ w1.output = w.output := by rcases hw1 with rfl | rfl <;> exact ⟨rfl, rfl, rfl, rfl⟩
    have hlt : r < w.heap.size := (Array.getElem?_eq_some_iff.1 h3).1
    have hheap : w'.heap = w.heap.setIfInBounds r (.mapIter (some bm) clock (seen.push y.born) clock) := by
      show w1.heap.setIfInBounds r _ = _
      rw [hh.1]
    refine wp_value (v := (SV.tup [.c (.b true), .c (.nm nx), .c (.nm (nx + 1))]).den e2) (w' := w') ?_ (hK e2 _ (.old ⟨fun n hn => hs n (by simp only [List.length_cons, List.length_nil] at hn; omega) (by simp only [List.length_cons, List.length_nil] at hn; omega), hh.2.1, hh.2.2.1, hh.2.2.2, ?_, fun g hg hno => ?_, fun k b o hk => ?_, fun j k hj hk hne g hg => ?_, fun n o ho => ?_⟩))
    · simp only [execOp, hop, hev, h5, Sem.run_bind, Result.andThen_ok, Sem.run_pure, SV.den, TV.den, CV.den, List.map_cons, List.map_nil, v1, v2]
      rfl
    · rw [hheap]; simp
    · have : r ≠ g := fun hr => hno it (some (.ab (exP fun y : {y // y ∈ (leftOf es seen).toList} => itL bm clock seen y.1))) (by simp) ((h2 g).2 hr.symm)
      rw [hheap, Array.getElem?_setIfInBounds_ne this]
    · rcases k with _ | _ | k
      · cases hk
        exact ⟨⟨fun g hg => by rw [Nat.add_zero, f1] at hg; exact hg, anyP_stable⟩, fun g hg => by rw [Nat.add_zero, f1] at hg; exact hg.elim⟩
      · cases hk
        exact ⟨⟨fun g hg => by rw [Nat.zero_add, f2] at hg; exact hg, anyP_stable⟩, fun g hg => by rw [Nat.zero_add, f2] at hg; exact hg.elim⟩
      · simp at hk
    · rcases j with _ | _ | j
      · rw [Nat.add_zero, f1] at hg; exact hg.elim
      · rw [Nat.zero_add, f2] at hg; exact hg.elim
      · simp only [List.length_cons, List.length_nil] at hj; omega
    · simp only [List.mem_singleton, Prod.mk.injEq, Option.some.injEq] at ho
      obtain ⟨rfl, rfl⟩ := ho
      have hs' := hs n (by omega) (by omega)
      refine ⟨⟨⟨y, hy⟩, r, hs'.2.1.trans h1, fun g => by rw [hs'.2.2]; exact h2 g, ?_⟩, exP_stable fun k => itL_stable⟩
      rw [hheap, Array.getElem?_setIfInBounds_self_of_lt hlt]
theorem spec_entry {P : Program} {L : LL} {H : HL} {nx it tw bm clock : Nat} {b1 b2 : Bool} {o : Oper} {x : Operand} {es : Array MapEntry} {seen : Array Nat} {y : MapEntry} {k v : TV} (hop : o.op = .entry x)
    (hx : ev L x = some (.c (.nm it))) (hi : lookH H it = some (b1, .ab (itL bm clock seen y))) (ht : lookH H tw = some (b2, .ab (mapX bm es clock))) (hst : Stamped es clock) (hy : y ∈ es.toList)
    (hk : ∀ F e a w, Sat F (fun t => look t L) (lookH H) e a w → y.key = k.den e ∧ y.val = v.den e) :
    Spec P L H nx o ⟨.tup [k, v], [], [], []⟩ := by
  refine ⟨fun F => step_pure fun e a w S => ?_⟩
  obtain ⟨r, h1, h2, h3⟩ := (S.ob it b1 _ hi).1.1
  have hm := (S.ob tw b2 _ ht).1.1.2
  have hev : a.eval x = .pointer (some ⟨r, 0, none⟩) := by
    rw [ev_ok S hx]
    exact h1
  obtain ⟨k1, k2⟩ := hk F e a w S
  have := run_entry_at (P := P) w r bm clock seen es clock y h3 hm hy ((stamped_iff es clock).1 hst).2.1
  simp only [execOp, hop, hev, this, Sem.run_bind, Result.andThen_ok, Sem.run_pure, SV.den, List.map_cons, List.map_nil, k1, k2]
end Vc
namespace Vc
open Go Go.RowKit
theorem fnh_shut {P : Program} {f : FuncId} {bs : List TV} {H : HL} {nx d : Nat} {O : List (Bool × Ob)} {x : CV} {v' : SV} {news' : List (Bool × Ob)} (hd : lookH H d = some (true, .ab (absP O x))) (hx : inR 0 O.length x.ns = true) (hO : newsR 0 O.length O = true) (hbs : bares bs = true)
    (hvr : inR 0 news'.length v'.ns = true) (hnr : newsR 0 news'.length news' = true)
    (h : FnH P f (.c x :: bs) (newsH 0 O) O.length ⟨v'.re (O.length + ·), reN (O.length + ·) news', [], []⟩) : FnH P f (.c (.nm d) :: bs) H nx ⟨v'.re (nx + ·), reN (nx + ·) news', [(d, some (.ab (absP O x)))], []⟩ := by
  refine ⟨fun hwf _ e w M => ?_⟩
  obtain ⟨⟨hp, hst⟩, hlt⟩ := M.ob d true _ hd
  have hp0 := hp
  obtain ⟨e0', h1, h2, h3, h4, h5⟩ := hp
  have hM : MemOk (newsH 0 O) e0' w := by
    refine ⟨fun n b o hn => ?_, fun n o m c q hn hm hne => ?_⟩
    · rw [lookH_newsH, if_pos (Nat.zero_le _), Nat.sub_zero] at hn
      refine ⟨(h2 n b o hn).1, fun g hg => h5 g ((h4 g).2 ⟨n, ?_, hg⟩)⟩
      rcases Nat.lt_or_ge n O.length with hl | hl
      · exact hl
      · rw [List.getElem?_eq_none hl] at hn; cases hn
    · rw [lookH_newsH, if_pos (Nat.zero_le _), Nat.sub_zero] at hn hm
      have hln : n < O.length := by
        rcases Nat.lt_or_ge n O.length with hl | hl
        · exact hl
        · rw [List.getElem?_eq_none hl] at hn; cases hn
      have hlm : m < O.length := by
        rcases Nat.lt_or_ge m O.length with hl | hl
        · exact hl
        · rw [List.getElem?_eq_none hl] at hm; cases hm
      exact h3 n m hln hlm hne
  have := h.h (fun n z hn => by
      rw [lookH_newsH, if_pos (Nat.zero_le _), Nat.sub_zero] at hn
      obtain ⟨b, o⟩ := z
      refine ⟨?_, fun m hm => (newsR_ok hO n b o hn m hm).2⟩
      rcases Nat.lt_or_ge n O.length with hl | hl
      · exact hl
      · rw [List.getElem?_eq_none hl] at hn; cases hn) (fun a ha n hn => by
      rcases List.mem_cons.1 ha with rfl | ha
      · exact (inR_ok hx n hn).2
      · exact (bares_no hbs a ha n hn).elim) e0' w hM
  have hargs : (TV.c (.nm d) :: bs).map (TV.den e) = (TV.c x :: bs).map (TV.den e0') := by
    rw [List.map_cons, List.map_cons, bares_den hbs e, bares_den hbs e0']
    congr 1
  rw [hargs]
  refine Calls.mono this ?_
  rintro en w' ⟨e1, rfl, K⟩
  have hkeep : ∀ g, g < w.heap.size → w'.heap[g]? = w.heap[g]? := fun g hg => K.block g hg fun n o ho => (by cases ho)
  have hnw : ∀ {j : Nat} {b : Bool} {o : Ob}, news'[j]? = some (b, o) → (o.re (O.length + ·)).holds e1 (O.length + j) w' ∧ ∀ g, e1.fp (O.length + j) g → g < w'.heap.size ∧ w.heap.size ≤ g := by
    intro j b o hj
    have hj' : (reN (O.length + ·) news')[j]? = some (b, o.re (O.length + ·)) := by rw [reN_get, hj]; rfl
    cases K with
    | old K =>
      obtain ⟨a1, a2⟩ := K.news j b _ hj'
      refine ⟨a1, fun g hg => ⟨(a2 g hg).1, ?_⟩⟩
      rcases (a2 g hg).2 with a3 | ⟨n, hn, _⟩
      · exact a3
      · cases hn
    | anew K =>
      obtain ⟨a1, a2⟩ := K.news j b _ hj'
      refine ⟨a1, fun g hg => ⟨(a2 g hg).1, ?_⟩⟩
      rcases (a2 g hg).2 with a3 | ⟨n, o', hn, _⟩
      · exact a3
      · cases hn
  have hndj : ∀ j k, j < news'.length → k < news'.length → j ≠ k → ∀ g, e1.fp (O.length + j) g → ¬ e1.fp (O.length + k) g := by
    cases K with
    | old K => exact fun j k hj hk => K.ndj j k (by simpa [reN_length] using hj) (by simpa [reN_length] using hk)
    | anew K => exact fun j k hj hk => K.ndj j k (by simpa [reN_length] using hj) (by simpa [reN_length] using hk)
  -- the new names, counted from 0
  let e2 : Env := e1.comp (O.length + ·)
  have hdn : d < nx := (hwf d _ hd).1
  refine ⟨e.open e2 nx news'.length, ?_, .old ⟨?_, K.os, K.tape, K.out, K.size, fun g hg _ => hkeep g hg, ?_, ?_, ?_⟩⟩
  · show Ending.returned ((v'.re (O.length + ·)).den e1) = _
    have a1 : (v'.re (O.length + ·)).den e1 = v'.den e2 := SV.re_den (e := e2) (e' := e1) fun n _ => ⟨rfl, rfl⟩
    rw [a1, SV.re_den (e := e2) fun n hn => (Env.open_new e e2 (inR_ok hvr n hn).2).1]
  · intro n hn
    simp only [reN_length] at hn
    refine ⟨?_, ?_, ?_⟩ <;> (show (if _ then _ else _) = _; rw [if_neg (by omega)])
  · intro k b o hk
    rw [reN_get] at hk
    cases hk' : news'[k]? with
    | none => rw [hk'] at hk; cases hk
    | some z =>
      rw [hk'] at hk
      cases hk
      obtain ⟨b, o⟩ := z
      have hltk : k < news'.length := by
        rcases Nat.lt_or_ge k news'.length with hl | hl
        · exact hl
        · rw [List.getElem?_eq_none hl] at hk'; cases hk'
      obtain ⟨q1, q2⟩ := hnw hk'
      obtain ⟨p1, p2⟩ := Env.open_new e e2 (nx := nx) hltk
      have q1' : o.holds e2 k w' := Ob.re_back (r := (O.length + ·)) (n := k) q1
      refine ⟨Ob.re_holds p1 p2 (fun m hm => (Env.open_new e e2 (newsR_ok hnr k b o hk' m hm).2).1) q1', fun g hg => ?_⟩
      rw [p2] at hg
      exact ⟨(q2 g hg).1, .inl (q2 g hg).2⟩
  · intro j k hj hk hne g hg hg'
    simp only [reN_length] at hj hk
    rw [(Env.open_new e e2 hj).2] at hg
    rw [(Env.open_new e e2 hk).2] at hg'
    exact hndj j k hj hk hne g hg hg'
  · intro n o ho
    simp only [List.mem_singleton, Prod.mk.injEq, Option.some.injEq] at ho
    obtain ⟨rfl, rfl⟩ := ho
    have hs : e.same (e.open e2 nx news'.length) n := Env.open_old e e2 hdn
    exact Ob.same hs (o := .ab (absP O x)) ⟨hst _ _ _ _ hp0 fun g hg => hkeep g (hlt g hg), hst⟩ fun m hm => by simp [Ob.ns] at hm
end Vc
namespace Cw
open Go Vc
section
variable {α : Type}
def fcs {α : Type} (f : α → List Value) (l : List α) : List Value := (l.map f).flatten
theorem fcs_length {f : α → List Value} {c : Nat} (hc : ∀ a, (f a).length = c) (l : List α) : (fcs f l).length = l.length * c := by
  induction l with
  | nil => simp [fcs]
  | cons p l ih =>
    simp only [fcs, List.map_cons, List.flatten_cons, List.length_append, List.length_cons] at *
    rw [ih, hc, Nat.add_mul]
    omega
theorem fcs_drop {f : α → List Value} {c : Nat} (hc : ∀ a, (f a).length = c) : ∀ (l : List α) (i : Nat) (h : i < l.length), (fcs f l).drop (i * c) = f l[i] ++ fcs f (l.drop (i + 1))
  | a :: l, 0, _ => by simp [fcs]
  | a :: l, i + 1, h => by
    have := fcs_drop hc l i (by simpa using h)
    rw [show (i + 1) * c = c + i * c by rw [Nat.add_mul]; omega, show fcs f (a :: l) = f a ++ fcs f l from rfl, ← List.drop_drop]
    rw [show (f a ++ fcs f l).drop c = fcs f l by rw [← hc a]; exact List.drop_left, this]
    rfl
theorem fcs_at {f : α → List Value} {c : Nat} (hc : ∀ a, (f a).length = c) {l : List α} {i : Nat} (h : i < l.length) {j : Nat} {u : Value} (hu : (f l[i])[j]? = some u) : (fcs f l)[(i : Int).toNat * c + j]? = some u := by
  rw [Int.toNat_natCast, ← List.getElem?_drop, fcs_drop hc l i h, List.getElem?_append_left (List.getElem?_eq_some_iff.1 hu).1]
  exact hu
theorem fcs_app (f : α → List Value) (l : List α) (a : α) : fcs f (l ++ [a]) = fcs f l ++ f a := by simp [fcs]
theorem fcs_split {f : α → List Value} {c : Nat} (hc : ∀ a, (f a).length = c) (l : List α) (i : Nat) (h : i ≤ l.length) : (fcs f l).take (i * c) = fcs f (l.take i) ∧ (fcs f l).drop (i * c) = fcs f (l.drop i) := by
  have e : fcs f l = fcs f (l.take i) ++ fcs f (l.drop i) := by
    have e0 : fcs f (l.take i ++ l.drop i) = fcs f (l.take i) ++ fcs f (l.drop i) := by simp only [fcs, List.map_append, List.flatten_append]
    rw [← e0, List.take_append_drop]
  have hl : (fcs f (l.take i)).length = i * c := by rw [fcs_length hc, List.length_take, Nat.min_eq_left h]
  rw [e]
  exact ⟨List.take_left' hl, List.drop_left' hl⟩
end
theorem setAt_one {xs : List Value} {k : Nat} {v : Value} (h : k < xs.length) : Vc.setAt xs k [v] = xs.set k v := by
  rw [List.set_eq_take_append_cons_drop, if_pos h]
  simp [Vc.setAt]
theorem set_fcs {α : Type} {f : α → List Value} {c : Nat} (hc : ∀ a, (f a).length = c) {l : List α} {i j : Nat} {v : Value} {a' : α} (h : i < l.length) (hj : j < c) (ha : (f l[i]).set j v = f a') : Vc.setAt (fcs f l) (i * c + j) [v] = fcs f (l.set i a') := by
  have e0 : ∀ (x y : List α), fcs f (x ++ y) = fcs f x ++ fcs f y := fun x y => by simp only [fcs, List.map_append, List.flatten_append]
  have e1 : fcs f l = fcs f (l.take i) ++ (f l[i] ++ fcs f (l.drop (i + 1))) := by
    have : l = l.take i ++ l[i] :: l.drop (i + 1) := by rw [List.getElem_cons_drop, List.take_append_drop]
    conv => lhs; rw [this, e0]
    rfl
  have hl : (fcs f (l.take i)).length = i * c := by rw [fcs_length hc, List.length_take, Nat.min_eq_left (by omega)]
  have hlt : i * c + j < (fcs f l).length := by
    rw [fcs_length hc]
    have : (i + 1) * c ≤ l.length * c := Nat.mul_le_mul_right _ (by omega)
    rw [Nat.add_mul] at this
    omega
  rw [setAt_one hlt, e1, List.set_append_right _ _ (by omega), hl, Nat.add_sub_cancel_left, List.set_append_left _ _ (by rw [hc]; exact hj), ha, List.set_eq_take_append_cons_drop, if_pos h, e0]
  rfl
end Cw
