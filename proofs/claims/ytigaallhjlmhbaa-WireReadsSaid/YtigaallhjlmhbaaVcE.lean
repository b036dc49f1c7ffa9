/- A walk by reckoning: functions that return memory of their own; the rest of a loop by an invariant. No program in sight. -/
import Derived.Test.YtigaallhjlmhbaaVcD
namespace Vc
open Go Go.RowKit

/-- The rest of a loop by an invariant. -/
theorem nextLoop {P : Program} {F : Frm} {Q : Exit → Act → World → Prop} {body : Code} {ks : List KI} {L : LL} {H : HL} {nx0 : Nat} {X : Type} (nx : Nat) (μ : X → Nat) (Lx : X → LL) (Hx : X → HL) (x0 : X) (ρ : List (Nat × Nat)) (hW : ∀ x, WF (Lx x) (Hx x) nx)
    (hL : allP (subL ρ L (Lx x0))) (hH : allP (subH ρ H (Hx x0))) (hi : injK ρ (keysH (Hx x0)) [] = true)
    (hr : ∀ x, At P F (roundQ P F Q ks μ Lx Hx x) body [] (Lx x) (Hx x) nx) : Done F (nextQ P Q ks body .normal) L H nx0 := by
  refine ⟨fun _ e a w S => ?_⟩
  have key : ∀ n x e a w, μ x = n → Sat F (fun t => look t (Lx x)) (lookH (Hx x)) e a w → LoopK P Q ks body a w := by
    intro n
    induction n using Nat.strongRecOn with
    | _ n ih =>
      intro x e a w hn S
      refine loopK (wp_mono ((hr x).h (hW x) e a w S) fun ex a1 w1 hq => ?_)
      cases ex with
      | normal =>
        obtain ⟨x', e', hlt, S'⟩ := hq
        exact ih (μ x') (by omega) x' e' a1 w1 rfl S'
      | exit id => exact hq
      | goto l => exact hq
      | ret => exact hq
      | panic ch => exact hq
      | outgrown => exact hq
  exact key _ x0 (e.ren ρ) a w rfl (S.sub ρ hL hH hi)

def newsH : Nat → List (Bool × Ob) → HL
  | _, [] => []
  | n, x :: l => (n, some x) :: newsH (n + 1) l
theorem lookH_newsH (t : Nat) : ∀ (l : List (Bool × Ob)) (n : Nat), lookH (newsH n l) t = if n ≤ t then l[t - n]? else none
  | [], n => by simp [newsH, lookH, look]
  | x :: l, n => by
    rw [newsH, lookH_cons, lookH_newsH t l]
    by_cases h : t = n
    · subst h; simp
    · by_cases h2 : n ≤ t
      · rw [if_neg h, if_pos h2, if_pos (by omega), show t - n = (t - (n + 1)) + 1 by omega, List.getElem?_cons_succ]
      · rw [if_neg h, if_neg h2, if_neg (by omega)]
def allNew : List (Bool × Ob) → Bool
  | [] => true
  | (b, _) :: l => match b with
    | true => allNew l
    | false => false
theorem allNew_ok : ∀ {l : List (Bool × Ob)}, allNew l = true → ∀ (k : Nat) (b : Bool) (o : Ob), l[k]? = some (b, o) → b = true
  | [], _, k, b, o, h => by cases h
  | (b', o') :: l, h, k, b, o, hk => by
    unfold allNew at h
    split at h
    · cases k with
      | zero => cases hk; rfl
      | succ k => exact allNew_ok h k b o hk
    · cases h
def inR (n m : Nat) : List Nat → Bool
  | [] => true
  | k :: l => match Nat.ble n k, Nat.blt k m with
    | true, true => inR n m l
    | _, _ => false
theorem inR_ok {n m : Nat} : ∀ {l : List Nat}, inR n m l = true → ∀ k ∈ l, n ≤ k ∧ k < m
  | [], _, k, h => by cases h
  | q :: l, h, k, hk => by
    unfold inR at h
    split at h
    · rename_i h1 h2
      rcases List.mem_cons.1 hk with rfl | hk
      · exact ⟨Nat.le_of_ble_eq_true h1, by simpa [Nat.blt_eq] using h2⟩
      · exact inR_ok h k hk
    · cases h
def newsR (n m : Nat) : List (Bool × Ob) → Bool
  | [] => true
  | (_, o) :: l => match inR n m o.ns with
    | true => newsR n m l
    | false => false
theorem newsR_ok {n m : Nat} : ∀ {l : List (Bool × Ob)}, newsR n m l = true → ∀ (k : Nat) (b : Bool) (o : Ob), l[k]? = some (b, o) → ∀ q ∈ o.ns, n ≤ q ∧ q < m
  | [], _, k, b, o, h => by cases h
  | (b', o') :: l, h, k, b, o, hk => by
    unfold newsR at h
    split at h
    · rename_i h1
      cases k with
      | zero => cases hk; exact inR_ok h1
      | succ k => exact newsR_ok h k b o hk
    · cases h
/-- What a call that makes memory leaves: the value and the new things, by names from nx on. -/
def NewPost (w : World) (nx : Nat) (v : SV) (news : List (Bool × Ob)) (en : Ending) (w' : World) : Prop :=
  ∃ e, en = .returned (v.den e) ∧ Below w.heap.size w w' ∧ (∀ (k : Nat) (b : Bool) (o : Ob), news[k]? = some (b, o) → o.holds e (nx + k) w' ∧ ∀ g, e.fp (nx + k) g → w.heap.size ≤ g ∧ g < w'.heap.size) ∧
    ∀ j k, j < news.length → k < news.length → j ≠ k → ∀ g, e.fp (nx + j) g → ¬ e.fp (nx + k) g
theorem retN {P : Program} {w0 : World} {N : Nat} {L : LL} {H : HL} {nx nx1 : Nat} {tys : List (Nat × Ty)} (hty : TysOk P tys) {fn : Func} {v : SV} {news : List (Bool × Ob)} {vs : List TV} (ρ : List (Nat × Nat)) (h : outV (fun t => look t tys) L H fn.results.toList = some vs)
    (hv : allP ((retS vs).eqs ρ v)) (hH : allP (subH ρ H (newsH nx1 news))) (hi : injK ρ (keysH (newsH nx1 news)) [] = true) (hb : allNew news = true) : Done ⟨w0, fun _ => False, N⟩ (bodyPost P fn (NewPost w0 nx1 v news) .ret) L H nx := by
  refine ⟨fun _ e a w S => ⟨S.df, _, run_results hty S h, e.ren ρ, by rw [SV.eqs_ok (e := e) hv], S.fr.below, ?_, ?_⟩⟩
  · intro k b o hk
    have S' := S.sub (L' := []) ρ trivial hH hi
    have hl : lookH (newsH nx1 news) (nx1 + k) = some (b, o) := by rw [lookH_newsH, if_pos (by omega), Nat.add_sub_cancel_left]; exact hk
    obtain ⟨h1, h2⟩ := S'.ob (nx1 + k) b o hl
    refine ⟨h1, fun g hg => ?_⟩
    obtain ⟨h3, h4⟩ := h2 g hg
    rcases h4 (allNew_ok hb k b o hk) with h5 | h5
    · exact ⟨h5, h3⟩
    · exact h5.elim
  · intro j k hj hk hne g hg hg'
    have S' := S.sub (L' := []) ρ trivial hH hi
    have e1 : news[j]? = some (news[j].1, news[j].2) := by rw [List.getElem?_eq_getElem hj]
    have e2 : news[k]? = some (news[k].1, news[k].2) := by rw [List.getElem?_eq_getElem hk]
    have l1 : lookH (newsH nx1 news) (nx1 + j) = some (news[j].1, news[j].2) := by rw [lookH_newsH, if_pos (by omega), Nat.add_sub_cancel_left]; exact e1
    have l2 : lookH (newsH nx1 news) (nx1 + k) = some (news[k].1, news[k].2) := by rw [lookH_newsH, if_pos (by omega), Nat.add_sub_cancel_left]; exact e2
    rw [allNew_ok hb j _ _ e1] at l1
    exact S'.dj _ _ _ _ _ l1 l2 (by omega) g hg hg'
/-- A function that reads memory that has names, keeps all of it, and makes some. -/
theorem fnN {P : Program} {f : FuncId} {fn : Func} {c : Code} (N : Nat) (hf : P.funcs[f]? = some fn) (hb : fn.body = some c) (hN : fn.ntmps = N) {args args' : List TV} {H H' : HL} {nx nx' : Nat} {v : SV} {news : List (Bool × Ob)}
    (hM : ∀ e w, MemOk H e w → ∃ e', Mem (fun _ => False) H' e' w ∧ args.map (TV.den e) = args'.map (TV.den e')) (hl : Nat.ble args'.length N = true) (hW : wfL nx' (argsL 0 (args'.map .t)) = true) (hW2 : wfH nx' H' = true)
    (hv : inR nx (nx + news.length) v.ns = true) (hn : newsR nx (nx + news.length) news = true)
    (hg : ∀ w, At P ⟨w, fun _ => False, N⟩ (bodyPost P fn (NewPost w nx v news)) c [] (argsL 0 (args'.map .t)) H' nx') : FnH P f args H nx ⟨v, news, [], []⟩ := by
  refine ⟨fun _ _ e w M => ?_⟩
  obtain ⟨e', M', he⟩ := hM e w M
  have := call_at N hf hb hN (args'.map .t) e' H' nx' (fun _ => False) (w := w) (by simpa using Nat.le_of_ble_eq_true hl) (wf hW hW2) M' (hg w)
  rw [List.map_map] at this
  rw [he]
  refine Calls.mono this ?_
  rintro en w' ⟨e1, rfl, hbl, h1, h2⟩
  have same : ∀ n, nx ≤ n ∧ n < nx + news.length → e1.same (⟨fun m => if nx ≤ m ∧ m < nx + news.length then e1.blk m else e.blk m, fun m => if nx ≤ m ∧ m < nx + news.length then e1.val m else e.val m, fun m => if nx ≤ m ∧ m < nx + news.length then e1.fp m else e.fp m⟩ : Env) n := by
    intro n hn
    exact ⟨if_pos hn, if_pos hn, if_pos hn⟩
  refine ⟨⟨fun m => if nx ≤ m ∧ m < nx + news.length then e1.blk m else e.blk m, fun m => if nx ≤ m ∧ m < nx + news.length then e1.val m else e.val m, fun m => if nx ≤ m ∧ m < nx + news.length then e1.fp m else e.fp m⟩, ?_, ?_, hbl.os, hbl.tape, hbl.output, hbl.size, fun g hg _ => hbl.block g hg, ?_, ?_, fun n o ho => by cases ho⟩
  · rw [SV.den_same fun n hn => same n (inR_ok hv n hn)]
  · intro n hn
    have : ¬ (nx ≤ n ∧ n < nx + news.length) := by
      simp only at hn
      omega
    exact ⟨if_neg this, if_neg this, if_neg this⟩
  · intro k b o hk
    have hlt : k < news.length := by
      rcases Nat.lt_or_ge k news.length with h | h
      · exact h
      · rw [List.getElem?_eq_none h] at hk; cases hk
    obtain ⟨g1, g2⟩ := h1 k b o hk
    refine ⟨Ob.same (same (nx + k) (by omega)) g1 fun m hm => same m (newsR_ok hn k b o hk m hm), fun g hg => ?_⟩
    rw [(same (nx + k) (by omega)).2.2] at hg
    exact ⟨(g2 g hg).2, .inl (g2 g hg).1⟩
  · intro j k hj hk hne g hg
    rw [(same (nx + j) (by simp only at hj; omega)).2.2] at hg
    rw [(same (nx + k) (by simp only at hk; omega)).2.2]
    exact h2 j k hj hk hne g hg
end Vc
