/- Things behind pointers, all told by one name: taken out, given back. No program in sight. -/
import Derived.Test.YtkmgnfgcgfafcaaFnV
namespace Vc
open Go Go.RowKit
/-- Blocks of cells, each by its number. -/
def bufsQ (T : TypeId) (l : List (Nat × List CV)) : AbP := fun v F w =>
  v = .pointer none ∧ (l.map Prod.fst).Nodup ∧ (∀ g, F g ↔ g ∈ l.map Prod.fst) ∧ (∀ p ∈ l, w.heap[p.1]? = some (.cells (p.2.map (CV.den e0)).toArray T (0, 0))) ∧ ∀ p ∈ l, flatN (p.2.map CV.ns) = []
theorem bufsQ_stable {T : TypeId} {l : List (Nat × List CV)} : stable (bufsQ T l) := by
  rintro v F w w' ⟨h1, h2, h3, h4, h5⟩ hk
  exact ⟨h1, h2, h3, fun p hp => (hk p.1 ((h3 p.1).2 (List.mem_map.2 ⟨p, hp, rfl⟩))).trans (h4 p hp), h5⟩
theorem bufsQ_perm {T : TypeId} {l l' : List (Nat × List CV)} (h : l.Perm l') : ∀ v F w, bufsQ T l v F w → bufsQ T l' v F w := by
  rintro v F w ⟨h1, h2, h3, h4, h5⟩
  have hm := h.map Prod.fst
  exact ⟨h1, hm.nodup_iff.1 h2, fun g => (h3 g).trans hm.mem_iff, fun p hp => h4 p (h.mem_iff.2 hp), fun p hp => h5 p (h.mem_iff.2 hp)⟩
abbrev oneO (T : TypeId) (b : Nat) (cs : List CV) (l : List (Nat × List CV)) : List (Bool × Ob) := [(true, .cells cs T), (false, .pin 0 b), (true, .ab (bufsQ T l))]
theorem cells_e0 {cs : List CV} (h : flatN (cs.map CV.ns) = []) (e : Env) : cs.map (CV.den e) = cs.map (CV.den e0) := cells_same fun n hn => by rw [h] at hn; cases hn
theorem bufsQ_out {T : TypeId} {b : Nat} {cs : List CV} {l : List (Nat × List CV)} : ∀ v F w, bufsQ T ((b, cs) :: l) v F w → absP (oneO T b cs l) .np v F w := by
  rintro v F w ⟨h1, h2, h3, h4, h5⟩
  rw [List.map_cons, List.nodup_cons] at h2
  have hlt : ∀ p ∈ (b, cs) :: l, p.1 < w.heap.size := fun p hp => (Array.getElem?_eq_some_iff.1 (h4 p hp)).1
  refine ⟨⟨fun _ => b, fun _ => .pointer none, fun k g => if k = 0 then g = b else if k = 2 then g ∈ l.map Prod.fst else False, fun _ => rfl⟩, h1, ?_, ?_, ?_, ?_⟩
  · intro k c o hk
    match k with
    | 0 =>
      cases hk
      exact ⟨⟨fun g => by simp, (h4 (b, cs) (by simp)).trans (congrArg (fun (l : List Value) => some (Obj.cells l.toArray T (0, 0))) (cells_e0 (cs := cs) (h5 (b, cs) (by simp)) _).symm)⟩, fun h => by cases h⟩
    | 1 =>
      cases hk
      exact ⟨⟨fun g => by simp, rfl⟩, fun _ g => by simp⟩
    | 2 =>
      cases hk
      exact ⟨⟨⟨rfl, h2.2, fun g => by simp, fun p hp => h4 p (List.mem_cons.2 (.inr hp)), fun p hp => h5 p (List.mem_cons.2 (.inr hp))⟩, bufsQ_stable⟩, fun h => by cases h⟩
    | k + 3 => simp at hk
  · intro j k hj hk hne g hg hg'
    match j, k with
    | 0, 0 => exact hne rfl
    | 0, 1 => simp at hg'
    | 0, 2 => simp at hg hg'; subst hg; exact h2.1 (by simpa using hg')
    | 1, _ => simp at hg
    | 2, 0 => simp at hg hg'; subst hg'; exact h2.1 (by simpa using hg)
    | 2, 1 => simp at hg'
    | 2, 2 => exact hne rfl
    | j + 3, _ => simp at hj; omega
    | 0, k + 3 => simp at hk; omega
    | 2, k + 3 => simp at hk; omega
  · intro g
    rw [h3, List.map_cons, List.mem_cons]
    constructor
    · rintro (h | h)
      · exact ⟨0, by simp, by simpa using h⟩
      · exact ⟨2, by simp, by simpa using h⟩
    · rintro ⟨k, hk, hg⟩
      match k with
      | 0 => exact .inl (by simpa using hg)
      | 1 => simp at hg
      | 2 => exact .inr (by simpa using hg)
      | k + 3 => simp at hk; omega
  · intro g hg
    obtain ⟨p, hp, rfl⟩ := List.mem_map.1 ((h3 g).1 hg)
    exact hlt p hp
theorem bufsQ_in {T : TypeId} {b : Nat} {cs : List CV} {l : List (Nat × List CV)} (hcs : flatN (cs.map CV.ns) = []) : ∀ v F w, absP (oneO T b cs l) .np v F w → bufsQ T ((b, cs) :: l) v F w := by
  rintro v F w ⟨e, h1, h2, h3, h4, h5⟩
  obtain ⟨⟨a1, a2⟩, _⟩ := h2 0 true _ rfl
  obtain ⟨⟨p1, p2⟩, _⟩ := h2 1 false _ rfl
  obtain ⟨⟨⟨q1, q2, q3, q4, q5⟩, _⟩, _⟩ := h2 2 true _ rfl
  rw [p2] at a1 a2
  rw [cells_e0 hcs e] at a2
  refine ⟨h1, ?_, fun g => ?_, fun p hp => ?_, fun p hp => ?_⟩
  · rw [List.map_cons, List.nodup_cons]
    refine ⟨fun h => ?_, q2⟩
    exact h3 0 2 (by simp) (by simp) (by decide) b ((a1 b).2 rfl) ((q3 b).2 h)
  · rw [h4, List.map_cons, List.mem_cons]
    constructor
    · rintro ⟨k, hk, hg⟩
      match k with
      | 0 => exact .inl ((a1 g).1 hg)
      | 1 => exact (p1 g hg).elim
      | 2 => exact .inr ((q3 g).1 hg)
      | k + 3 => simp at hk; omega
    · rintro (h | h)
      · exact ⟨0, by simp, (a1 g).2 h⟩
      · exact ⟨2, by simp, (q3 g).2 h⟩
  · rcases List.mem_cons.1 hp with rfl | hp
    · exact a2
    · exact q4 p hp
  · rcases List.mem_cons.1 hp with rfl | hp
    · exact hcs
    · exact q5 p hp
theorem At.weak {P : Program} {F : Frm} {Q : Exit → Act → World → Prop} {c : Code} {ks : List KI} {L : LL} {H : HL} {nx : Nat} {φ φ' : AbP} {b : Bool} (d : Nat) (hd : lookH H d = some (b, .ab φ)) (hs : stable φ') (hp : ∀ v F w, φ v F w → φ' v F w) (h : At P F Q c ks L ((d, some (b, .ab φ')) :: H) nx) : At P F Q c ks L H nx :=
  ⟨fun hW e a w S => h.h (wf_ab hW hd) e a w (S.weakAb hd hs (hp _ _ _))⟩
/-- A lookup in a map of pointers: the block that it finds has a name. -/
theorem spec_lookp {P : Program} {tys : List (Nat × Ty)} (hty : TysOk P tys) {L : LL} {H : HL} {nx q n n0 : Nat} {b2 : Bool} {o : Oper} {T : TypeId} {x ix : Operand} {k : Int} {Z : Ty} {r : Option Nat} {m : List (Int × Value)} (hop : o.op = .lookup T x ix false)
    (hZ : mapT (fun t => look t tys) T = some Z) (hx : mpOf L H x = some (r, m)) (hk : ev L ix = some (.c (.i .i64 k))) (hq : lookH H q = some (b2, .pin n n0)) (hg : mget k m = some (ptr n0)) : Spec P L H nx o ⟨.t (.c (.p n 0)), [], [], []⟩ := by
  refine ⟨fun F => ?_⟩
  obtain ⟨kt, et, t1, t2, t3⟩ := mapT_ok hty hZ
  refine step_pure fun e a w S => ?_
  have hk' : a.eval ix = .int .i64 k := ev_ok S hk
  have hb : e.blk n = n0 := (S.ob q b2 _ hq).1.2
  have hv : ∀ z, lkV m k z false = (SV.t (.c (.p n 0))).den e := fun z => by
    unfold lkV
    rw [hg]
    simp only [SV.den, TV.den, CV.den, hb]
    rfl
  rcases mpOf_ok S hx with ⟨n', b, rfl, _, _, hx', _, hm⟩ | ⟨rfl, rfl, hx'⟩
  · have := hm.run_lookup t1 t2 (t3 w) k false
    rw [hv] at this
    simp [execOp, hop, hx', hk', this]
  · cases hg
/-- A map of pointers is written: the block has a name, and a number. -/
theorem spec_mapup {P : Program} {tys : List (Nat × Ty)} (hty : TysOk P tys) {L : LL} {H : HL} {nx q n n0 d : Nat} {b2 : Bool} {o : Oper} {T : TypeId} {x ix y : Operand} {k : Int} {Z : Ty} {m : List (Int × Value)} (hop : o.op = .mapUpdate T x ix y)
    (hZ : mapT (fun t => look t tys) T = some Z) (hx : mpOf L H x = some (some d, m)) (hk : ev L ix = some (.c (.i .i64 k))) (hy : ev L y = some (.c (.p n 0))) (hq : lookH H q = some (b2, .pin n n0)) (hki : inI64 k) :
    Spec P L H nx o ⟨.t (.c (.raw undef)), [], [(d, some (.mp (mput k (ptr n0) m)))], []⟩ := by
  refine ⟨fun F => ?_⟩
  obtain ⟨kt, et, t1, t2, t3⟩ := mapT_ok hty hZ
  intro _ e a w S K Q hK
  have hk' : a.eval ix = .int .i64 k := ev_ok S hk
  have hb : e.blk n = n0 := (S.ob q b2 _ hq).1.2
  have hv' : a.eval y = ptr n0 := by
    rw [ev_ok S hy]
    simp only [TV.den, CV.den, hb]
    rfl
  rcases mpOf_ok S hx with ⟨n', b, hn', _, _, hx', hfp, hm⟩ | ⟨hn', _, _⟩
  · cases hn'
    obtain ⟨ob, r1, r2⟩ := hm.run_update t1 t2 k (ptr n0) hki
    refine wp_skipped (w' := { w with heap := w.heap.setIfInBounds (e.blk d) ob }) ?_ (hK e _ (mp_write hfp r2))
    simp [execOp, hop, hx', hk', hv', r1]
  · cases hn'
end Vc
