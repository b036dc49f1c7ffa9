/- Slices of integers lent, kept and spoilt; things that a method reads besides. -/
import Derived.Test.YtapmgndnjgoimaaGreatSlV
import Derived.Test.YtapmgndnjgoimaaGreatVcAb
namespace Cw
open Go Vc
open Go.Proofs
set_option maxRecDepth 100000
/-- A part of a row of one's own, from its beginning on. -/
theorem SlR.sub {H : HL} {k : Nat} {b : Bool} {T : TypeId} {n s m : Nat} {xs ys : List Value} (hk : lookH H k = some (b, .own T s n xs)) (hm : m ≤ n) (hy : xs.take (m * s) = ys) : SlR H (.c (.sub k 0 0 m)) m s ys := by
  subst hy
  intro e w M
  obtain ⟨⟨hown, hfp⟩, hlt⟩ := M.ob k b _ hk
  have hl : (xs.take (m * s)).length = m * s := by
    rw [List.length_take, hown.1]
    exact Nat.min_eq_left (Nat.mul_le_mul_right s hm)
  rcases hown.2 with ⟨hv, hz⟩ | ⟨g, cap, cur, hv, _, hb, hn, hcm, hs, ht⟩
  · have : m = 0 := by omega
    subst this
    refine ⟨none, 0, by simp [TV.den, CV.den, hv], ⟨by simp, Nat.le_refl _, by decide, fun _ => rfl, fun j u hu => by simp at hu⟩, fun a ha => by cases ha⟩
  · refine ⟨some ⟨g, 0, none⟩, cap, ?_, ⟨hl, by omega, hcm, fun h => (by cases h), fun j u hu => ⟨_, rfl, ?_⟩⟩, fun a ha _ => ?_⟩
    · simp only [TV.den, CV.den, hv]
      split <;> simp [lit_add]
    · refine hown.cells (g := g) (by rw [hv]; rfl) j u ?_
      rw [List.getElem?_take] at hu
      split at hu
      · exact hu
      · cases hu
    · cases ha
      exact (Array.getElem?_eq_some_iff.1 hb).1
theorem ivs_one (l : List Int) : ∀ u ∈ ivs l, u.oneCell' = true := by
  intro u hu
  simp only [ivs, List.mem_map] at hu
  obtain ⟨x, _, rfl⟩ := hu
  rfl
theorem ivs_lit (a : Int) : ∀ u : Value, u ∈ [Value.int .i64 a] → u.oneCell' = true := by
  intro u hu
  simp at hu
  subst hu
  rfl
/-- The row behind a part that was lent. -/
theorem slrest {H : HL} {k : Nat} {b : Bool} {n : Nat} {xs : List Value} (hk : lookH H k = some (b, .own 3 1 n xs)) : ∀ e w, MemOk H e w → Mem (fun _ => False) [(0, some (false, .own 3 1 n xs))] (e.ren [(0, k)]) w := fun e w M => mem_one hk M (by repeat' (first | exact trivial | exact rfl | refine And.intro ?_ ?_))
/-- One row of its own, told by a part, and a slice. -/
theorem slown {H : HL} {k : Nat} {b : Bool} {T : TypeId} {n m s2 n2 : Nat} {v2 : TV} {xs xs2 : List Value} (hk : lookH H k = some (b, .own T 1 n xs)) (hb : SlR H v2 n2 s2 xs2) :
    ∀ e w, MemOk H e w → ∃ e', Mem (fun _ => False) [(0, some (false, .own T 1 n xs)), (1, some (false, .rd s2 n2 xs2))] e' w ∧ (CV.sub k 0 0 m).den e = (CV.sub 0 0 0 m).den e' ∧ v2.den e = (TV.c (.nm 1)).den e' := by
  intro e w M
  obtain ⟨A2, c2, b1, b2, b3⟩ := hb e w M
  obtain ⟨⟨hown, hfp⟩, hlt⟩ := M.ob k b _ hk
  refine ⟨⟨e.blk, fun q => if q = 0 then e.val k else .slice A2 n2 c2, fun q g => if q = 0 then e.fp k g else ∃ a, A2 = some a ∧ 0 < xs2.length ∧ g = a.block, fun q => by
      show (if q = 0 then e.val k else .slice A2 n2 c2).oneCell' = true
      split
      · exact e.one k
      · rfl⟩, ⟨fun q b' o h => ?_, fun q o m' c q' h => ?_⟩, rfl, b1⟩
  · rw [lookH_cons] at h
    split at h
    · rename_i hn
      cases h
      subst hn
      exact ⟨⟨hown, hfp⟩, fun g hg => ⟨hlt g hg, fun h => by cases h⟩⟩
    · rw [lookH_cons] at h
      split at h
      · rename_i hn
        cases h
        subst hn
        exact ⟨⟨A2, c2, rfl, b2, fun a ha h0 => ⟨a, ha, h0, rfl⟩⟩, fun g ⟨a, ha, h0, hg⟩ => ⟨hg ▸ b3 a ha h0, fun h => by cases h⟩⟩
      · cases h
  · rw [lookH_cons] at h
    split at h
    · cases h
    · rw [lookH_cons] at h
      split at h
      · cases h
      · cases h
theorem spoil_set {ys : List Int} {k : Nat} (h : k < ys.length) : Vc.setAt (ivs ys) (k * 1) [Value.int .i64 (-99)] = ivs (ys.set k (-99)) := by
  apply List.ext_getElem?
  intro i
  simp only [Vc.setAt, ivs]
  by_cases h1 : i < k
  · rw [List.append_assoc, List.getElem?_append_left (by simp; omega)]
    simp [List.getElem?_take, h1, List.getElem?_set, show k ≠ i by omega]
  · by_cases h2 : i = k
    · subst h2
      rw [List.append_assoc, List.getElem?_append_right (by simp; omega)]
      simp [h, show min i ys.length = i by omega]
    · rw [List.getElem?_append_right (by simp; omega)]
      simp only [List.length_append, List.length_take, List.length_map, List.length_singleton, List.getElem?_drop]
      rw [show min (k * 1) ys.length = k by omega, show k * 1 + 1 + (i - (k + 1)) = i by omega]
      simp [List.getElem?_set, show k ≠ i by omega]
/-- A slice that may be read beside the thing d. -/
def SlQ (H : HL) (v : TV) (n s : Nat) (xs : List Value) (d : Nat) : Prop := ∀ e w, MemOk H e w → ∃ A c, v.den e = .slice A n c ∧ Vc.Rds w A n c s xs ∧ ∀ a, A = some a → 0 < xs.length → a.block < w.heap.size ∧ ¬ e.fp d a.block
theorem SlQ.own {H : HL} {k d : Nat} {b : Bool} {T : TypeId} {n s : Nat} {xs : List Value} {o : Ob} (hk : lookH H k = some (b, .own T s n xs)) (hd : lookH H d = some (true, o)) (h : d ≠ k) : SlQ H (.c (.nm k)) n s xs d := by
  intro e w M
  obtain ⟨⟨hown, hfp⟩, hlt⟩ := M.ob k b _ hk
  have hob : (Ob.rd s n xs).holds (e.ren []) k w := Ob.eqs_ok (o := .own T s n xs) (ρ := []) (by repeat' (first | exact trivial | exact rfl | refine And.intro ?_ ?_)) ⟨hown, hfp⟩
  obtain ⟨A1, c1, q1, q2, q3⟩ := hob
  exact ⟨A1, c1, q1, q2, fun a ha h0 => ⟨hlt _ (q3 a ha h0), fun hg => M.dj d _ k _ _ hd hk h _ hg (q3 a ha h0)⟩⟩
theorem SlQ.rd {H : HL} {k d : Nat} {b : Bool} {n s : Nat} {xs : List Value} {o : Ob} (hk : lookH H k = some (b, .rd s n xs)) (hd : lookH H d = some (true, o)) (h : d ≠ k) : SlQ H (.c (.nm k)) n s xs d := by
  intro e w M
  obtain ⟨⟨A1, c1, q1, q2, q3⟩, hlt⟩ := M.ob k b _ hk
  exact ⟨A1, c1, q1, q2, fun a ha h0 => ⟨hlt _ (q3 a ha h0), fun hg => M.dj d _ k _ _ hd hk h _ hg (q3 a ha h0)⟩⟩
theorem SlQ.nil {H : HL} {s d : Nat} : SlQ H (.c .nsl) 0 s [] d := fun e w _ => ⟨none, 0, rfl, ⟨by simp, by decide, by decide, fun _ => rfl, fun j u hu => by simp at hu⟩, fun a ha => (by cases ha)⟩
theorem SlQ.sub {H : HL} {k d : Nat} {b : Bool} {T : TypeId} {n s m : Nat} {xs ys : List Value} {o : Ob} (hk : lookH H k = some (b, .own T s n xs)) (hm : m ≤ n) (hy : xs.take (m * s) = ys) (hd : lookH H d = some (true, o)) (h : d ≠ k) : SlQ H (.c (.sub k 0 0 m)) m s ys d := by
  intro e w M
  obtain ⟨A, c, q1, q2, q3⟩ := SlR.sub hk hm hy e w M
  obtain ⟨⟨hown, hfp⟩, hlt⟩ := M.ob k b _ hk
  refine ⟨A, c, q1, q2, fun a ha h0 => ⟨q3 a ha h0, fun hg => M.dj d _ k _ _ hd hk h _ hg ?_⟩⟩
  rw [hfp]
  rcases hown.2 with ⟨hv, hz⟩ | ⟨g, cap, cur, hv, _⟩
  · exfalso
    have : m = 0 := by omega
    subst this
    rw [← hy] at h0
    simp at h0
  · rw [hv]
    simp only [TV.den, CV.den, hv] at q1
    have hA : A = some ⟨g, 0, none⟩ := by
      split at q1
      · cases q1; rfl
      · simp [lit_add] at q1; exact q1.1.symm
    rw [hA] at ha
    cases ha
    rfl
theorem SlQ.cons {H : HL} {u : TV} {n s d : Nat} {xs : List Value} {φ ψ : AbP} (h : SlQ H u n s xs d) (hd : lookH H d = some (true, .ab φ)) (hs : stable φ) (hp : ∀ v F w, ψ v F w → φ v F w) : SlQ ((d, some (true, .ab ψ)) :: H) u n s xs d := by
  intro e w M
  have key : ∀ {q : Nat} {z : Bool × Ob}, lookH H q = some z → ∃ o', lookH ((d, some (true, .ab ψ)) :: H) q = some (z.1, o') ∧ (q ≠ d → o' = z.2) := by
    intro q z hq
    rw [lookH_cons]
    by_cases he : q = d
    · subst he
      rw [hd] at hq
      cases hq
      rw [if_pos rfl]
      exact ⟨_, rfl, fun h => (h rfl).elim⟩
    · rw [if_neg he]
      exact ⟨z.2, hq, fun _ => rfl⟩
  refine h e w ⟨fun q b o hq => ?_, fun q o m c o' hq hm hne => ?_⟩
  · by_cases he : q = d
    · subst he
      rw [hd] at hq
      cases hq
      obtain ⟨⟨h1, _⟩, h2⟩ := M.ob q true (.ab ψ) (by rw [lookH_cons, if_pos rfl])
      exact ⟨⟨hp _ _ _ h1, hs⟩, h2⟩
    · exact M.ob q b o (by rw [lookH_cons, if_neg he]; exact hq)
  · obtain ⟨o1, h1, _⟩ := key hq
    obtain ⟨o2, h2, _⟩ := key hm
    exact M.dj q o1 m c o2 h1 h2 hne
/-- A method that changes the thing it is called of, and reads a slice. -/
theorem fnA1q {P : Program} {f : FuncId} {fn : Func} {c : Code} (N : Nat) (hf : P.funcs[f]? = some fn) (hb : fn.body = some c) (hN : fn.ntmps = N) {d n s : Nat} {u : TV} {xs : List Value} {bs : List TV} {H : HL} {nx : Nat} {φ φ' : AbP} {v v' : SV} {news news' : List (Bool × Ob)}
    (hd : lookH H d = some (true, .ab φ)) (hr : SlQ H u n s xs d) (v0 : Value) (hp0 : Pins φ v0) (hp1 : Pins φ' v0) (hbs : bares bs = true) (hl : Nat.ble (bs.length + 2) N = true) (hW : wfL 2 (argsL 0 ((TV.c (.nm 0) :: TV.c (.nm 1) :: bs).map .t)) = true)
    (hv : v'.re (fun n => nx + (n - 1)) = v) (hnw : reN (fun n => nx + (n - 1)) news' = news) (hvr : inR 1 (1 + news'.length) v'.ns = true) (hnr : newsR 1 (1 + news'.length) news' = true)
    (hg : ∀ w W, At P ⟨w, W, N⟩ (bodyPost P fn (MPost w W v' ((true, .ab φ') :: news'))) c [] (argsL 0 ((TV.c (.nm 0) :: TV.c (.nm 1) :: bs).map .t)) [(0, some (true, .ab φ)), (1, some (false, .rd s n xs))] 2) :
    FnH P f (.c (.nm d) :: u :: bs) H nx ⟨v, news, [(d, some (.ab φ'))], []⟩ := by
  refine fnM N hf hb hN (args' := .c (.nm 0) :: .c (.nm 1) :: bs) (H' := [(0, some (true, .ab φ)), (1, some (false, .rd s n xs))]) (nx' := 2) [(d, φ')] (fun e w M => ?_) hl hW rfl (fun e w M u hu v1 F w' h => ?_) (fun u hu => ?_) (by simp) hv hnw rfl hvr hnr hg
  · have hc : ∀ {n' : Nat} {z : Bool × Ob}, lookH [(0, some (true, .ab φ)), (1, some (false, .rd s n xs))] n' = some z → n' = 0 ∧ z = (true, .ab φ) ∨ n' = 1 ∧ z = (false, .rd s n xs) := by
      intro n' z h
      rw [lookH_cons] at h
      split at h
      · cases h; exact .inl ⟨by assumption, rfl⟩
      · rw [lookH_cons] at h
        split at h
        · cases h; exact .inr ⟨by assumption, rfl⟩
        · cases h
    obtain ⟨A, cp, q1, q2, q3⟩ := hr e w M
    obtain ⟨h1, h2⟩ := M.ob d true _ hd
    refine ⟨⟨e.blk, fun q => if q = 0 then e.val d else .slice A n cp, fun q g => if q = 0 then e.fp d g else ∃ a, A = some a ∧ 0 < xs.length ∧ g = a.block, fun q => by
      show (if q = 0 then e.val d else .slice A n cp).oneCell' = true
      split
      · exact e.one d
      · rfl⟩, ⟨fun n' b o' hn => ?_, fun n' o' m c q hn hm hne g hg hg' => ?_⟩, ?_⟩
    · rcases hc hn with ⟨rfl, h⟩ | ⟨rfl, h⟩
      · cases h
        exact ⟨h1, fun g hg => ⟨h2 g hg, fun _ => ⟨(d, φ'), by simp, hg⟩⟩⟩
      · cases h
        exact ⟨⟨A, cp, rfl, q2, fun a ha h0 => ⟨a, ha, h0, rfl⟩⟩, fun g ⟨a, ha, h0, hg⟩ => ⟨hg ▸ (q3 a ha h0).1, fun h => by cases h⟩⟩
    · rcases hc hn with ⟨rfl, h⟩ | ⟨rfl, h⟩
      · rcases hc hm with ⟨rfl, h'⟩ | ⟨rfl, h'⟩
        · exact hne rfl
        · obtain ⟨a, ha, h0, rfl⟩ := (hg' : ∃ a, A = some a ∧ 0 < xs.length ∧ g = a.block)
          exact (q3 a ha h0).2 hg
      · cases h
    · rw [List.map_cons, List.map_cons, List.map_cons, List.map_cons, bares_den hbs e, ← bares_den hbs (⟨e.blk, fun q => if q = 0 then e.val d else .slice A n cp, fun q g => if q = 0 then e.fp d g else ∃ a, A = some a ∧ 0 < xs.length ∧ g = a.block, _⟩ : Env), q1]
      rfl
  · simp only [List.mem_singleton] at hu
    subst hu
    rw [hp1 _ _ _ h]
    exact (hp0 _ _ _ (M.ob d true _ hd).1.1).symm
  · simp only [List.mem_singleton] at hu
    subst hu
    exact ⟨_, hd⟩
end Cw
