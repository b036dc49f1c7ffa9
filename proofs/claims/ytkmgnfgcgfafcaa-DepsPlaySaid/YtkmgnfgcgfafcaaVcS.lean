/- A contract of a function that reads a thing that is open: of the thing told by one name. No program in sight. -/
import Derived.Test.YtkmgnfgcgfafcaaVcN
namespace Vc
open Go Go.RowKit
theorem fnh_shut {P : Program} {f : FuncId} {bs : List TV} {H : HL} {nx d : Nat} {O : List (Bool × Ob)} {x : CV} {v' : SV} {news' : List (Bool × Ob)} (hd : lookH H d = some (true, .ab (absP O x))) (hx : inR 0 O.length x.ns = true) (hO : newsR 0 O.length O = true) (hbs : bares bs = true)
    (hvr : inR 0 news'.length v'.ns = true) (hnr : newsR 0 news'.length news' = true)
    (h : FnH P f (.c x :: bs) (newsH 0 O) O.length ⟨v'.re (O.length + ·), reN (O.length + ·) news', [], []⟩) : FnH P f (.c (.nm d) :: bs) H nx ⟨v'.re (nx + ·), reN (nx + ·) news', [(d, some (.ab (absP O x)))], []⟩ := by
  refine ⟨fun hwf _ e w M => ?_⟩
  obtain ⟨⟨hp, hst⟩, hlt⟩ := M.ob d true _ hd
  have hp0 := hp
  obtain ⟨e0', h1, h2, h3, h4, h5⟩ := hp
  have hM : MemOk (newsH 0 O) e0' w := by
    refine ⟨fun n b o hn => ?_, fun n o m c q hn hm hne => ?_⟩
    · rw [lookH_newsH, if_pos (Nat.zero_le _), Nat.sub_zero] at hn
      refine ⟨(h2 n b o hn).1, fun g hg => h5 g ((h4 g).2 ⟨n, ?_, hg⟩)⟩
      rcases Nat.lt_or_ge n O.length with hl | hl
      · exact hl
      · rw [List.getElem?_eq_none hl] at hn; cases hn
    · rw [lookH_newsH, if_pos (Nat.zero_le _), Nat.sub_zero] at hn hm
      have hln : n < O.length := by
        rcases Nat.lt_or_ge n O.length with hl | hl
        · exact hl
        · rw [List.getElem?_eq_none hl] at hn; cases hn
      have hlm : m < O.length := by
        rcases Nat.lt_or_ge m O.length with hl | hl
        · exact hl
        · rw [List.getElem?_eq_none hl] at hm; cases hm
      exact h3 n m hln hlm hne
  have := h.h (fun n z hn => by
      rw [lookH_newsH, if_pos (Nat.zero_le _), Nat.sub_zero] at hn
      obtain ⟨b, o⟩ := z
      refine ⟨?_, fun m hm => (newsR_ok hO n b o hn m hm).2⟩
      rcases Nat.lt_or_ge n O.length with hl | hl
      · exact hl
      · rw [List.getElem?_eq_none hl] at hn; cases hn) (fun a ha n hn => by
      rcases List.mem_cons.1 ha with rfl | ha
      · exact (inR_ok hx n hn).2
      · exact (bares_no hbs a ha n hn).elim) e0' w hM
  have hargs : (TV.c (.nm d) :: bs).map (TV.den e) = (TV.c x :: bs).map (TV.den e0') := by
    rw [List.map_cons, List.map_cons, bares_den hbs e, bares_den hbs e0']
    congr 1
  rw [hargs]
  refine Calls.mono this ?_
  rintro en w' ⟨e1, rfl, K⟩
  have hkeep : ∀ g, g < w.heap.size → w'.heap[g]? = w.heap[g]? := fun g hg => K.block g hg fun n o ho => (by cases ho)
  have hnw : ∀ {j : Nat} {b : Bool} {o : Ob}, news'[j]? = some (b, o) → (o.re (O.length + ·)).holds e1 (O.length + j) w' ∧ ∀ g, e1.fp (O.length + j) g → g < w'.heap.size ∧ w.heap.size ≤ g := by
    intro j b o hj
    have hj' : (reN (O.length + ·) news')[j]? = some (b, o.re (O.length + ·)) := by rw [reN_get, hj]; rfl
    cases K with
    | old K =>
      obtain ⟨a1, a2⟩ := K.news j b _ hj'
      refine ⟨a1, fun g hg => ⟨(a2 g hg).1, ?_⟩⟩
      rcases (a2 g hg).2 with a3 | ⟨n, hn, _⟩
      · exact a3
      · cases hn
    | anew K =>
      obtain ⟨a1, a2⟩ := K.news j b _ hj'
      refine ⟨a1, fun g hg => ⟨(a2 g hg).1, ?_⟩⟩
      rcases (a2 g hg).2 with a3 | ⟨n, o', hn, _⟩
      · exact a3
      · cases hn
  have hndj : ∀ j k, j < news'.length → k < news'.length → j ≠ k → ∀ g, e1.fp (O.length + j) g → ¬ e1.fp (O.length + k) g := by
    cases K with
    | old K => exact fun j k hj hk => K.ndj j k (by simpa [reN_length] using hj) (by simpa [reN_length] using hk)
    | anew K => exact fun j k hj hk => K.ndj j k (by simpa [reN_length] using hj) (by simpa [reN_length] using hk)
  -- the new names, counted from 0
  let e2 : Env := e1.comp (O.length + ·)
  have hdn : d < nx := (hwf d _ hd).1
  refine ⟨e.open e2 nx news'.length, ?_, .old ⟨?_, K.os, K.tape, K.out, K.size, fun g hg _ => hkeep g hg, ?_, ?_, ?_⟩⟩
  · show Ending.returned ((v'.re (O.length + ·)).den e1) = _
    have a1 : (v'.re (O.length + ·)).den e1 = v'.den e2 := SV.re_den (e := e2) (e' := e1) fun n _ => ⟨rfl, rfl⟩
    rw [a1, SV.re_den (e := e2) fun n hn => (Env.open_new e e2 (inR_ok hvr n hn).2).1]
  · intro n hn
    simp only [reN_length] at hn
    refine ⟨?_, ?_, ?_⟩ <;> (show (if _ then _ else _) = _; rw [if_neg (by omega)])
  · intro k b o hk
    rw [reN_get] at hk
    cases hk' : news'[k]? with
    | none => rw [hk'] at hk; cases hk
    | some z =>
      rw [hk'] at hk
      cases hk
      obtain ⟨b, o⟩ := z
      have hltk : k < news'.length := by
        rcases Nat.lt_or_ge k news'.length with hl | hl
        · exact hl
        · rw [List.getElem?_eq_none hl] at hk'; cases hk'
      obtain ⟨q1, q2⟩ := hnw hk'
      obtain ⟨p1, p2⟩ := Env.open_new e e2 (nx := nx) hltk
      have q1' : o.holds e2 k w' := Ob.re_back (r := (O.length + ·)) (n := k) q1
      refine ⟨Ob.re_holds p1 p2 (fun m hm => (Env.open_new e e2 (newsR_ok hnr k b o hk' m hm).2).1) q1', fun g hg => ?_⟩
      rw [p2] at hg
      exact ⟨(q2 g hg).1, .inl (q2 g hg).2⟩
  · intro j k hj hk hne g hg hg'
    simp only [reN_length] at hj hk
    rw [(Env.open_new e e2 hj).2] at hg
    rw [(Env.open_new e e2 hk).2] at hg'
    exact hndj j k hj hk hne g hg hg'
  · intro n o ho
    simp only [List.mem_singleton, Prod.mk.injEq, Option.some.injEq] at ho
    obtain ⟨rfl, rfl⟩ := ho
    have hs : e.same (e.open e2 nx news'.length) n := Env.open_old e e2 hdn
    exact Ob.same hs (o := .ab (absP O x)) ⟨hst _ _ _ _ hp0 fun g hg => hkeep g (hlt g hg), hst⟩ fun m hm => by simp [Ob.ns] at hm
end Vc
