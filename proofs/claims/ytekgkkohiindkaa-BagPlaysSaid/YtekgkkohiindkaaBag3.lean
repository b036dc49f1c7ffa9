/- The statement BagTruth, by reckoning. -/
import Derived.Test.YtekgkkohiindkaaBag
namespace Cw
open Go Vc
open Go.Proofs
set_option maxRecDepth 100000
/-- An act of the statements of layer 22. -/
structure BAct where
  kind : Int
  n : Int
  m : Ms
  text : ByteArray
def Ms.cells (m : Ms) : List Value := [.int .i64 m.k, .int .i64 m.f, .int .i64 m.t, .int .i64 m.r, .int .i64 m.s, .int .i64 m.e]
theorem Ms.one (m : Ms) : ∀ u ∈ m.cells, u.oneCell' = true := by
  intro u hu
  simp only [Ms.cells, List.mem_cons, List.not_mem_nil, or_false] at hu
  rcases hu with rfl | rfl | rfl | rfl | rfl | rfl <;> rfl
def Ms.cv (m : Ms) : List CV := [iT m.k, iT m.f, iT m.t, iT m.r, iT m.s, iT m.e]
def BAct.cells (a : BAct) : List Value := .int .i64 a.kind :: .int .i64 a.n :: (a.m.cells ++ [.string a.text])
def BAct.cv (a : BAct) : List CV := [iT a.kind, iT a.n, iT a.m.k, iT a.m.f, iT a.m.t, iT a.m.r, iT a.m.s, iT a.m.e, .s a.text]
/-- The cells of a row of things of so many cells. -/
def fcs {α : Type} (f : α → List Value) (l : List α) : List Value := (l.map f).flatten
theorem fcs_length {α : Type} {f : α → List Value} {c : Nat} (hc : ∀ a, (f a).length = c) (l : List α) : (fcs f l).length = l.length * c := by
  induction l with
  | nil => simp [fcs]
  | cons p l ih =>
    simp only [fcs, List.map_cons, List.flatten_cons, List.length_append, List.length_cons] at *
    rw [ih, hc, Nat.add_mul]
    omega
theorem fcs_drop {α : Type} {f : α → List Value} {c : Nat} (hc : ∀ a, (f a).length = c) : ∀ (l : List α) (i : Nat) (h : i < l.length), (fcs f l).drop (i * c) = f l[i] ++ fcs f (l.drop (i + 1))
  | a :: l, 0, _ => by simp [fcs]
  | a :: l, i + 1, h => by
    have := fcs_drop hc l i (by simpa using h)
    rw [show (i + 1) * c = c + i * c by rw [Nat.add_mul]; omega, show fcs f (a :: l) = f a ++ fcs f l from rfl, ← List.drop_drop]
    rw [show (f a ++ fcs f l).drop c = fcs f l by rw [← hc a]; exact List.drop_left, this]
    rfl
theorem fcs_at {α : Type} {f : α → List Value} {c : Nat} (hc : ∀ a, (f a).length = c) {l : List α} {i : Nat} (h : i < l.length) {j : Nat} {u : Value} (hu : (f l[i])[j]? = some u) : (fcs f l)[(i : Int).toNat * c + j]? = some u := by
  rw [Int.toNat_natCast, ← List.getElem?_drop, fcs_drop hc l i h, List.getElem?_append_left (List.getElem?_eq_some_iff.1 hu).1]
  exact hu
theorem fcs_app {α : Type} (f : α → List Value) (l : List α) (a : α) : fcs f (l ++ [a]) = fcs f l ++ f a := by simp [fcs]
abbrev bacells (l : List BAct) : List Value := fcs BAct.cells l
abbrev mcs (l : List Ms) : List Value := fcs Ms.cells l
theorem bacells_rd {l : List BAct} {i : Nat} (h : i < l.length) : Vc.rowAt (bacells l) ((i : Int).toNat * 9) l[i].cv :=
  have g := fun (j : Nat) (u : Value) (hu : (l[i].cells)[j]? = some u) => fcs_at (c := 9) (fun _ => rfl) h hu
  ⟨g 0 _ rfl, g 1 _ rfl, g 2 _ rfl, g 3 _ rfl, g 4 _ rfl, g 5 _ rfl, g 6 _ rfl, g 7 _ rfl, g 8 _ rfl, trivial⟩
theorem mcs_rd {l : List Ms} {i : Nat} (h : i < l.length) : Vc.rowAt (mcs l) ((i : Int).toNat * 6) l[i].cv :=
  have g := fun (j : Nat) (u : Value) (hu : (l[i].cells)[j]? = some u) => fcs_at (c := 6) (fun _ => rfl) h hu
  ⟨g 0 _ rfl, g 1 _ rfl, g 2 _ rfl, g 3 _ rfl, g 4 _ rfl, g 5 _ rfl, trivial⟩
def bvs (l : List Bool) : List Value := l.map Value.bool
theorem bvs_at {l : List Bool} {i : Nat} (h : i < l.length) : (bvs l)[(i : Int).toNat * 1]? = some (.bool l[i]) := by simp [bvs, h]
theorem set_bvs {S : List Bool} {k : Nat} {x : Bool} (h : k < S.length) : Vc.setAt (bvs S) ((k : Int).toNat * 1) [Value.bool x] = bvs (S.set k x) := by
  rw [Int.toNat_natCast]
  apply List.ext_getElem?
  intro i
  simp only [Vc.setAt, bvs]
  by_cases h1 : i < k
  · rw [List.append_assoc, List.getElem?_append_left (by simp; omega)]
    simp [List.getElem?_take, h1, List.getElem?_set, show k ≠ i by omega]
  · by_cases h2 : i = k
    · subst h2
      rw [List.append_assoc, List.getElem?_append_right (by simp; omega)]
      simp [h, show min i S.length = i by omega]
    · rw [List.getElem?_append_right (by simp; omega)]
      simp only [List.length_append, List.length_take, List.length_map, List.length_singleton, List.getElem?_drop]
      rw [show min (k * 1) S.length = k by omega, show k * 1 + 1 + (i - (k + 1)) = i by omega]
      simp [List.getElem?_set, show k ≠ i by omega]
theorem gget_app {α : Type} {k q : Int} {x : α} : ∀ {L : List (Int × α)}, gget k (L ++ [(q, x)]) = if (gget k L).isSome = true then gget k L else if q = k then some x else none
  | [] => by simp [gget]
  | (r, y) :: L => by
    show gget k ((r, y) :: (L ++ [(q, x)])) = _
    unfold gget
    split
    · simp
    · exact gget_app
theorem gget_gdel {α : Type} {k q : Int} : ∀ {L : List (Int × α)}, (L.map Prod.fst).Pairwise (· < ·) → gget k (gdel q L) = if k = q then none else gget k L
  | [], _ => by simp [gget, gdel]
  | (r, y) :: L, hp => by
    rw [List.map_cons, List.pairwise_cons] at hp
    unfold gdel
    by_cases hr : r = q
    · rw [if_pos hr]
      by_cases hk : k = q
      · rw [if_pos hk]
        refine gget_none fun p hp' => ?_
        have := hp.1 p.1 (List.mem_map.2 ⟨p, hp', rfl⟩)
        omega
      · rw [if_neg hk]
        show _ = gget k ((r, y) :: L)
        rw [gget, if_neg (by omega)]
    · rw [if_neg hr]
      show (if r = k then some y else gget k (gdel q L)) = if k = q then none else (if r = k then some y else gget k L)
      by_cases hk : r = k
      · rw [if_pos hk, if_pos hk, if_neg (by omega)]
      · rw [if_neg hk, if_neg hk, gget_gdel hp.2]
theorem emod_nat (x : Int) {n : Nat} (h : 0 < n) : ∃ k : Nat, k < n ∧ x % (n : Int) = (k : Int) := by
  have h1 := Int.emod_nonneg x (show (n : Int) ≠ 0 by omega)
  have h2 := Int.emod_lt_of_pos x (show (0 : Int) < n by omega)
  exact ⟨(x % (n : Int)).toNat, by omega, by omega⟩
/-- What holds at each round's beginning: what was sent, what is on its way. -/
structure TOk (sent : List Ms) (on : List Bool) (L : List (Int × Ms)) (last many : Int) : Prop where
  ln : on.length = sent.length
  la : last = (sent.length : Int)
  mn : many = (L.length : Int)
  bok : BOk 20 last L
  get : ∀ k (h : k < sent.length) (h' : k < on.length), gget ((k : Int) + 1) L = if on[k] = true then some sent[k] else none
  mc : ∀ p ∈ L, mcheck p.2 = 0
  ms : ∀ m ∈ sent, mcheck m = 0
theorem TOk.new : TOk [] [] [] 0 0 := ⟨rfl, rfl, rfl, bOk_new (by decide) (by decide), fun k h => by simp at h, by simp, by simp⟩
theorem TOk.add {sent : List Ms} {on : List Bool} {L : List (Int × Ms)} {last many : Int} (h : TOk sent on L last many) {m : Ms} (hm : mcheck m = 0) (hl : (L.length : Int) < 20) : TOk (sent ++ [m]) (on ++ [true]) (L ++ [(last + 1, m)]) (last + 1) (many + 1) := by
  have hb := bOk_send h.bok m
  have e1 : bsE 20 L m = 0 := by rw [bsE, if_pos hm, if_neg (by omega)]
  rw [bsT, bsL, e1, if_pos rfl, if_pos rfl] at hb
  have ln := h.ln
  refine ⟨by simp [ln], by rw [h.la]; simp, by rw [h.mn]; simp, hb, fun k hk hk' => ?_, fun p hp => ?_, fun p hp => ?_⟩
  · rw [gget_app]
    by_cases hlt : k < sent.length
    · have hlt' : k < on.length := by omega
      rw [List.getElem_append_left hlt, List.getElem_append_left hlt', h.get k hlt hlt']
      have hne : ¬ last + 1 = (k : Int) + 1 := by have := h.la; omega
      cases on[k] <;> simp [hne]
    · have hke : k = sent.length := by simp at hk; omega
      have hn : gget ((k : Int) + 1) L = none := gget_none fun p hp => by have := (h.bok.le p hp).2; have := h.la; omega
      have h1 : (on ++ [true])[k] = true := by rw [List.getElem_append_right (by omega)]; simp
      have h2 : (sent ++ [m])[k] = m := by rw [List.getElem_append_right (by omega)]; simp [hke]
      have h3 : last + 1 = (k : Int) + 1 := by have := h.la; omega
      rw [hn, h1, h2, if_pos h3]
      simp
  · rcases List.mem_append.1 hp with hp | hp
    · exact h.mc p hp
    · simp at hp; subst hp; exact hm
  · rcases List.mem_append.1 hp with hp | hp
    · exact h.ms p hp
    · simp at hp; subst hp; exact hm
theorem TOk.del {sent : List Ms} {on : List Bool} {L : List (Int × Ms)} {last many : Int} (h : TOk sent on L last many) {k : Nat} (hk : k < sent.length) (hk' : k < on.length) (ho : on[k] = true) : TOk sent (on.set k false) (gdel ((k : Int) + 1) L) last (many - 1) := by
  have hg : gget ((k : Int) + 1) L = some sent[k] := by rw [h.get k hk hk', if_pos ho]
  have hl := gdel_length hg
  refine ⟨by simp [h.ln], h.la, by rw [h.mn]; omega, bOk_del h.bok _, fun j hj hj' => ?_, fun p hp => h.mc p (gdel_mem hp), h.ms⟩
  have hj2 : j < on.length := by simpa using hj'
  rw [gget_gdel h.bok.up, List.getElem_set, h.get j hj hj2]
  by_cases hjk : k = j
  · subst hjk; simp
  · rw [if_neg hjk, if_neg (by omega)]
theorem forL_all {L : List (Int × Ms)} (h : ∀ p ∈ L, mcheck p.2 = 0) : (forL L 0).length + (forL L 1).length = L.length := by
  induction L with
  | nil => rfl
  | cons p L ih =>
    have hp := h p (by simp)
    have hi := ih fun q hq => h q (by simp [hq])
    have ht : p.2.t = 0 ∨ p.2.t = 1 := by
      unfold mcheck at hp
      split at hp
      · rename_i ho
        have ho' : Ok p.2 := by simpa [mok] using ho
        obtain ⟨_, _, h3, h4, h5, _⟩ := ho'
        omega
      · cases hp
    simp only [forL, List.length_map, List.filter_cons, List.length_cons] at *
    rcases ht with ht | ht
    · rw [ht]; simp; omega
    · rw [ht]; simp; omega
end Cw
