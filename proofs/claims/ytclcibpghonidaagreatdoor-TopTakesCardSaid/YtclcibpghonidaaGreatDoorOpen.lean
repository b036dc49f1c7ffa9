/- What every law's row wants behind its walk: the result is true, the arguments read as they did, old memory is as it was. -/
import Derived.ProofKit
import Derived.Lib.SmallJoins
import Derived.ShutString
import Derived.Deep.Fields
import Derived.Deep.Slices
import Derived.SizedLaws
namespace Cw
open Go Go.RowKit Go.WideShapes Go.ChangeShapes

section
variable {H : Type} {enc : TypeId × Value → H} {P : Program}

theorem trodAll_below (hl : laidOutB P = true) {W W' : World} {sp : Nat → Bool} (hb : Below W.heap.size W W') : ∀ {ts : List TypeId} {vs : List Value} {ds : List (DataW H)} {ps : List MemPlace},
    (∀ t ∈ ts, P.readableRec t = true ∧ t < P.types.size) → DataW.TrodAll enc P W 0 (fun _ => true) true ts vs ds ps → (∀ x ∈ ps, x.block < W.heap.size ∧ sp x.block = true) → DataW.TrodAll enc P W' 0 sp true ts vs ds ps
  | [], [], [], _, _, h, _ => h
  | _ :: _, _ :: _, _ :: _, _, hT, ⟨p, q, h1, h2, e⟩, hs =>
    ⟨p, q, WideElems.Trod_stays hl (hT _ (List.mem_cons.2 (Or.inl rfl))).1 (hT _ (List.mem_cons.2 (Or.inl rfl))).2 h1 (fun x hx => hb.same (hs x (by rw [e]; exact List.mem_append_left _ hx)).1) (fun x hx => (hs x (by rw [e]; exact List.mem_append_left _ hx)).2),
      trodAll_below hl hb (fun t ht => hT t (List.mem_cons.2 (Or.inr ht))) h2 (fun x hx => hs x (by rw [e]; exact List.mem_append_right _ hx)), e⟩

/-- The law's row, behind its walk. -/
theorem post_law {f : Func} {s : ChangeSpec} {apart : Bool} {W W' : World} {args : Array Value} {ds : List (DataW H)} {before : List MemPlace} {T : TypeId} (hl : laidOutB P = true)
    (hres : f.resultTypes = #[T]) (hT : P.underlying T = some .bool) (hvs : s.vars = []) (hread0 : (f.params.toList.all fun t => P.readableRec t && decide (t < P.types.size)) = true)
    (hW : DataW.Whole enc P f.params.toList s.vars apart W args.toList ds [] before) (hfn : s.fn H (ds ++ []) = { results := [.lit (.bool true)], args := ds }) (hb : Below W.heap.size W W') :
    s.post enc P f apart true false false W args (.bool true) W' := by
  have hread : ∀ t ∈ f.params.toList, P.readableRec t = true ∧ t < P.types.size := fun t ht => by simpa using List.all_eq_true.1 hread0 t ht
  have hlt : ∀ p ∈ before, p.block < W.heap.size := fun p hp => hW.lt p hp
  have hW2 := hW
  obtain ⟨p, q, hA, hV, rfl, hz, hn⟩ := hW
  rw [hvs] at hV
  obtain ⟨_, rfl⟩ := trodVars_none hV
  refine ⟨ds, [], p ++ [], [], p, [], hW2, ?_, ?_, ?_, World.keptBut_mono (fun p' hp => ⟨hp, ?_⟩) (hb.frame (· ∈ p ++ [])), fun h => by cases h⟩
  · rw [hfn, hres]
    exact trodAll_mk1 (shut_bool hT true)
  · rw [hfn]
    exact trodAll_below hl hb hread hA (fun x hx => ⟨hlt x (by simpa using hx), by simpa using hlt x (by simpa using hx)⟩)
  · rw [hvs]
    have : (s.fn H (ds ++ [])).vars = [] := by rw [hfn]
    rw [this]
    exact rfl
  · exact Or.inr (Or.inl (by simpa using hp))
end

section
variable {H : Type} {enc : TypeId × Value → H} {P : Program} {w : World} {base : Nat} {spare : Nat → Bool} {held : Bool}
open Go.Joins Go.Deep
end
end Cw
namespace Cw
open Go Go.RowKit Go.WideShapes Go.ChangeShapes Go.Deep

def fieldsFlat (P : Program) (fl : TypeId → Option (List Nat)) : Nat → List Field → Option (List Nat)
  | _, [] => some []
  | off, f :: fs => if f.offset = off then match fl f.type, fieldsFlat P fl (off + P.cellsOf f.type) fs with
      | some a, some b => if a.length = P.cellsOf f.type then some (a ++ b) else none
      | _, _ => none
    else none
def whole (P : Program) (t : TypeId) : Option (List Nat) → Option (List Nat)
  | some a => if a.length = P.cellsOf t then some a else none
  | none => none
/-- The kinds of a flat type's cells: 0 an integer, 1 a text, 2 a truth value. -/
def flat (P : Program) : Nat → TypeId → Option (List Nat)
  | 0, _ => none
  | n + 1, t => match P.underlying t with
    | some (.int .i64) => some [0]
    | some .string => some [1]
    | some .bool => some [2]
    | some (.struct fs) => whole P t (fieldsFlat P (flat P n) 0 fs.toList)
    | some (.array k e) => match whole P e (flat P n e) with
      | some a => whole P t (some (List.replicate k a).flatten)
      | none => none
    | _ => none
def isK : Nat → Value → Prop
  | 0, c => ∃ a : Int, c = .int .i64 a ∧ (Lit.int .i64 a).wf = true
  | 1, c => ∃ s : ByteArray, c = .string s ∧ s.size ≤ maxLen
  | _, c => ∃ b : Bool, c = .bool b
def AllK : List Nat → List Value → Prop
  | [], cs => cs = []
  | k :: ks, cs => ∃ c cs', cs = c :: cs' ∧ isK k c ∧ AllK ks cs'
theorem AllK.append {ls : List Nat} {ds : List Value} (h2 : AllK ls ds) : ∀ {ks : List Nat} {cs : List Value}, AllK ks cs → AllK (ks ++ ls) (cs ++ ds)
  | [], _, h => by
    have h' : _ = [] := h
    subst h'
    exact h2
  | _ :: _, _, ⟨c, cs', e, h1, h3⟩ => ⟨c, cs' ++ ds, by rw [e]; rfl, h1, h2.append h3⟩
theorem AllK.len : ∀ {ks : List Nat} {cs : List Value}, AllK ks cs → cs.length = ks.length
  | [], _, h => by
    have h' : _ = [] := h
    subst h'
    rfl
  | _ :: _, _, ⟨c, cs', e, _, h3⟩ => by rw [e, List.length_cons, List.length_cons, h3.len]
theorem isK.one {k : Nat} {c : Value} (h : isK k c) : c.oneCell' = true := by
  match k, h with
  | 0, ⟨_, e, _⟩ => subst e; rfl
  | 1, ⟨_, e, _⟩ => subst e; rfl
  | _ + 2, ⟨_, e⟩ => subst e; rfl
section
variable {H : Type} {enc : TypeId × Value → H} {P : Program} {w : World} {base : Nat} {spare : Nat → Bool} {held : Bool}

theorem whole_some {t : TypeId} {o : Option (List Nat)} {ks : List Nat} (h : whole P t o = some ks) : o = some ks ∧ ks.length = P.cellsOf t := by
  cases o with
  | none => simp [whole] at h
  | some a =>
    simp only [whole] at h
    split at h
    · cases h; exact ⟨rfl, by assumption⟩
    · cases h

theorem fields_trod (fl : TypeId → Option (List Nat)) (m : Nat) (hfl : ∀ t ks cs x, fl t = some ks → DataW.trod enc P w base spare held m t cs = some x → AllK ks cs) (cs : List Value) :
    ∀ (fs : List Field) (off : Nat) (ks : List Nat), fieldsFlat P fl off fs = some ks → (∀ f ∈ fs, ∃ x, DataW.trod enc P w base spare held m f.type ((cs.drop f.offset).take (P.cellsOf f.type)) = some x) → AllK ks ((cs.drop off).take ks.length)
  | [], _, ks, h, _ => by
    simp only [fieldsFlat, Option.some.injEq] at h
    subst h
    rfl
  | f :: fs, off, ks, h, hx => by
    simp only [fieldsFlat] at h
    split at h
    · rename_i ho
      split at h
      · rename_i a b ha hb
        split at h
        · rename_i hl
          cases h
          obtain ⟨x, hx0⟩ := hx f (List.mem_cons.2 (Or.inl rfl))
          have h1 := hfl _ _ _ _ ha hx0
          have h2 := fields_trod fl m hfl cs fs _ b hb (fun g hg => hx g (List.mem_cons.2 (Or.inr hg)))
          rw [List.length_append, List.take_add, List.drop_drop]
          rw [ho, ← hl] at h1
          rw [← hl] at h2
          exact AllK.append h2 h1
        · cases h
      · cases h
    · cases h

theorem array_trod (m k sz : Nat) (e : TypeId) (a : List Nat) (hsz : a.length = sz) (cs : List Value) (h : ∀ i, i < k → AllK a ((cs.drop (i * sz)).take sz)) : AllK (List.replicate k a).flatten (cs.take (k * sz)) := by
  induction k with
  | zero => simp; rfl
  | succ k ih =>
    rw [List.replicate_succ', List.flatten_append, Nat.succ_mul, List.take_add]
    have h1 := ih (fun i hi => h i (by omega))
    have h2 := h k (by omega)
    simpa using AllK.append h2 h1

theorem flat_trod : ∀ (n : Nat) (t : TypeId) (ks : List Nat), flat P n t = some ks → ∀ (fuel : Nat) (cs : List Value) (x : DataW H × List MemPlace), DataW.trod enc P w base spare held fuel t cs = some x → AllK ks cs
  | 0, _, _, h, _, _, _, _ => by simp [flat] at h
  | n + 1, t, ks, h, fuel, cs, x, hx => by
    have ih := flat_trod n
    simp only [flat] at h
    split at h
    · rename_i hu
      cases h
      obtain ⟨a, rfl, _, wa⟩ := DataW.trod_int hu hx
      exact ⟨_, _, rfl, ⟨a, rfl, wa⟩, rfl⟩
    · rename_i hu
      cases h
      obtain ⟨s, rfl, _, ws⟩ := DataW.trod_string hu hx
      exact ⟨_, _, rfl, ⟨s, rfl, ws⟩, rfl⟩
    · rename_i hu
      cases h
      obtain ⟨b, rfl, _⟩ := DataW.trod_bool hu hx
      exact ⟨_, _, rfl, ⟨b, rfl⟩, rfl⟩
    · rename_i fs hu
      obtain ⟨h1, h2⟩ := whole_some h
      obtain ⟨xs, m, _, _, hl, hlen, hf⟩ := DataW.trod_struct hu hx
      have := fields_trod (enc := enc) (w := w) (base := base) (spare := spare) (held := held) (flat P n) m (fun t ks cs x ht hx => ih t ks ht m cs x hx) cs fs.toList 0 ks h1 (fun f hf' => by
        obtain ⟨i, hi⟩ := List.mem_iff_getElem?.1 hf'
        have h3 := hf i f (by simpa using hi)
        have hi' : i < fs.size := by
          rcases Nat.lt_or_ge i fs.size with h4 | h4
          · exact h4
          · rw [List.getElem?_eq_none (by simpa using h4)] at hi; cases hi
        exact ⟨xs[i], by rw [h3, List.getElem?_eq_getElem (by omega)]⟩)
      rw [List.drop_zero, List.take_of_length_le (by omega)] at this
      exact this
    · rename_i k e hu
      split at h
      · rename_i a ha
        obtain ⟨h1, h2⟩ := whole_some h
        obtain ⟨g1, g2⟩ := whole_some ha
        cases h1
        obtain ⟨xs, m, _, _, hl, hlen, hf⟩ := DataW.trod_array hu hx
        have := array_trod 0 k (P.cellsOf e) e a g2 cs (fun i hi => by
          have h3 := hf i hi
          exact ih e a g1 m _ xs[i] (by rw [h3, List.getElem?_eq_getElem (by omega)]))
        rw [List.take_of_length_le] at this
        · exact this
        · rw [hl, ← h2]
          simp [g2]
      · cases h
    · cases h

theorem addr_blk (a : Addr) (n : Nat) : (a.add n).block = a.block := by
  rw [Addr.add]
  split <;> rfl
theorem addr_add (a : Addr) (i j : Nat) : (a.add i).add j = a.add (i + j) := by
  obtain ⟨b, o, s⟩ := a
  rcases Nat.eq_zero_or_pos i with rfl | h1
  · simp [Addr.add]
  · rcases Nat.eq_zero_or_pos j with rfl | h2
    · simp [Addr.add]
    · have e1 : i ≠ 0 := by omega
      have e2 : j ≠ 0 := by omega
      simp [Addr.add, e1, e2, Nat.add_assoc]
theorem lt_of_cell {w : World} {a : Addr} {v : Value} (h : w.cell? a = some v) : a.block < w.heap.size := by
  rcases Nat.lt_or_ge a.block w.heap.size with h1 | h1
  · exact h1
  · unfold World.cell? at h
    rw [Array.getElem?_eq_none h1] at h
    cases h

/-- A slice value with n elements of so many cells each, that holds these cells. -/
def Rds (w : World) (A : Option Addr) (n c size : Nat) (xs : List Value) : Prop :=
  xs.length = n * size ∧ n ≤ c ∧ c ≤ maxLen ∧ (A = none → c = 0) ∧ ∀ j u, xs[j]? = some u → ∃ a, A = some a ∧ w.cell? (a.add j) = some u
theorem Rds.below {B : Nat} {w w' : World} {A : Option Addr} {n c size : Nat} {xs : List Value} (h : Rds w A n c size xs) (hB : w.heap.size ≤ B) (hb : Below B w w') : Rds w' A n c size xs := by
  obtain ⟨h1, h2, h3, h4, h5⟩ := h
  refine ⟨h1, h2, h3, h4, fun j u hu => ?_⟩
  obtain ⟨a, e, hc⟩ := h5 j u hu
  exact ⟨a, e, (hb.cell (p := a.add j) (Nat.lt_of_lt_of_le (lt_of_cell hc) hB)).trans hc⟩
theorem Rds.nil (w : World) (size : Nat) : Rds w none 0 0 size [] := ⟨by simp, Nat.le_refl _, by decide, fun _ => rfl, by simp⟩
theorem Rds.own {w : World} {base : Nat} {e : TypeId} {size n : Nat} {v : Value} {xs : List Value} (h : w.ownsRow base e size v n xs) : ∃ A c, v = .slice A n c ∧ Rds w A n c size xs := by
  rcases h.2 with ⟨rfl, rfl⟩ | ⟨g, cap, cur, rfl, hb, hg, hnc, hcm, hrest⟩
  · have : xs = [] := List.eq_nil_of_length_eq_zero (by simpa using h.1)
    subst this
    exact ⟨none, 0, rfl, Rds.nil w size⟩
  · exact ⟨_, cap, rfl, h.1, hnc, hcm, by simp, fun j u hu => ⟨_, rfl, h.cells (g := g) rfl j u hu⟩⟩

theorem rows_get (L : List (List Value)) (sz : Nat) (h : ∀ r ∈ L, r.length = sz) : L.flatten.length = L.length * sz ∧ ∀ j u, L.flatten[j]? = some u → ∃ (i k : Nat) (r : List Value), j = i * sz + k ∧ L[i]? = some r ∧ r[k]? = some u ∧ k < sz := by
  induction L with
  | nil => simp
  | cons r L ih =>
    obtain ⟨i1, i2⟩ := ih (fun r hr => h r (List.mem_cons.2 (Or.inr hr)))
    have hr := h r (List.mem_cons.2 (Or.inl rfl))
    refine ⟨by rw [List.flatten_cons, List.length_append, i1, List.length_cons, hr, Nat.succ_mul, Nat.add_comm], ?_⟩
    intro j u hu
    rw [List.flatten_cons] at hu
    by_cases hj : j < sz
    · rw [List.getElem?_append_left (by omega)] at hu
      exact ⟨0, j, r, by omega, rfl, hu, hj⟩
    · rw [List.getElem?_append_right (by omega)] at hu
      obtain ⟨i, k, r', h1, h2, h3, h4⟩ := i2 _ u hu
      exact ⟨i + 1, k, r', by rw [Nat.succ_mul]; omega, by simpa using h2, h3, h4⟩

/-- The datum of a slice of so many elements. -/
def slD (d : DataW H) (n : Nat) : Prop := (d = .nil ∧ n = 0) ∨ ∃ es sp, d = .slice es sp ∧ es.length = n

/-- A slice of flat elements. -/
theorem open_rows {t e : TypeId} {v : Value} {d : DataW H} {p : List MemPlace} (n : Nat) {ks : List Nat} (ht : P.underlying t = some (.slice e)) (hk : flat P n e = some ks) (hC : P.cellsOf e = ks.length) (h0 : 0 < ks.length)
    (hv : ∃ A l c, v = .slice A l c) (h : DataW.Trod enc P w base spare held t v d p) :
    ∃ (A : Option Addr) (cap : Nat) (L : List (List Value)), v = .slice A L.length cap ∧ (∀ r ∈ L, AllK ks r) ∧ Rds w A L.length cap ks.length L.flatten ∧ slD d L.length := by
  obtain ⟨A, l, c, rfl⟩ := hv
  obtain ⟨fuel, hf⟩ := h
  rcases open_slice ht hf with ⟨hcs, hx⟩ | ⟨a, len, cap, m, q, D, Pl, hcs, hb, hl, hm, hmm, hx, hi⟩
  · simp [Value.cells] at hcs
    obtain ⟨rfl, rfl, rfl⟩ := hcs
    exact ⟨none, 0, [], rfl, by simp, Rds.nil w _, .inl ⟨by cases hx; rfl, rfl⟩⟩
  · simp [Value.cells] at hcs
    obtain ⟨rfl, rfl, rfl⟩ := hcs
    have hlm : l ≤ m := by rw [hmm]; split <;> omega
    have hsel : ∀ i, ∃ r, i < m → (AllK ks r ∧ w.cells? base (a.add (i * P.cellsOf e)) (P.cellsOf e) = some r) := fun i => by
      by_cases him : i < m
      · obtain ⟨cs', h1, h2⟩ := hi i him
        exact ⟨cs', fun _ => ⟨flat_trod n e ks hk _ _ _ h2, h1⟩⟩
      · exact ⟨[], fun h => absurd h him⟩
    obtain ⟨R, hR⟩ : ∃ R : Nat → List Value, ∀ i, i < m → (AllK ks (R i) ∧ w.cells? base (a.add (i * P.cellsOf e)) (P.cellsOf e) = some (R i)) := ⟨fun i => Classical.choose (hsel i), fun i => Classical.choose_spec (hsel i)⟩
    have hlen : ((List.range l).map R).length = l := by simp
    have hall : ∀ r ∈ (List.range l).map R, AllK ks r := fun r hr => by
      obtain ⟨i, hi', rfl⟩ := List.mem_map.1 hr
      exact (hR i (by have := List.mem_range.1 hi'; omega)).1
    obtain ⟨g1, g2⟩ := rows_get ((List.range l).map R) ks.length (fun r hr => (hall r hr).len)
    have hcell : ∀ j u, ((List.range l).map R).flatten[j]? = some u → w.cell? (a.add j) = some u := fun j u hu => by
      obtain ⟨i, k, r, rfl, h2, h3, h4⟩ := g2 j u hu
      simp only [List.getElem?_map] at h2
      cases hri : (List.range l)[i]? with
      | none => rw [hri] at h2; cases h2
      | some i' =>
        rw [hri] at h2
        have hi' : i < l ∧ i' = i := by
          rcases Nat.lt_or_ge i l with h5 | h5
          · rw [List.getElem?_range h5] at hri; cases hri; exact ⟨h5, rfl⟩
          · rw [List.getElem?_eq_none (by simpa using h5)] at hri; cases hri
        obtain ⟨h5, rfl⟩ := hi'
        simp only [Option.map_some, Option.some.injEq] at h2
        subst h2
        obtain ⟨_, _, h7⟩ := World.cells?_some (hR i' (by omega)).2
        have h8 := h7 k (by omega)
        rw [addr_add] at h8
        rw [← hC, h8, h3]
    exact ⟨some a, c, (List.range l).map R, by rw [hlen], hall, ⟨g1, by rw [hlen]; exact hl, hm, by simp, fun j u hu => ⟨a, rfl, hcell j u hu⟩⟩, .inr ⟨_, _, by cases hx; rfl, by simp⟩⟩

theorem sized_rows {ts : List TypeId} {ds : List (DataW H)} (h : (DataW.weightsEach P ts ds).all (· ≤ reachBytes) = true) (j : Nat) {t e : TypeId} {d : DataW H} {n b : Nat} (ht : ts[j]? = some t) (hd : ds[j]? = some d) (hu : P.underlying t = some (.slice e))
    (hb : P.bytesOf e = b) (hs : slD d n) : n * b ≤ 140737488351232 := by
  rcases hs with ⟨_, rfl⟩ | ⟨es, sp, rfl, rfl⟩
  · omega
  · have := sized_slice h ht hd hu
    rw [hb] at this
    have h2 : es.length * b ≤ (es.length + sp.length) * b := Nat.mul_le_mul_right _ (by omega)
    simp only [reachBytes] at this
    omega

theorem okWide_slice {r : Reach} {b0 : Nat} {t e : TypeId} {v : Value} (ht : P.underlying t = some (.slice e)) (h : Value.okWide P w r b0 t v) : ∃ A l c, v = .slice A l c := by
  simp only [Value.okWide, ht, Cell.okWide] at h
  cases v <;> simp_all [Cell.ok]
end
end Cw
