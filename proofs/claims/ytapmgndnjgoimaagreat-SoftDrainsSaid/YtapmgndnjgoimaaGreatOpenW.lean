/- Rows of things that hold slices of integers, and bytes: opened whole. No program in sight. -/
import Derived.Test.YtapmgndnjgoimaaGreatOpen
namespace Cw
open Go Go.RowKit Go.WideShapes Go.ChangeShapes Go.Deep

/-- The kinds of a type's cells: 0 an integer, 1 a text, 2 a truth value, 3 a slice of integers, 4 a byte. -/
def flatW (P : Program) : Nat → TypeId → Option (List Nat)
  | 0, _ => none
  | n + 1, t => match P.underlying t with
    | some (.int .i64) => some [0]
    | some (.int .u8) => some [4]
    | some .string => some [1]
    | some .bool => some [2]
    | some (.slice e) => match P.underlying e with
      | some (.int .i64) => if P.cellsOf e = 1 ∧ P.bytesOf e = 8 then some [3] else none
      | _ => none
    | some (.struct fs) => whole P t (fieldsFlat P (flatW P n) 0 fs.toList)
    | _ => none
def isKW (w : World) : Nat → Value → Prop
  | 0, c => ∃ a : Int, c = .int .i64 a ∧ (Lit.int .i64 a).wf = true
  | 1, c => ∃ s : ByteArray, c = .string s ∧ s.size ≤ maxLen
  | 2, c => ∃ b : Bool, c = .bool b
  | 3, c => ∃ (A : Option Addr) (cap : Nat) (xs : List Int), c = .slice A xs.length cap ∧ Rds w A xs.length cap 1 (xs.map (Value.int .i64)) ∧ xs.length * 8 ≤ reachBytes
  | _, c => ∃ a : Int, c = .int .u8 a ∧ 0 ≤ a ∧ a < 256
def AllW (w : World) : List Nat → List Value → Prop
  | [], cs => cs = []
  | k :: ks, cs => ∃ c cs', cs = c :: cs' ∧ isKW w k c ∧ AllW w ks cs'
section
variable {H : Type} {enc : TypeId × Value → H} {P : Program} {w : World} {base : Nat} {spare : Nat → Bool} {held : Bool}
theorem AllW.append {ls : List Nat} {ds : List Value} (h2 : AllW w ls ds) : ∀ {ks : List Nat} {cs : List Value}, AllW w ks cs → AllW w (ks ++ ls) (cs ++ ds)
  | [], _, h => by
    have h' : _ = [] := h
    subst h'
    exact h2
  | _ :: _, _, ⟨c, cs', e, h1, h3⟩ => ⟨c, cs' ++ ds, by rw [e]; rfl, h1, h2.append h3⟩
theorem AllW.len : ∀ {ks : List Nat} {cs : List Value}, AllW w ks cs → cs.length = ks.length
  | [], _, h => by
    have h' : _ = [] := h
    subst h'
    rfl
  | _ :: _, _, ⟨c, cs', e, _, h3⟩ => by rw [e, List.length_cons, List.length_cons, h3.len]
theorem fields_trodW (fl : TypeId → Option (List Nat)) (m : Nat) (hfl : ∀ t ks cs x, fl t = some ks → DataW.trod enc P w base spare held m t cs = some x → (∀ q ∈ x.1.weights P t, q ≤ reachBytes) → AllW w ks cs) (cs : List Value) :
    ∀ (fs : List Field) (off : Nat) (ks : List Nat), fieldsFlat P fl off fs = some ks → (∀ f ∈ fs, ∃ x, DataW.trod enc P w base spare held m f.type ((cs.drop f.offset).take (P.cellsOf f.type)) = some x ∧ ∀ q ∈ x.1.weights P f.type, q ≤ reachBytes) → AllW w ks ((cs.drop off).take ks.length)
  | [], _, ks, h, _ => by
    simp only [fieldsFlat, Option.some.injEq] at h
    subst h
    rfl
  | f :: fs, off, ks, h, hx => by
    simp only [fieldsFlat] at h
    split at h
    · rename_i ho
      split at h
      · rename_i a b ha hb
        split at h
        · rename_i hl
          cases h
          obtain ⟨x, hx0, hq⟩ := hx f (List.mem_cons.2 (Or.inl rfl))
          have h1 := hfl _ _ _ _ ha hx0 hq
          have h2 := fields_trodW fl m hfl cs fs _ b hb (fun g hg => hx g (List.mem_cons.2 (Or.inr hg)))
          rw [List.length_append, List.take_add, List.drop_drop]
          rw [ho, ← hl] at h1
          rw [← hl] at h2
          exact AllW.append h2 h1
        · cases h
      · cases h
    · cases h
theorem trod_ints {e : TypeId} (he : P.underlying e = some (.int .i64)) {fuel : Nat} {c : Value} {x : DataW H × List MemPlace} (h : DataW.trod enc P w base spare held fuel e [c] = some x) : ∃ a, c = .int .i64 a := by
  obtain ⟨a, h1, _, _⟩ := DataW.trod_int he h
  cases h1
  exact ⟨a, rfl⟩
theorem flat_trodW : ∀ (n : Nat) (t : TypeId) (ks : List Nat), flatW P n t = some ks → ∀ (fuel : Nat) (cs : List Value) (x : DataW H × List MemPlace), DataW.trod enc P w base spare held fuel t cs = some x → (∀ q ∈ x.1.weights P t, q ≤ reachBytes) → AllW w ks cs
  | 0, _, _, h, _, _, _, _, _ => by simp [flatW] at h
  | n + 1, t, ks, h, fuel, cs, x, hx, hw => by
    have ih := flat_trodW n
    simp only [flatW] at h
    split at h
    · rename_i hu
      cases h
      obtain ⟨a, rfl, _, wa⟩ := DataW.trod_int hu hx
      exact ⟨_, _, rfl, ⟨a, rfl, wa⟩, rfl⟩
    · rename_i hu
      cases h
      obtain ⟨a, rfl, _, wa⟩ := DataW.trod_int hu hx
      refine ⟨_, _, rfl, ⟨a, rfl, ?_⟩, rfl⟩
      simp only [Lit.wf, show IntKind.u8.min = 0 from rfl, show IntKind.u8.max = 255 from rfl, Bool.and_eq_true, decide_eq_true_eq] at wa
      omega
    · rename_i hu
      cases h
      obtain ⟨s, rfl, _, ws⟩ := DataW.trod_string hu hx
      exact ⟨_, _, rfl, ⟨s, rfl, ws⟩, rfl⟩
    · rename_i hu
      cases h
      obtain ⟨b, rfl, _⟩ := DataW.trod_bool hu hx
      exact ⟨_, _, rfl, ⟨b, rfl⟩, rfl⟩
    · rename_i e hu
      split at h
      · rename_i he
        split at h
        · rename_i hc
          cases h
          obtain ⟨hc, hb8⟩ := hc
          rcases open_slice1 hu hc hx with ⟨rfl, _⟩ | ⟨a, len, cap, m, n', V, D, Pl, rfl, hb, hl, hm, hmm, rfl, hi⟩
          · exact ⟨_, _, rfl, ⟨none, 0, [], rfl, Rds.nil w 1, by simp⟩, rfl⟩
          · have hlm : len ≤ m := by rw [hmm]; split <;> omega
            have hval : ∀ i, ∃ z : Int, i < m → V i = .int .i64 z := fun i => by
              by_cases him : i < m
              · obtain ⟨z, hz⟩ := trod_ints he (hi i him).2
                exact ⟨z, fun _ => hz⟩
              · exact ⟨0, fun h => absurd h him⟩
            obtain ⟨Z, hZ⟩ : ∃ Z : Nat → Int, ∀ i, i < m → V i = .int .i64 (Z i) := ⟨fun i => Classical.choose (hval i), fun i => Classical.choose_spec (hval i)⟩
            have hlen : ((List.range len).map Z).length = len := by simp
            have hwt : len * 8 ≤ reachBytes := by
              have := hw ((((List.range len).map D).length + ((List.range (m - len)).map fun j => D (len + j)).length) * P.bytesOf e) (by simp [DataW.weights, hu])
              rw [hb8, List.length_map, List.length_range] at this
              have h2 : len * 8 ≤ (len + ((List.range (m - len)).map fun j => D (len + j)).length) * 8 := Nat.mul_le_mul_right _ (by omega)
              omega
            refine ⟨_, _, rfl, ⟨some a, cap, (List.range len).map Z, by rw [hlen], ⟨by simp, by rw [hlen]; exact hl, hm, by simp, fun j u hu' => ⟨a, rfl, ?_⟩⟩, by rw [hlen]; exact hwt⟩, rfl⟩
            rw [List.getElem?_map, List.getElem?_map] at hu'
            cases hri : (List.range len)[j]? with
            | none => rw [hri] at hu'; cases hu'
            | some i' =>
              rw [hri] at hu'
              have hj : j < len ∧ i' = j := by
                rcases Nat.lt_or_ge j len with h5 | h5
                · rw [List.getElem?_range h5] at hri; cases hri; exact ⟨h5, rfl⟩
                · rw [List.getElem?_eq_none (by simpa using h5)] at hri; cases hri
              obtain ⟨h5, rfl⟩ := hj
              simp only [Option.map_some, Option.some.injEq] at hu'
              rw [← hu', ← hZ i' (by omega)]
              exact (hi i' (by omega)).1
        · cases h
      · cases h
    · rename_i fs hu
      obtain ⟨h1, h2⟩ := whole_some h
      obtain ⟨xs, m, _, rfl, hl, hlen, hf⟩ := DataW.trod_struct hu hx
      have hw' : ∀ q ∈ DataW.weightsEach P (fs.toList.map (·.type)) (xs.map (·.1)), q ≤ reachBytes := fun q hq => hw q (by simp only [DataW.weights, hu]; exact hq)
      have := fields_trodW (enc := enc) (w := w) (base := base) (spare := spare) (held := held) (flatW P n) m (fun t ks cs x ht hx hq => ih t ks ht m cs x hx hq) cs fs.toList 0 ks h1 (fun f hf' => by
        obtain ⟨i, hi⟩ := List.mem_iff_getElem?.1 hf'
        have h3 := hf i f (by simpa using hi)
        have hi' : i < fs.size := by
          rcases Nat.lt_or_ge i fs.size with h4 | h4
          · exact h4
          · rw [List.getElem?_eq_none (by simpa using h4)] at hi; cases hi
        have hix : i < xs.length := by omega
        refine ⟨xs[i], by rw [h3, List.getElem?_eq_getElem hix], fun q hq => hw' q ?_⟩
        exact DataW.weights_mem_each (j := i) (t := f.type) (d := (xs[i]).1) (by rw [List.getElem?_map, hi]; rfl) (by rw [List.getElem?_map, List.getElem?_eq_getElem hix]; rfl) q hq)
      rw [List.drop_zero, List.take_of_length_le (by omega)] at this
      exact this
    · cases h
theorem weightsAll_mem {e : TypeId} : ∀ {ds : List (DataW H)} {d : DataW H}, d ∈ ds → ∀ q ∈ d.weights P e, q ∈ DataW.weightsAll P e ds
  | [], _, h, _, _ => by cases h
  | x :: ds, d, h, q, hq => by
    simp only [DataW.weightsAll, List.mem_append]
    rcases List.mem_cons.1 h with rfl | h
    · exact .inl hq
    · exact .inr (weightsAll_mem h q hq)
/-- A slice of such elements. -/
theorem open_rowsW {t e : TypeId} {v : Value} {d : DataW H} {p : List MemPlace} (n : Nat) {ks : List Nat} (ht : P.underlying t = some (.slice e)) (hk : flatW P n e = some ks) (hC : P.cellsOf e = ks.length) (h0 : 0 < ks.length)
    (hv : ∃ A l c, v = .slice A l c) (h : DataW.Trod enc P w base spare held t v d p) (hwt : ∀ q ∈ d.weights P t, q ≤ reachBytes) :
    ∃ (A : Option Addr) (cap : Nat) (L : List (List Value)), v = .slice A L.length cap ∧ (∀ r ∈ L, AllW w ks r) ∧ Rds w A L.length cap ks.length L.flatten ∧ slD d L.length := by
  obtain ⟨A, l, c, rfl⟩ := hv
  obtain ⟨fuel, hf⟩ := h
  rcases open_slice ht hf with ⟨hcs, hx⟩ | ⟨a, len, cap, m, q, D, Pl, hcs, hb, hl, hm, hmm, hx, hi⟩
  · simp [Value.cells] at hcs
    obtain ⟨rfl, rfl, rfl⟩ := hcs
    exact ⟨none, 0, [], rfl, by simp, Rds.nil w _, .inl ⟨by cases hx; rfl, rfl⟩⟩
  · simp [Value.cells] at hcs
    obtain ⟨rfl, rfl, rfl⟩ := hcs
    cases hx
    have hlm : l ≤ m := by rw [hmm]; split <;> omega
    have hsel : ∀ i, ∃ r, i < l → (AllW w ks r ∧ w.cells? base (a.add (i * P.cellsOf e)) (P.cellsOf e) = some r) := fun i => by
      by_cases him : i < l
      · obtain ⟨cs', h1, h2⟩ := hi i (by omega)
        refine ⟨cs', fun _ => ⟨flat_trodW n e ks hk _ _ _ h2 fun q hq => hwt q ?_, h1⟩⟩
        simp only [DataW.weights, ht, List.mem_cons, List.mem_append]
        exact .inr (.inl (weightsAll_mem (List.mem_map.2 ⟨i, List.mem_range.2 him, rfl⟩) q hq))
      · exact ⟨[], fun h => absurd h him⟩
    obtain ⟨R, hR⟩ : ∃ R : Nat → List Value, ∀ i, i < l → (AllW w ks (R i) ∧ w.cells? base (a.add (i * P.cellsOf e)) (P.cellsOf e) = some (R i)) := ⟨fun i => Classical.choose (hsel i), fun i => Classical.choose_spec (hsel i)⟩
    have hlen : ((List.range l).map R).length = l := by simp
    have hall : ∀ r ∈ (List.range l).map R, AllW w ks r := fun r hr => by
      obtain ⟨i, hi', rfl⟩ := List.mem_map.1 hr
      exact (hR i (List.mem_range.1 hi')).1
    obtain ⟨g1, g2⟩ := rows_get ((List.range l).map R) ks.length (fun r hr => (hall r hr).len)
    have hcell : ∀ j u, ((List.range l).map R).flatten[j]? = some u → w.cell? (a.add j) = some u := fun j u hu => by
      obtain ⟨i, k, r, rfl, h2, h3, h4⟩ := g2 j u hu
      simp only [List.getElem?_map] at h2
      cases hri : (List.range l)[i]? with
      | none => rw [hri] at h2; cases h2
      | some i' =>
        rw [hri] at h2
        have hi' : i < l ∧ i' = i := by
          rcases Nat.lt_or_ge i l with h5 | h5
          · rw [List.getElem?_range h5] at hri; cases hri; exact ⟨h5, rfl⟩
          · rw [List.getElem?_eq_none (by simpa using h5)] at hri; cases hri
        obtain ⟨h5, rfl⟩ := hi'
        simp only [Option.map_some, Option.some.injEq] at h2
        subst h2
        obtain ⟨_, _, h7⟩ := World.cells?_some (hR i' h5).2
        have h8 := h7 k (by omega)
        rw [addr_add] at h8
        rw [← hC, h8, h3]
    exact ⟨some a, c, (List.range l).map R, by rw [hlen], hall, ⟨g1, by rw [hlen]; exact hl, hm, by simp, fun j u hu => ⟨a, rfl, hcell j u hu⟩⟩, .inr ⟨_, _, rfl, by simp⟩⟩
theorem weights_le {ts : List TypeId} {ds : List (DataW H)} (h : (DataW.weightsEach P ts ds).all (· ≤ reachBytes) = true) (j : Nat) {t : TypeId} {d : DataW H} (ht : ts[j]? = some t) (hd : ds[j]? = some d) : ∀ q ∈ d.weights P t, q ≤ reachBytes :=
  fun q hq => by simpa using List.all_eq_true.1 h q (DataW.weights_mem_each ht hd q hq)
end
end Cw
