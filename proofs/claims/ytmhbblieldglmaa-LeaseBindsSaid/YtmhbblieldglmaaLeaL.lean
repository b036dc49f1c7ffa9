/- Sorted lists without doubles: plain laws. -/
import Derived.Test.YtmhbblieldglmaaLeaX
namespace Cw
open Go
set_option maxRecDepth 100000
theorem srt_pw (l : List Int) : (srt l).Pairwise (· ≤ ·) := by
  have := List.pairwise_mergeSort (le := fun x y : Int => decide (x ≤ y)) (fun a b c h1 h2 => by simp at *; omega) (fun a b => by simp; omega) l
  exact this.imp fun h => by simpa using h
theorem mem_srt {l : List Int} {x : Int} : x ∈ srt l ↔ x ∈ l := List.mem_mergeSort
theorem pw_le {l : List Int} (h : l.Pairwise (· ≤ ·)) {i j : Nat} (hij : i ≤ j) (hj : j < l.length) : l[i] ≤ l[j] := by
  rcases Nat.lt_or_ge i j with h1 | h1
  · exact List.pairwise_iff_getElem.1 h i j (by omega) hj h1
  · have : i = j := by omega
    subst this
    exact Int.le_refl _
theorem at_bang {l : List Int} {j : Nat} (h : j < l.length) : l.toArray[j]! = l[j] := by simp [h]
theorem cpt_pw {l : List Int} (h : l.Pairwise (· ≤ ·)) : (cpt l).Pairwise (· < ·) := by
  unfold cpt Lib.compact Lib.compactUpTo
  rw [List.pairwise_map]
  have h0 : ((List.range l.length).filter (Lib.keeps l.toArray)).Pairwise fun i j => i < j := List.Pairwise.filter _ List.pairwise_lt_range
  refine List.Pairwise.imp_of_mem ?_ h0
  intro i j hi hj hij
  have hi' := List.mem_filter.1 hi
  have hj' := List.mem_filter.1 hj
  have hil := List.mem_range.1 hi'.1
  have hjl := List.mem_range.1 hj'.1
  rw [at_bang hil, at_bang hjl]
  have hk := hj'.2
  have h1 := pw_le h (show i ≤ j - 1 by omega) (by omega)
  have h2 := pw_le h (show j - 1 ≤ j by omega) hjl
  have h3 : l[j - 1] ≠ l[j] := by
    have hk' : Lib.keeps l.toArray j = true := hk
    unfold Lib.keeps at hk'
    rw [at_bang hjl, at_bang (show j - 1 < l.length by omega)] at hk'
    intro e
    have : j ≠ 0 := by omega
    simp [this, e] at hk'
  omega
theorem first_at {l : List Int} {x : Int} : ∀ {j : Nat} (hj : j < l.length), l[j] = x → ∃ i, ∃ h : i < l.length, l[i] = x ∧ ∀ k (hk : k < i), l[k] ≠ x := by
  intro j
  induction j using Nat.strongRecOn with
  | _ j ih =>
    intro hj hx
    by_cases h : ∃ k, ∃ hk : k < j, l[k] = x
    · obtain ⟨k, hk, he⟩ := h
      exact ih k hk (by omega) he
    · exact ⟨j, hj, hx, fun k hk he => h ⟨k, hk, he⟩⟩
theorem mem_cpt {l : List Int} {x : Int} : x ∈ cpt l ↔ x ∈ l := by
  unfold cpt Lib.compact Lib.compactUpTo
  constructor
  · intro h
    obtain ⟨j, hj, rfl⟩ := List.mem_map.1 h
    have hjl := List.mem_range.1 (List.mem_filter.1 hj).1
    rw [at_bang hjl]
    exact List.getElem_mem hjl
  · intro h
    obtain ⟨j, hj, hx⟩ := List.mem_iff_getElem.1 h
    obtain ⟨i, hi, hx, hf⟩ := first_at hj hx
    refine List.mem_map.2 ⟨i, List.mem_filter.2 ⟨List.mem_range.2 hi, ?_⟩, by rw [at_bang hi, hx]⟩
    unfold Lib.keeps
    rcases Nat.eq_zero_or_pos i with h0 | h0
    · subst h0; simp
    · rw [at_bang hi, at_bang (show i - 1 < l.length by omega)]
      have := hf (i - 1) (by omega)
      simp
      right
      rw [hx]
      first | exact this | exact fun e => this e.symm
theorem uq_pw (l : List Int) : (uq l).Pairwise (· < ·) := cpt_pw (srt_pw l)
theorem mem_uq {l : List Int} {x : Int} : x ∈ uq l ↔ x ∈ l := mem_cpt.trans mem_srt
theorem pw_ext : ∀ {a b : List Int}, a.Pairwise (· < ·) → b.Pairwise (· < ·) → (∀ x, x ∈ a ↔ x ∈ b) → a = b
  | [], [], _, _, _ => rfl
  | [], y :: b, _, _, h => absurd ((h y).2 (by simp)) (by simp)
  | x :: a, [], _, _, h => absurd ((h x).1 (by simp)) (by simp)
  | x :: a, y :: b, ha, hb, h => by
    obtain ⟨ha1, ha2⟩ := List.pairwise_cons.1 ha
    obtain ⟨hb1, hb2⟩ := List.pairwise_cons.1 hb
    have hx := (h x).1 (by simp)
    have hy := (h y).2 (by simp)
    have e : x = y := by
      rcases List.mem_cons.1 hx with e | h1
      · exact e
      · rcases List.mem_cons.1 hy with e | h2
        · exact e.symm
        · have := hb1 x h1
          have := ha1 y h2
          omega
    subst e
    rw [pw_ext ha2 hb2 fun z => ?_]
    constructor
    · intro hz
      have hlt := ha1 z hz
      rcases List.mem_cons.1 ((h z).1 (List.mem_cons_of_mem _ hz)) with e | h1
      · omega
      · exact h1
    · intro hz
      have hlt := hb1 z hz
      rcases List.mem_cons.1 ((h z).2 (List.mem_cons_of_mem _ hz)) with e | h1
      · omega
      · exact h1
/-- A number laid into a rising list. -/
theorem ins_pw {all : List Int} {x : Int} {k : Nat} (h : all.Pairwise (· < ·)) (h1 : ∀ y ∈ all.take k, y < x) (h2 : ∀ hk : k < all.length, ¬ all[k] < x) (h3 : all[k]? ≠ some x) : (all.take k ++ x :: all.drop k).Pairwise (· < ·) := by
  have hs : ∀ y ∈ all.drop k, x < y := by
    intro y hy
    obtain ⟨j, hj, rfl⟩ := List.mem_iff_getElem.1 hy
    rw [List.length_drop] at hj
    have hk : k < all.length := by omega
    have a1 := h2 hk
    have a2 : all[k] ≠ x := fun e => h3 (by rw [List.getElem?_eq_getElem hk, e])
    rw [List.getElem_drop]
    rcases Nat.eq_zero_or_pos j with e | e
    · subst e; simp only [Nat.add_zero]; omega
    · have := List.pairwise_iff_getElem.1 h k (k + j) hk (by omega) (by omega)
      omega
  rw [List.pairwise_append]
  refine ⟨h.sublist (List.take_sublist _ _), List.pairwise_cons.2 ⟨hs, h.sublist (List.drop_sublist _ _)⟩, fun a ha b hb => ?_⟩
  have := h1 a ha
  rcases List.mem_cons.1 hb with e | hb
  · omega
  · have := hs b hb
    omega
theorem mem_ins {all : List Int} {x y : Int} {k : Nat} : y ∈ all.take k ++ x :: all.drop k ↔ y ∈ all ∨ y = x := by
  have : y ∈ all ↔ y ∈ all.take k ∨ y ∈ all.drop k := by
    rw [← List.mem_append, List.take_append_drop]
  rw [List.mem_append, List.mem_cons, this]
  constructor
  · rintro (h | h | h) <;> simp [h]
  · rintro ((h | h) | h) <;> simp [h]
theorem mem_take1 {l : List Int} {i : Nat} (h : i < l.length) {y : Int} : y ∈ l.take (i + 1) ↔ y ∈ l.take i ∨ y = l[i] := by
  rw [List.take_succ_eq_append_getElem h, List.mem_append, List.mem_singleton]
end Cw
