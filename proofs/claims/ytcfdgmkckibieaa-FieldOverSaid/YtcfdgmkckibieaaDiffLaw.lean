/- A text, patched by what is between it and another one, is that; the patches are in order, no two touch. No program in sight. -/
import Derived.Test.YtcfdgmkckibieaaBetween
import Derived.Test.YtcfdgmkckibieaaTurnW
namespace Cw
open Go Go.RowKit

/-- Behind which place a list of patches ends (from e on), each behind the one ahead of it, no two touching. -/
def chain : Int → List Pt → Prop
  | _, [] => True
  | e, p :: l => e < p.1 ∧ okp p = true ∧ chain (p.1 + p.2.size) l
def lastEnd : Int → List Pt → Int
  | e, [] => e
  | _, p :: l => lastEnd (p.1 + p.2.size) l
theorem chain_snoc (l : List Pt) : ∀ (e : Int) (p : Pt), chain e l → lastEnd e l < p.1 → okp p = true → chain e (l ++ [p]) ∧ lastEnd e (l ++ [p]) = p.1 + p.2.size := by
  induction l with
  | nil => intro e p _ h1 h2; exact ⟨⟨h1, h2, trivial⟩, rfl⟩
  | cons q l ih =>
    intro e p hc h1 h2
    obtain ⟨c1, c2, c3⟩ := hc
    obtain ⟨i1, i2⟩ := ih (q.1 + q.2.size) p c3 h1 h2
    exact ⟨⟨c1, c2, i1⟩, i2⟩
theorem chain_all (l : List Pt) : ∀ e, chain e l → l.all okp = true := by
  induction l with
  | nil => intro e _; rfl
  | cons q l ih => intro e h; simp only [List.all_cons, h.2.1, Bool.true_and]; exact ih _ h.2.2

theorem st_next (x y : ByteArray) (k : Nat) : st x y (k + 1) = match (st x y k).2, dif x y k with
    | some f, true => ((st x y k).1, some f)
    | some f, false => ((st x y k).1 ++ [((f : Int), y.extract f k)], none)
    | none, true => ((st x y k).1, some k)
    | none, false => ((st x y k).1, none) := rfl

/-- What stands when the places ahead of i are through. -/
structure Thru (x y : ByteArray) (i : Nat) (out : List Pt) (fr : Option Nat) : Prop where
  chain : chain (-1) out
  last : lastEnd (-1) out < ((fr.getD i : Nat) : Int)
  from_lt : ∀ f, fr = some f → f < i ∧ f < 64
  done : ∀ j, j < fr.getD i → (patchAll x.data.toList out)[j]? = y.data.toList[j]?
  rest : ∀ j, fr.getD i ≤ j → (patchAll x.data.toList out)[j]? = x.data.toList[j]?

theorem dif_get (x y : ByteArray) (hx : x.size = 64) (hy : y.size = 64) (i : Nat) (h : dif x y i = false) : x.data.toList[i]? = y.data.toList[i]? := by
  by_cases hi : i < 64
  · have h2 : x[i]'(by omega) = y[i]'(by omega) := by
      rw [dif, dif_pos ⟨by omega, by omega⟩] at h
      simpa using h
    rw [List.getElem?_eq_getElem (show i < x.data.toList.length by simp; omega), List.getElem?_eq_getElem (show i < y.data.toList.length by simp; omega)]
    congr 1
  · rw [List.getElem?_eq_none (show x.data.toList.length ≤ i by simp; omega), List.getElem?_eq_none (show y.data.toList.length ≤ i by simp; omega)]

theorem patchAll_snoc (s : List UInt8) (l : List Pt) (p : Pt) : patchAll s (l ++ [p]) = one (patchAll s l) p := by
  rw [patchAll, List.foldl_append]
  rfl
theorem ext_get (y : ByteArray) (f i j : Nat) (hi : i ≤ y.size) (h1 : f ≤ j) (h2 : j < i) : (y.extract f i).data.toList[j - f]? = y.data.toList[j]? := by
  rw [ByteArray.data_extract, Array.toList_extract, List.extract_eq_take_drop, List.getElem?_take, if_pos (by omega), List.getElem?_drop]
  congr 1
  omega
theorem ext_size (y : ByteArray) (f i : Nat) (hi : i ≤ y.size) : (y.extract f i).size = i - f := by
  rw [ByteArray.size_extract, Nat.min_eq_left hi]

theorem thru_step (x y : ByteArray) (hx : x.size = 64) (hy : y.size = 64) (i : Nat) (hi : i ≤ 64) (out : List Pt) (f : Nat) (h : Thru x y i out (some f)) (hd : dif x y i = false) :
    Thru x y (i + 1) (out ++ [((f : Int), y.extract f i)]) none := by
  obtain ⟨hc, hl, hf, hdn, hr⟩ := h
  obtain ⟨hf1, hf2⟩ := hf f rfl
  have hsz := ext_size y f i (by omega)
  have hok : okp ((f : Int), y.extract f i) = true := by
    simp only [okp, finside, hsz]
    simp
    omega
  have hl' : lastEnd (-1) out < (f : Int) := by simpa using hl
  obtain ⟨c1, c2⟩ := chain_snoc out (-1) ((f : Int), y.extract f i) hc hl' hok
  have hlen := patchAll_length out x.data.toList hx (chain_all out _ hc)
  have hg := one_get (patchAll x.data.toList out) ((f : Int), y.extract f i) hlen hok
  simp only [Int.toNat_natCast, hsz] at hg
  have hse := dif_get x y hx hy i hd
  simp only [Option.getD_some] at hdn hr
  refine ⟨c1, ?_, by simp, ?_, ?_⟩
  · rw [c2, hsz]; simp; omega
  · intro j hj
    simp only [Option.getD_none] at hj
    rw [patchAll_snoc, hg j]
    by_cases h1 : f ≤ j ∧ j < f + (i - f)
    · rw [if_pos h1, ext_get y f i j (by omega) h1.1 (by omega)]
    · rw [if_neg h1]
      by_cases h2 : j < f
      · exact hdn j h2
      · obtain rfl : j = i := by omega
        rw [hr j (by omega), hse]
  · intro j hj
    simp only [Option.getD_none] at hj
    rw [patchAll_snoc, hg j, if_neg (by omega)]
    exact hr j (by omega)

theorem thru (x y : ByteArray) (hx : x.size = 64) (hy : y.size = 64) : ∀ i, i ≤ 65 → Thru x y i (st x y i).1 (st x y i).2
  | 0, _ => ⟨trivial, by simp [st, lastEnd], by simp [st], by simp [st], by simp [st, patchAll]⟩
  | i + 1, hi => by
    have ih := thru x y hx hy i (by omega)
    rw [st_next]
    generalize st x y i = s at *
    obtain ⟨out, fr⟩ := s
    cases hd : dif x y i <;> cases fr with
    | none =>
      obtain ⟨hc, hl, hf, hdn, hr⟩ := ih
      simp only [Option.getD_none] at hl hdn hr
      first
      | (refine ⟨hc, ?_, by simp, ?_, ?_⟩
         · simp; omega
         · intro j hj
           simp only [Option.getD_none] at hj
           by_cases h1 : j < i
           · exact hdn j h1
           · obtain rfl : j = i := by omega
             rw [hr j (by omega)]
             exact dif_get x y hx hy j hd
         · intro j hj
           simp only [Option.getD_none] at hj
           exact hr j (by omega))
      | (have h64 : i < 64 := by
           rcases Nat.lt_or_ge i 64 with h | h
           · exact h
           · rw [dif_out x y i (by omega)] at hd; cases hd
         exact ⟨hc, by simpa using hl, fun f hf => by simp at hf; omega, by simpa using hdn, by simpa using hr⟩)
    | some f =>
      first
      | exact thru_step x y hx hy i (by omega) out f ih hd
      | (obtain ⟨hc, hl, hf, hdn, hr⟩ := ih
         have := hf f rfl
         exact ⟨hc, hl, fun g hg => by simp at hg; omega, hdn, hr⟩)

theorem btw_done (x y : ByteArray) (hx : x.size = 64) (hy : y.size = 64) : patchAll x.data.toList (btw x y) = y.data.toList ∧ chain (-1) (btw x y) := by
  have h := thru x y hx hy 65 (by omega)
  have hn : (st x y 65).2 = none := by
    rw [st_next, dif_out x y 64 (by omega)]
    split <;> first | rfl | (rename_i h1 h2; simp at h2)
  rw [btw, if_pos ⟨hx, hy⟩]
  rw [hn] at h
  refine ⟨?_, h.chain⟩
  apply List.ext_getElem?
  intro j
  by_cases hj : j < 65
  · exact h.done j hj
  · rw [h.rest j (by simp; omega), List.getElem?_eq_none (show x.data.toList.length ≤ j by simp; omega), List.getElem?_eq_none (show y.data.toList.length ≤ j by simp; omega)]
end Cw
