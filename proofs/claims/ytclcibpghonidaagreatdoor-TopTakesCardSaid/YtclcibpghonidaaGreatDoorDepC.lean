/- The statement DepsChain, by reckoning. -/
import Derived.Test.YtclcibpghonidaaGreatDoorDepR
namespace Cw
open Go Vc
open Go.Proofs
set_option maxRecDepth 100000
/-- The chain's changes. -/
def chc (xs : List Int) (j : Nat) : Ch := ⟨(j : Int) + 1, (xs.getD j 0) % 6, (j : Int), bt1 (IntKind.u8.wrap (j : Int)), if j = 0 then [] else [(j : Int)], 1⟩
def chn (xs : List Int) (i : Nat) : List Ch := (List.range i).map (chc xs)
def chA (i : Nat) : List Int := if i = 0 then [] else [(i : Int)]
def lstA (xs : List Int) (i : Nat) : Int := if i = 0 then -1 else xs.getD (i - 1) 0 % 6
def rnds (xs : List Int) (i : Nat) : Nat := turnsC (-1) (chn xs i)
theorem secs_mem {L : List Ch} {k : Int} : k ∈ secs L ↔ (∃ c ∈ L, c.at' = k) ∧ ofN L k 2 = [] ∧ rdyN L k ≠ [] := by
  rw [secs, List.mem_filter, srtI, (List.mergeSort_perm _ _).mem_iff, atK_mem]
  refine and_congr Iff.rfl ?_
  rw [secB, ofI_len, Bool.not_eq_true', Bool.or_eq_false_iff, decide_eq_false_iff_not, beq_eq_false_iff_ne]
  refine and_congr ?_ ?_
  · rw [Nat.not_lt, Nat.le_zero, List.length_eq_zero_iff]
  · rw [ne_eq, List.length_eq_zero_iff]
section
variable {R : List Ch} {j : Nat}
end
end Cw
namespace Cw
open Go Vc
open Go.Proofs
set_option maxRecDepth 100000
theorem drop_cons {R : List Ch} {j : Nat} (h : j < R.length) : R.drop j = R[j] :: R.drop (j + 1) := List.drop_eq_getElem_cons h
/-- What holds at a round's beginning: the first j are done, behind sector a. -/
def ChIn (R : List Ch) (j : Nat) (a : Int) (n : Nat) : Prop := ChainOk R j ∧ j ≤ R.length ∧ turnsC a (R.drop j) = n ∧ ∀ h : j < R.length, R[j].at' ≠ a
theorem ChIn.lt {R : List Ch} {j n : Nat} {a : Int} (h : ChIn R j a (n + 1)) : j < R.length := by
  obtain ⟨_, h1, h2, _⟩ := h
  rcases Nat.lt_or_ge j R.length with h3 | h3
  · exact h3
  · rw [List.drop_of_length_le h3] at h2; cases h2
theorem ChIn.next {R : List Ch} {j n : Nat} {a : Int} (h : ChIn R j a (n + 1)) : ChIn (roundC (R[j]'h.lt).at' R) (j + runL (R[j]'h.lt).at' (R.drop j)) (R[j]'h.lt).at' n := by
  have hlt := h.lt
  obtain ⟨h0, h1, h2, h3⟩ := h
  have hl := runL_le (R[j]'hlt).at' (R.drop j)
  rw [List.length_drop] at hl
  have hd : ∀ i, (roundC R[j].at' R).drop (j + runL R[j].at' (R.drop j) + i) = (R.drop j).drop (runL R[j].at' (R.drop j) + i) := by
    intro i
    rw [List.drop_drop]
    apply List.ext_getElem?
    intro t
    rw [List.getElem?_drop, List.getElem?_drop]
    rcases Nat.lt_or_ge (j + runL R[j].at' (R.drop j) + i + t) R.length with h4 | h4
    · rw [List.getElem?_eq_getElem (by rw [roundC_len]; exact h4), h0.round_at _ h4, if_neg (by omega), List.getElem?_eq_getElem (by omega)]
      congr 2
      omega
    · rw [List.getElem?_eq_none (by rw [roundC_len]; exact h4), List.getElem?_eq_none (by omega)]
  refine ⟨h0.round _, by rw [roundC_len]; omega, ?_, fun h4 => ?_⟩
  · have := hd 0
    rw [Nat.add_zero, Nat.add_zero] at this
    rw [this]
    rw [drop_cons hlt, turnsC_new (h3 hlt), ← drop_cons hlt] at h2
    omega
  · have h4' : j + runL R[j].at' (R.drop j) < R.length := by rw [roundC_len] at h4; exact h4
    rw [h0.round_at _ h4', if_neg (by omega)]
    have := runL_end R[j].at' (R.drop j) (by rw [List.length_drop]; omega)
    rw [List.getElem_drop] at this
    exact this
end Cw
namespace Cw
open Go Vc
open Go.Proofs
end Cw
