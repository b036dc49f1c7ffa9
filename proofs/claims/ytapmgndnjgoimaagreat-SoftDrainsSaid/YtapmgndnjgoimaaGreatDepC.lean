/- The statement DepsChain, by reckoning. -/
import Derived.Test.YtapmgndnjgoimaaGreatDepR
namespace Cw
open Go Vc
open Go.Proofs
set_option maxRecDepth 100000
/-- The chain's changes. -/
def chc (xs : List Int) (j : Nat) : Ch := ⟨(j : Int) + 1, (xs.getD j 0) % 6, (j : Int), bt1 (IntKind.u8.wrap (j : Int)), if j = 0 then [] else [(j : Int)], 1⟩
def chn (xs : List Int) (i : Nat) : List Ch := (List.range i).map (chc xs)
theorem chn_len (xs : List Int) (i : Nat) : (chn xs i).length = i := by simp [chn]
theorem chn_succ (xs : List Int) (i : Nat) : chn xs (i + 1) = chn xs i ++ [chc xs i] := by simp [chn, List.range_succ]
theorem chn_at (xs : List Int) (i : Nat) {j : Nat} (h : j < (chn xs i).length) : (chn xs i)[j] = chc xs j := by simp [chn]
theorem und_all {R : List Ch} (h : ∀ c ∈ R, c.st = 1) : und R = R := List.filter_eq_self.2 fun c hc => by rw [h c hc]; rfl
theorem chn_st {xs : List Int} {i : Nat} : ∀ c ∈ chn xs i, c.st = 1 := fun c hc => by
  obtain ⟨j, _, rfl⟩ := List.mem_map.1 hc
  rfl
theorem chn_und (xs : List Int) (i : Nat) : und (chn xs i) = chn xs i := und_all chn_st
def chA (i : Nat) : List Int := if i = 0 then [] else [(i : Int)]
theorem chn_new (xs : List Int) {i : Nat} (h : i < 60) : chn xs i ++ [newC (und (chn xs i)) (chn xs i).length (xs.getD i 0 % 6) ((i : Int), bt1 (IntKind.u8.wrap (i : Int))) (chA i)] = chn xs (i + 1) := by
  have ha : alls (chn xs i) (xs.getD i 0 % 6) ((i : Int), bt1 (IntKind.u8.wrap (i : Int))) (chA i) = chA i := by
    rw [alls_eq]
    have : (chn xs i).filter (fun c => ovb (c.off, c.by') ((i : Int), bt1 (IntKind.u8.wrap (i : Int))) && c.at' == xs.getD i 0 % 6) = [] := by
      rw [List.filter_eq_nil_iff]
      intro c hc
      obtain ⟨j, hj, rfl⟩ := List.mem_map.1 hc
      have hj' : j < i := List.mem_range.1 hj
      have h1 := bt1_ovb (o := (j : Int)) (p := (i : Int)) (IntKind.u8.wrap (j : Int)) (IntKind.u8.wrap (i : Int)) (by omega) (by omega)
      have h2 : (((j : Int)) == ((i : Int))) = false := by simp; omega
      rw [show ovb ((chc xs j).off, (chc xs j).by') ((i : Int), bt1 (IntKind.u8.wrap (i : Int))) = ovb ((j : Int), bt1 (IntKind.u8.wrap (j : Int))) ((i : Int), bt1 (IntKind.u8.wrap (i : Int))) from rfl, h1, h2]
      simp
    rw [this]
    simp
  rw [chn_succ, chn_und, newC, ha, chn_len]
  rfl
theorem chn_ok (xs : List Int) (i : Nat) : ChainOk (chn xs i) 0 := by
  refine ⟨fun j h => by rw [chn_at]; rfl, fun h => by rw [chn_at]; rfl, fun j h => by rw [chn_at]; simp [chc], fun j h h0 => by omega, fun j h _ => by rw [chn_at]; rfl⟩
theorem turnsC_snoc (c : Ch) : ∀ (l : List Ch) (last : Int), turnsC last (l ++ [c]) = turnsC last l + (if c.at' = (l.getLast?.map Ch.at').getD last then 0 else 1)
  | [], last => by by_cases h : c.at' = last <;> simp [turnsC, h]
  | x :: l, last => by
    rw [List.cons_append, turnsC, turnsC, turnsC_snoc c l x.at']
    have : ((x :: l).getLast?.map Ch.at').getD last = (l.getLast?.map Ch.at').getD x.at' := by
      cases l with
      | nil => rfl
      | cons y l => simp [List.getLast?_cons]
    rw [this]
    omega
def lstA (xs : List Int) (i : Nat) : Int := if i = 0 then -1 else xs.getD (i - 1) 0 % 6
def rnds (xs : List Int) (i : Nat) : Nat := turnsC (-1) (chn xs i)
theorem rnds_succ (xs : List Int) (i : Nat) : rnds xs (i + 1) = rnds xs i + (if xs.getD i 0 % 6 = lstA xs i then 0 else 1) := by
  rw [rnds, chn_succ, turnsC_snoc, ← rnds]
  congr 2
  have : ((chn xs i).getLast?.map Ch.at').getD (-1) = lstA xs i := by
    cases i with
    | zero => rfl
    | succ i => rw [chn_succ]; simp [lstA, chc]
  rw [this]
  rfl
theorem rnds_le (xs : List Int) : ∀ i, rnds xs i ≤ i
  | 0 => Nat.le_refl _
  | i + 1 => by
    have := rnds_le xs i
    rw [rnds_succ]
    split <;> omega
theorem atK_nodup (L : List Ch) : (atK L).Nodup := by
  rw [show L = L.reverse.reverse from (List.reverse_reverse L).symm]
  generalize L.reverse = M
  induction M with
  | nil => simp [atK]
  | cons c M ih =>
    rw [List.reverse_cons, atK_snoc]
    split
    · exact ih
    · rename_i h
      rw [List.nodup_append]
      refine ⟨ih, by simp, fun a ha b hb hab => ?_⟩
      rw [List.mem_singleton.1 hb] at hab
      exact h (List.contains_iff_mem.2 (hab ▸ ha))
theorem secs_nodup (L : List Ch) : (secs L).Nodup := ((List.mergeSort_perm _ _).nodup_iff.2 (atK_nodup L)).sublist List.filter_sublist
theorem secs_mem {L : List Ch} {k : Int} : k ∈ secs L ↔ (∃ c ∈ L, c.at' = k) ∧ ofN L k 2 = [] ∧ rdyN L k ≠ [] := by
  rw [secs, List.mem_filter, srtI, (List.mergeSort_perm _ _).mem_iff, atK_mem]
  refine and_congr Iff.rfl ?_
  rw [secB, ofI_len, Bool.not_eq_true', Bool.or_eq_false_iff, decide_eq_false_iff_not, beq_eq_false_iff_ne]
  refine and_congr ?_ ?_
  · rw [Nat.not_lt, Nat.le_zero, List.length_eq_zero_iff]
  · rw [ne_eq, List.length_eq_zero_iff]
theorem one_of {l : List Int} {a : Int} (hn : l.Nodup) (h : ∀ x, x ∈ l ↔ x = a) : l = [a] := by
  match l, hn with
  | [], _ => exact absurd ((h a).2 rfl) (by simp)
  | [x], _ => rw [(h x).1 (by simp)]
  | x :: y :: l, hn =>
    have h1 := (h x).1 (by simp)
    have h2 := (h y).1 (by simp)
    rw [List.nodup_cons] at hn
    exact absurd (by simp [h1, h2]) hn.1
section
variable {R : List Ch} {j : Nat}
theorem ChainOk.ofN0 (h : ChainOk R j) (k : Int) : ofN R k 2 = [] := by
  rw [ofN, List.map_eq_nil_iff, List.filter_eq_nil_iff]
  intro c hc
  obtain ⟨i, hi, rfl⟩ := List.mem_iff_getElem.1 hc
  by_cases hij : i < j
  · rw [h.st0 i hi hij]; simp
  · rw [h.st1 i hi (by omega)]; simp
theorem rdyN_at {R : List Ch} {k n : Int} (h : n ∈ rdyN R k) : ∃ c ∈ und R, c.at' = k := by
  obtain ⟨c, hc, _, h1, h2, _⟩ := rdyN_ok h
  exact ⟨c, und_mem.2 ⟨hc, by rw [h2]; decide⟩, h1⟩
theorem ChainOk.secs1 (h : ChainOk R j) (hj : j < R.length) : secs (und R) = [R[j].at'] := by
  refine one_of (secs_nodup _) fun k => ?_
  rw [secs_mem, ofN_und R k (by decide), h.ofN0, rdyN_und h.num.nodup]
  constructor
  · rintro ⟨_, _, h1⟩
    exact Decidable.not_not.1 fun hk => h1 ((h.only hj k).2 hk)
  · rintro rfl
    have h1 : rdyN R R[j].at' ≠ [] := fun hn => ((h.only hj _).1 hn) rfl
    refine ⟨?_, rfl, h1⟩
    obtain ⟨n, hn⟩ := List.exists_mem_of_ne_nil _ h1
    exact rdyN_at hn
theorem ChainOk.secs0 (h : ChainOk R j) (hj : R.length ≤ j) : secs (und R) = [] := by rw [h.none hj]; simp [secs, atK, srtI]
theorem ChainOk.sd (h : ChainOk R j) (k : Int) : sdR R k = setN (rdyN R k) 2 R ∧ sdL' R k = rdyN R k := by
  rw [sdR, sdL', h.ofN0]; exact ⟨rfl, rfl⟩
end
end Cw
namespace Cw
open Go Vc
open Go.Proofs
set_option maxRecDepth 100000
theorem drop_cons {R : List Ch} {j : Nat} (h : j < R.length) : R.drop j = R[j] :: R.drop (j + 1) := List.drop_eq_getElem_cons h
/-- What holds at a round's beginning: the first j are done, behind sector a. -/
def ChIn (R : List Ch) (j : Nat) (a : Int) (n : Nat) : Prop := ChainOk R j ∧ j ≤ R.length ∧ turnsC a (R.drop j) = n ∧ ∀ h : j < R.length, R[j].at' ≠ a
theorem ChIn.lt {R : List Ch} {j n : Nat} {a : Int} (h : ChIn R j a (n + 1)) : j < R.length := by
  obtain ⟨_, h1, h2, _⟩ := h
  rcases Nat.lt_or_ge j R.length with h3 | h3
  · exact h3
  · rw [List.drop_of_length_le h3] at h2; cases h2
theorem ChIn.end {R : List Ch} {j : Nat} {a : Int} (h : ChIn R j a 0) : R.length ≤ j := by
  obtain ⟨_, h1, h2, h3⟩ := h
  rcases Nat.lt_or_ge j R.length with h4 | h4
  · exfalso
    rw [drop_cons h4, turnsC, if_neg (h3 h4)] at h2
    omega
  · exact h4
theorem ChIn.next {R : List Ch} {j n : Nat} {a : Int} (h : ChIn R j a (n + 1)) : ChIn (roundC (R[j]'h.lt).at' R) (j + runL (R[j]'h.lt).at' (R.drop j)) (R[j]'h.lt).at' n := by
  have hlt := h.lt
  obtain ⟨h0, h1, h2, h3⟩ := h
  have hl := runL_le (R[j]'hlt).at' (R.drop j)
  rw [List.length_drop] at hl
  have hd : ∀ i, (roundC R[j].at' R).drop (j + runL R[j].at' (R.drop j) + i) = (R.drop j).drop (runL R[j].at' (R.drop j) + i) := by
    intro i
    rw [List.drop_drop]
    apply List.ext_getElem?
    intro t
    rw [List.getElem?_drop, List.getElem?_drop]
    rcases Nat.lt_or_ge (j + runL R[j].at' (R.drop j) + i + t) R.length with h4 | h4
    · rw [List.getElem?_eq_getElem (by rw [roundC_len]; exact h4), h0.round_at _ h4, if_neg (by omega), List.getElem?_eq_getElem (by omega)]
      congr 2
      omega
    · rw [List.getElem?_eq_none (by rw [roundC_len]; exact h4), List.getElem?_eq_none (by omega)]
  refine ⟨h0.round _, by rw [roundC_len]; omega, ?_, fun h4 => ?_⟩
  · have := hd 0
    rw [Nat.add_zero, Nat.add_zero] at this
    rw [this]
    rw [drop_cons hlt, turnsC_new (h3 hlt), ← drop_cons hlt] at h2
    omega
  · have h4' : j + runL R[j].at' (R.drop j) < R.length := by rw [roundC_len] at h4; exact h4
    rw [h0.round_at _ h4', if_neg (by omega)]
    have := runL_end R[j].at' (R.drop j) (by rw [List.length_drop]; omega)
    rw [List.getElem_drop] at this
    exact this
theorem numsL_len (j m : Nat) : (numsL j m).length = m := by simp [numsL]
theorem numsL_at {j m i : Nat} (h : i < (numsL j m).length) : (numsL j m)[i] = ((j + i : Nat) : Int) + 1 := by simp [numsL]
theorem sameI_true (l : List Int) : decide (l = l) = true := decide_eq_true rfl
end Cw
namespace Cw
open Go Vc
open Go.Proofs
end Cw
