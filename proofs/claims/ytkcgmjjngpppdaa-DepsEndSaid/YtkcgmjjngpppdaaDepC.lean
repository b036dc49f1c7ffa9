/- The statement DepsChain, by reckoning. -/
import Derived.Test.YtkcgmjjngpppdaaDepR
namespace Cw
open Go Vc
open Go.Proofs
set_option maxRecDepth 100000
/-- The chain's changes. -/
def chc (xs : List Int) (j : Nat) : Ch := ⟨(j : Int) + 1, (xs.getD j 0) % 6, (j : Int), bt1 (IntKind.u8.wrap (j : Int)), if j = 0 then [] else [(j : Int)], 1⟩
def chn (xs : List Int) (i : Nat) : List Ch := (List.range i).map (chc xs)
theorem chn_len (xs : List Int) (i : Nat) : (chn xs i).length = i := by simp [chn]
theorem chn_succ (xs : List Int) (i : Nat) : chn xs (i + 1) = chn xs i ++ [chc xs i] := by simp [chn, List.range_succ]
theorem chn_at (xs : List Int) (i : Nat) {j : Nat} (h : j < (chn xs i).length) : (chn xs i)[j] = chc xs j := by simp [chn]
theorem und_all {R : List Ch} (h : ∀ c ∈ R, c.st = 1) : und R = R := List.filter_eq_self.2 fun c hc => by rw [h c hc]; rfl
theorem chn_st {xs : List Int} {i : Nat} : ∀ c ∈ chn xs i, c.st = 1 := fun c hc => by
  obtain ⟨j, _, rfl⟩ := List.mem_map.1 hc
  rfl
theorem chn_und (xs : List Int) (i : Nat) : und (chn xs i) = chn xs i := und_all chn_st
def chA (i : Nat) : List Int := if i = 0 then [] else [(i : Int)]
theorem chn_new (xs : List Int) {i : Nat} (h : i < 60) : chn xs i ++ [newC (und (chn xs i)) (chn xs i).length (xs.getD i 0 % 6) ((i : Int), bt1 (IntKind.u8.wrap (i : Int))) (chA i)] = chn xs (i + 1) := by
  have ha : alls (chn xs i) (xs.getD i 0 % 6) ((i : Int), bt1 (IntKind.u8.wrap (i : Int))) (chA i) = chA i := by
    rw [alls_eq]
    have : (chn xs i).filter (fun c => ovb (c.off, c.by') ((i : Int), bt1 (IntKind.u8.wrap (i : Int))) && c.at' == xs.getD i 0 % 6) = [] := by
      rw [List.filter_eq_nil_iff]
      intro c hc
      obtain ⟨j, hj, rfl⟩ := List.mem_map.1 hc
      have hj' : j < i := List.mem_range.1 hj
      have h1 := bt1_ovb (o := (j : Int)) (p := (i : Int)) (IntKind.u8.wrap (j : Int)) (IntKind.u8.wrap (i : Int)) (by omega) (by omega)
      have h2 : (((j : Int)) == ((i : Int))) = false := by simp; omega
      rw [show ovb ((chc xs j).off, (chc xs j).by') ((i : Int), bt1 (IntKind.u8.wrap (i : Int))) = ovb ((j : Int), bt1 (IntKind.u8.wrap (j : Int))) ((i : Int), bt1 (IntKind.u8.wrap (i : Int))) from rfl, h1, h2]
      simp
    rw [this]
    simp
  rw [chn_succ, chn_und, newC, ha, chn_len]
  rfl
theorem chn_ok (xs : List Int) (i : Nat) : ChainOk (chn xs i) 0 := by
  refine ⟨fun j h => by rw [chn_at]; rfl, fun h => by rw [chn_at]; rfl, fun j h => by rw [chn_at]; simp [chc], fun j h h0 => by omega, fun j h _ => by rw [chn_at]; rfl⟩
theorem turnsC_snoc (c : Ch) : ∀ (l : List Ch) (last : Int), turnsC last (l ++ [c]) = turnsC last l + (if c.at' = (l.getLast?.map Ch.at').getD last then 0 else 1)
  | [], last => by by_cases h : c.at' = last <;> simp [turnsC, h]
  | x :: l, last => by
    rw [List.cons_append, turnsC, turnsC, turnsC_snoc c l x.at']
    have : ((x :: l).getLast?.map Ch.at').getD last = (l.getLast?.map Ch.at').getD x.at' := by
      cases l with
      | nil => rfl
      | cons y l => simp [List.getLast?_cons]
    rw [this]
    omega
def lstA (xs : List Int) (i : Nat) : Int := if i = 0 then -1 else xs.getD (i - 1) 0 % 6
def rnds (xs : List Int) (i : Nat) : Nat := turnsC (-1) (chn xs i)
theorem rnds_succ (xs : List Int) (i : Nat) : rnds xs (i + 1) = rnds xs i + (if xs.getD i 0 % 6 = lstA xs i then 0 else 1) := by
  rw [rnds, chn_succ, turnsC_snoc, ← rnds]
  congr 2
  have : ((chn xs i).getLast?.map Ch.at').getD (-1) = lstA xs i := by
    cases i with
    | zero => rfl
    | succ i => rw [chn_succ]; simp [lstA, chc]
  rw [this]
  rfl
theorem rnds_le (xs : List Int) : ∀ i, rnds xs i ≤ i
  | 0 => Nat.le_refl _
  | i + 1 => by
    have := rnds_le xs i
    rw [rnds_succ]
    split <;> omega
theorem atK_nodup (L : List Ch) : (atK L).Nodup := by
  rw [show L = L.reverse.reverse from (List.reverse_reverse L).symm]
  generalize L.reverse = M
  induction M with
  | nil => simp [atK]
  | cons c M ih =>
    rw [List.reverse_cons, atK_snoc]
    split
    · exact ih
    · rename_i h
      rw [List.nodup_append]
      refine ⟨ih, by simp, fun a ha b hb hab => ?_⟩
      rw [List.mem_singleton.1 hb] at hab
      exact h (List.contains_iff_mem.2 (hab ▸ ha))
theorem secs_nodup (L : List Ch) : (secs L).Nodup := ((List.mergeSort_perm _ _).nodup_iff.2 (atK_nodup L)).sublist List.filter_sublist
theorem secs_mem {L : List Ch} {k : Int} : k ∈ secs L ↔ (∃ c ∈ L, c.at' = k) ∧ ofN L k 2 = [] ∧ rdyN L k ≠ [] := by
  rw [secs, List.mem_filter, srtI, (List.mergeSort_perm _ _).mem_iff, atK_mem]
  refine and_congr Iff.rfl ?_
  rw [secB, ofI_len, Bool.not_eq_true', Bool.or_eq_false_iff, decide_eq_false_iff_not, beq_eq_false_iff_ne]
  refine and_congr ?_ ?_
  · rw [Nat.not_lt, Nat.le_zero, List.length_eq_zero_iff]
  · rw [ne_eq, List.length_eq_zero_iff]
theorem one_of {l : List Int} {a : Int} (hn : l.Nodup) (h : ∀ x, x ∈ l ↔ x = a) : l = [a] := by
  match l, hn with
  | [], _ => exact absurd ((h a).2 rfl) (by simp)
  | [x], _ => rw [(h x).1 (by simp)]
  | x :: y :: l, hn =>
    have h1 := (h x).1 (by simp)
    have h2 := (h y).1 (by simp)
    rw [List.nodup_cons] at hn
    exact absurd (by simp [h1, h2]) hn.1
section
variable {R : List Ch} {j : Nat}
theorem ChainOk.ofN0 (h : ChainOk R j) (k : Int) : ofN R k 2 = [] := by
  rw [ofN, List.map_eq_nil_iff, List.filter_eq_nil_iff]
  intro c hc
  obtain ⟨i, hi, rfl⟩ := List.mem_iff_getElem.1 hc
  by_cases hij : i < j
  · rw [h.st0 i hi hij]; simp
  · rw [h.st1 i hi (by omega)]; simp
theorem rdyN_at {R : List Ch} {k n : Int} (h : n ∈ rdyN R k) : ∃ c ∈ und R, c.at' = k := by
  obtain ⟨c, hc, _, h1, h2, _⟩ := rdyN_ok h
  exact ⟨c, und_mem.2 ⟨hc, by rw [h2]; decide⟩, h1⟩
theorem ChainOk.secs1 (h : ChainOk R j) (hj : j < R.length) : secs (und R) = [R[j].at'] := by
  refine one_of (secs_nodup _) fun k => ?_
  rw [secs_mem, ofN_und R k (by decide), h.ofN0, rdyN_und h.num.nodup]
  constructor
  · rintro ⟨_, _, h1⟩
    exact Decidable.not_not.1 fun hk => h1 ((h.only hj k).2 hk)
  · rintro rfl
    have h1 : rdyN R R[j].at' ≠ [] := fun hn => ((h.only hj _).1 hn) rfl
    refine ⟨?_, rfl, h1⟩
    obtain ⟨n, hn⟩ := List.exists_mem_of_ne_nil _ h1
    exact rdyN_at hn
theorem ChainOk.secs0 (h : ChainOk R j) (hj : R.length ≤ j) : secs (und R) = [] := by rw [h.none hj]; simp [secs, atK, srtI]
theorem ChainOk.sd (h : ChainOk R j) (k : Int) : sdR R k = setN (rdyN R k) 2 R ∧ sdL' R k = rdyN R k := by
  rw [sdR, sdL', h.ofN0]; exact ⟨rfl, rfl⟩
end
end Cw
namespace Cw
open Go Vc
open Go.Proofs
set_option maxRecDepth 100000
theorem drop_cons {R : List Ch} {j : Nat} (h : j < R.length) : R.drop j = R[j] :: R.drop (j + 1) := List.drop_eq_getElem_cons h
/-- What holds at a round's beginning: the first j are done, behind sector a. -/
def ChIn (R : List Ch) (j : Nat) (a : Int) (n : Nat) : Prop := ChainOk R j ∧ j ≤ R.length ∧ turnsC a (R.drop j) = n ∧ ∀ h : j < R.length, R[j].at' ≠ a
theorem ChIn.lt {R : List Ch} {j n : Nat} {a : Int} (h : ChIn R j a (n + 1)) : j < R.length := by
  obtain ⟨_, h1, h2, _⟩ := h
  rcases Nat.lt_or_ge j R.length with h3 | h3
  · exact h3
  · rw [List.drop_of_length_le h3] at h2; cases h2
theorem ChIn.end {R : List Ch} {j : Nat} {a : Int} (h : ChIn R j a 0) : R.length ≤ j := by
  obtain ⟨_, h1, h2, h3⟩ := h
  rcases Nat.lt_or_ge j R.length with h4 | h4
  · exfalso
    rw [drop_cons h4, turnsC, if_neg (h3 h4)] at h2
    omega
  · exact h4
theorem ChIn.next {R : List Ch} {j n : Nat} {a : Int} (h : ChIn R j a (n + 1)) : ChIn (roundC (R[j]'h.lt).at' R) (j + runL (R[j]'h.lt).at' (R.drop j)) (R[j]'h.lt).at' n := by
  have hlt := h.lt
  obtain ⟨h0, h1, h2, h3⟩ := h
  have hl := runL_le (R[j]'hlt).at' (R.drop j)
  rw [List.length_drop] at hl
  have hd : ∀ i, (roundC R[j].at' R).drop (j + runL R[j].at' (R.drop j) + i) = (R.drop j).drop (runL R[j].at' (R.drop j) + i) := by
    intro i
    rw [List.drop_drop]
    apply List.ext_getElem?
    intro t
    rw [List.getElem?_drop, List.getElem?_drop]
    rcases Nat.lt_or_ge (j + runL R[j].at' (R.drop j) + i + t) R.length with h4 | h4
    · rw [List.getElem?_eq_getElem (by rw [roundC_len]; exact h4), h0.round_at _ h4, if_neg (by omega), List.getElem?_eq_getElem (by omega)]
      congr 2
      omega
    · rw [List.getElem?_eq_none (by rw [roundC_len]; exact h4), List.getElem?_eq_none (by omega)]
  refine ⟨h0.round _, by rw [roundC_len]; omega, ?_, fun h4 => ?_⟩
  · have := hd 0
    rw [Nat.add_zero, Nat.add_zero] at this
    rw [this]
    rw [drop_cons hlt, turnsC_new (h3 hlt), ← drop_cons hlt] at h2
    omega
  · have h4' : j + runL R[j].at' (R.drop j) < R.length := by rw [roundC_len] at h4; exact h4
    rw [h0.round_at _ h4', if_neg (by omega)]
    have := runL_end R[j].at' (R.drop j) (by rw [List.length_drop]; omega)
    rw [List.getElem_drop] at this
    exact this
theorem numsL_len (j m : Nat) : (numsL j m).length = m := by simp [numsL]
theorem numsL_at {j m i : Nat} (h : i < (numsL j m).length) : (numsL j m)[i] = ((j + i : Nat) : Int) + 1 := by simp [numsL]
theorem sameI_true (l : List Int) : decide (l = l) = true := decide_eq_true rfl
set_option maxRecDepth 100000 in
set_option maxHeartbeats 8000000 in
theorem depsChain_h (xs : List Int) (z : xs.length ≤ 100000000000000) : FnH Try.prog 4 [.c (.nm 0)] [(0, some (false, .rd 1 xs.length (ivs xs)))] 1 ⟨.t (.c (.b true)), [], [], []⟩ := by
  refine fnR (fn := Try.f4) 140 rfl rfl rfl (args' := [.c (.nm 0)]) (H' := [(0, some (false, .rd 1 xs.length (ivs xs)))]) (nx' := 1) (fun e w M => ⟨_, mem_rd (fun n => n) (H' := [(0, some (false, .rd 1 xs.length (ivs xs)))]) ⟨⟨false, rfl⟩, trivial⟩ M, rfl⟩) rfl rfl rfl rfl fun w => ?_
  refine rn [(17, .spec ⟨.t (.c (.nm 1)), [(true, .ab (depX [] 0))], [], []⟩), (19, .spec ⟨.t (.c (.b false)), [], [], []⟩), (20, .dec false), (21, .spec ⟨.t (.c (.b true)), [], [], []⟩), (23, .dec false)] rfl (by (repeat' (first | exact trivial | exact rfl | exact trivial | exact fun _ => trivial | first | exact newA | exact nilDp rfl rfl rfl rfl | exact dworks_h | rfl | refine And.intro ?_ ?_))) ?_
  refine At.newE (frzP []) (.pointer none) (frzP_stable _) rfl (fun w p hp => by cases hp) ?_
  refine At.nil 6 3 1 rfl ?_
  refine At.loop (X := (i : Nat) ×' (V : DV) ×' (W : List (List Int × Option Addr × Nat)) ×' (i ≤ xs.length ∧ i ≤ 60 ∧ DR V W (chn xs i))) 4 (fun x => xs.length - x.1)
    (fun x => [(0, .t (.c (.nm 0))), (3, .t (.c (.nm 1))), (4, .t (.c (iT (rnds xs x.1 : Nat)))), (5, .t (.c (iT (lstA xs x.1)))), (6, .t (.c (.nm 3))), (7, .t (.c (iT (x.1 : Nat))))])
    (fun x => [(0, some (false, .rd 1 xs.length (ivs xs))), (1, some (true, .ab (depX x.2.1 (x.1 : Nat)))), (2, some (true, .ab (frzP x.2.2.1))), (3, some (true, .own 3 1 (chA x.1).length (ivs (chA x.1))))])
    ⟨0, [], [], by omega, by omega, DR.nil⟩ [] (fun x => wf rfl rfl) (by (repeat' (first | exact trivial | exact rfl | exact trivial | exact fun _ => trivial | rfl | refine And.intro ?_ ?_))) (by repeat' (first | exact trivial | exact rfl | refine And.intro ?_ ?_)) rfl fun x => ?_
  obtain ⟨i, V, W, hi1, hi2, hR⟩ := x
  have hlen := chn_len xs i
  have w2 : IntKind.i64.wrap ((i : Int) + 1) = ((i + 1 : Nat) : Int) := by rw [wrap_sm (by omega) (by omega)]; omega
  cases hc : decide ((i : Int) < (xs.length : Nat)) && decide ((i : Int) < 60) with
  | true =>
    have hlt : i < xs.length := by have := of_decide_eq_true (Bool.and_eq_true_iff.1 hc).1; omega
    have h60 : i < 60 := by have := of_decide_eq_true (Bool.and_eq_true_iff.1 hc).2; omega
    have e1 : (ivs xs)[(i : Int).toNat * 1]? = some (.int .i64 xs[i]) := by simpa using ivs_at hlt
    have b0 : (0 : Int) ≤ (i : Int) := by omega
    have b1 : (i : Int) < (xs.length : Int) := by omega
    have hx : xs.getD i 0 = xs[i] := by simp [List.getD, hlt]
    have am := among0 xs[i] 6 (by decide) (by decide)
    have hat : 0 ≤ xs[i] % 6 ∧ xs[i] % 6 < 6 := ⟨Int.emod_nonneg _ (by decide), Int.emod_lt_of_pos _ (by decide)⟩
    have hby := byteAt0 (i : Int) (IntKind.u8.wrap (i : Int))
    have hA1 : (chA i).length ≤ 1 := by unfold chA; split <;> simp
    have hVl : V.length ≤ 60 := by have := hR.le; omega
    have ha : adB (chn xs i).length (xs[i] % 6) (i : Int) (bt1 (IntKind.u8.wrap (i : Int))) V.length (chA i) = 0 := adB_zero (by omega) (by omega) (fun x hx => by
      unfold chA at hx
      split at hx
      · cases hx
      · rw [List.mem_singleton.1 hx, hlen]; omega) (by omega)
    have hnew := chn_new xs h60
    rw [hx] at hnew
    have hadd := fun (H : HL) (nx : Nat) (hd : lookH H 1 = some (true, .ab (depX V (i : Nat)))) (hu : lookH H 3 = some (true, .own 3 1 (chA i).length (ivs (chA i)))) => addX (nx := nx) (xs := chA i) (by rw [hlen]; exact hd) (SlQ.own hu hd (by decide)) (by omega) (by rw [bt1_size]; decide) hR ha
    have hrn := rnds_succ xs i
    rw [hx] at hrn
    have hrl := rnds_le xs i
    have hls : lstA xs (i + 1) = xs[i] % 6 := by rw [lstA, if_neg (by omega), Nat.add_sub_cancel, hx]
    have hn1 : (((chn xs i).length : Nat) : Int) + 1 = ((i + 1 : Nat) : Int) := by rw [hlen]; omega
    rw [hn1] at hadd
    have g2 : (((i + 1 : Nat) : Int) != IntKind.i64.wrap ((i : Int) + 1)) = false := by rw [w2]; simp
    have hcA : chA (i + 1) = [((i + 1 : Nat) : Int)] := if_neg (by omega)
    generalize xs[i] % 6 = a at *
    refine rn [(31, .dec true), (37, .ld [iT xs[i]]), (38, .ret (.t (.c (iT a)))), (45, .ret (.t (.agg [iT i, .s (bt1 (IntKind.u8.wrap (i : Int)))]))), (47, .spec ⟨.tup [.c (iT ((i + 1 : Nat) : Int)), .c (iT 0)], [], [(1, some (.ab (adX V (chn xs i).length (newC (und (chn xs i)) (chn xs i).length a ((i : Int), bt1 (IntKind.u8.wrap (i : Int))) (chA i)))))], []⟩), (20011, .dec true)] rfl (by (repeat' (first | exact trivial | exact rfl | exact trivial | exact fun _ => trivial | first | exact hc | exact e1 | exact b0 | exact b1 | exact am | exact hby | exact hadd _ _ rfl rfl | decide | refine And.intro ?_ ?_))) ?_
    refine At.growR 1 2 rfl rfl (by decide) hR ha (by omega) (by rw [bt1_size]; decide) (by rw [hlen]; omega) hnew fun V' W' hR' => ?_
    rw [chn_len]
    cases hs : (a != lstA xs i) with
    | true =>
      have hne : ¬ a = lstA xs i := by simpa using hs
      rw [if_neg hne] at hrn
      have w4 : IntKind.i64.wrap ((rnds xs i : Nat) + 1) = ((rnds xs (i + 1) : Nat) : Int) := by rw [hrn, wrap_sm (by omega) (by omega)]; omega
      refine rn [(52, .dec false), (57, .dec false), (59, .dec true), (62, .dec true)] rfl (by (repeat' (first | exact trivial | exact rfl | exact trivial | exact fun _ => trivial | first | exact g2 | exact hs | rfl | refine And.intro ?_ ?_))) ?_
      exact roundEnd ⟨i + 1, V', W', by omega, by omega, hR'⟩ [(3, 4)] (by show xs.length - (i + 1) < xs.length - i; omega) (by (repeat' (first | exact trivial | exact rfl | exact w2 | exact fun _ => w2 | first | exact w2 | exact w4 | exact hls.symm | refine And.intro ?_ ?_))) (by (repeat' (first | exact trivial | exact rfl | exact trivial | exact fun _ => trivial | (rw [hcA]; rfl) | refine And.intro ?_ ?_))) rfl
    | false =>
      have he : a = lstA xs i := by simpa using hs
      rw [if_pos he, Nat.add_zero] at hrn
      refine rn [(52, .dec false), (57, .dec false), (59, .dec true), (62, .dec false)] rfl (by (repeat' (first | exact trivial | exact rfl | exact trivial | exact fun _ => trivial | first | exact g2 | exact hs | rfl | refine And.intro ?_ ?_))) ?_
      exact roundEnd ⟨i + 1, V', W', by omega, by omega, hR'⟩ [(3, 4)] (by show xs.length - (i + 1) < xs.length - i; omega) (by (repeat' (first | exact trivial | exact rfl | exact w2 | exact fun _ => w2 | first | exact w2 | exact congrArg (fun n : Nat => (n : Int)) hrn.symm | exact hls.symm | refine And.intro ?_ ?_))) (by (repeat' (first | exact trivial | exact rfl | exact trivial | exact fun _ => trivial | (rw [hcA]; rfl) | refine And.intro ?_ ?_))) rfl
  | false =>
    refine rn [(31, .dec false)] rfl (by (repeat' (first | exact trivial | exact rfl | exact trivial | exact fun _ => trivial | exact hc | refine And.intro ?_ ?_))) (roundExit rfl ?_)
    have hrl := rnds_le xs i
    refine rnA [] rfl (by repeat' (first | exact trivial | exact rfl | refine And.intro ?_ ?_)) ?_
    refine At.loop (X := (k : Nat) ×' (j : Nat) ×' (a : Int) ×' (R : List Ch) ×' (V : DV) ×' (W : List (List Int × Option Addr × Nat)) ×' (k ≤ rnds xs i ∧ R.length ≤ 60 ∧ DR V W R ∧ ChIn R j a (rnds xs i - k))) 4 (fun x => rnds xs i - x.1)
      (fun x => [(3, .t (.c (.nm 1))), (66, .t (.c (iT (rnds xs i : Nat)))), (67, .t (.c (iT (x.1 : Nat))))])
      (fun x => [(1, some (true, .ab (depX x.2.2.2.2.1 (x.2.2.2.1.length : Nat)))), (2, some (true, .ab (frzP x.2.2.2.2.2.1)))])
      ⟨0, 0, -1, chn xs i, V, W, by omega, by omega, hR, chn_ok xs i, by omega, by simp [rnds], fun h => by rw [chn_at]; show ¬ _ % 6 = -1; omega⟩ [] (fun x => wf rfl rfl) (by repeat' (first | exact trivial | exact rfl | refine And.intro ?_ ?_)) (by (repeat' (first | exact trivial | exact rfl | exact trivial | exact fun _ => trivial | exact congrArg (fun n : Nat => depX V (n : Int)) hlen.symm | refine And.intro ?_ ?_))) rfl fun x => ?_
    obtain ⟨k, j, a0, R, V, W, hk, hRl, hR, hI⟩ := x
    have w5 : IntKind.i64.wrap ((k : Int) + 1) = ((k + 1 : Nat) : Int) := by rw [wrap_sm (by omega) (by omega)]; omega
    refine rn [] rfl (by repeat' (first | exact trivial | exact rfl | refine And.intro ?_ ?_)) ?_
    refine ⟨fun h => ?_, fun h => ?_⟩
    · have hlt : k < rnds xs i := by have : (k : Int) < (rnds xs i : Int) := of_decide_eq_true h; omega
      clear h
      obtain ⟨n, hn⟩ : ∃ n, rnds xs i - k = n + 1 := ⟨rnds xs i - k - 1, by omega⟩
      rw [hn] at hI
      have hj := hI.lt
      have hnx := hI.next
      have hC := hI.1
      have hs1 := hC.secs1 hj
      have hrd := hC.rdy R[j].at'
      have hsd := hC.sd R[j].at'
      have hof := hC.ofN0 R[j].at'
      have hsf := hC.sent_of R[j].at'
      have hrp : 0 < runL R[j].at' (R.drop j) := by rw [drop_cons hj, runL, if_pos rfl]; omega
      have hrle := runL_le R[j].at' (R.drop j)
      rw [List.length_drop] at hrle
      have hdr1 := hR.send R[j].at'
      have hdr2 := hdr1.done R[j].at'
      rw [hsd.1] at hdr1 hdr2
      have p1 := fun (H : HL) (nx : Nat) (hd : lookH H 1 = some (true, .ab (depX V R.length))) (hq : lookH H 2 = some (true, .ab (frzP W))) => sectorsX (nx := nx) hd hq (by decide) hR
      rw [hs1] at p1
      have p2 := fun (H : HL) (nx : Nat) (hd : lookH H 1 = some (true, .ab (depX V R.length))) (hq : lookH H 2 = some (true, .ab (frzP W))) => sendX (nx := nx) hd hq (by decide) hR R[j].at'
      have e0 : sdE' R R[j].at' = 0 := by
        rw [sdE', hof, if_pos (show ([] : List Int).length = 0 from rfl), hrd, numsL_len, if_neg (by omega)]
      rw [e0, hsd.2, hrd] at p2
      have hl1 : (setN (rdyN R R[j].at') 2 R).length = R.length := setN_len _ _ _
      have p3 := fun (H : HL) (nx : Nat) (hd : lookH H 1 = some (true, .ab (depX (sdV V R[j].at') R.length))) => doneX (nx := nx) (R := setN (rdyN R R[j].at') 2 R) (by rw [hl1]; exact hd) hdr1 R[j].at'
      have e2 : dnE' (setN (rdyN R R[j].at') 2 R) R[j].at' = 0 := by rw [dnE', hsf, hrd, numsL_len, if_neg (by omega)]
      rw [e2, hsf, hl1, hrd] at p3
      have hRn : setK R[j].at' 0 (setN (rdyN R R[j].at') 2 R) = roundC R[j].at' R := rfl
      have hl2 : (roundC R[j].at' R).length = R.length := roundC_len _ _
      rw [hRn] at hdr2
      have hm : (numsL j (runL R[j].at' (R.drop j))).length = runL R[j].at' (R.drop j) := numsL_len _ _
      have hnat := fun (t : Nat) (h : t < (numsL j (runL R[j].at' (R.drop j))).length) => numsL_at h
      generalize hA : numsL j (runL R[j].at' (R.drop j)) = A at *
      generalize hat : R[j].at' = at' at *
      generalize sdV V at' = V1 at *
      generalize dnV V1 at' = V2 at *
      have g1 : ((A.length : Int) == 0) = false := by simp; exact fun h => by rw [h] at hm; simp at hm; omega
      have e5 : (ivs [at'])[(0 : Int).toNat * 1]? = some (.int .i64 at') := rfl
      refine rn [(70, .spec ⟨.t (.c (.nm 4)), [(true, .own 3 1 1 (ivs [at']))], [(1, some (.ab (depX V R.length)))], []⟩), (73, .dec false), (78, .ld [iT at']), (79, .spec ⟨.tup [.c (.nm 5), .c (iT 0)], [(true, .own 3 1 A.length (ivs A))], [(1, some (.ab (depX V1 R.length)))], []⟩), (86, .ld [iT at']), (87, .spec ⟨.tup [.c (.nm 6), .c (iT 0)], [(true, .own 3 1 A.length (ivs A))], [(1, some (.ab (depX V2 R.length)))], []⟩),
        (92, .dec false), (96, .dec false), (101, .dec false), (104, .spec ⟨.t (.c (.b (decide (A = A)))), [], [], []⟩), (106, .dec false)] rfl
        (by (repeat' (first | exact trivial | exact rfl | exact trivial | exact fun _ => trivial | first | exact p1 _ _ rfl rfl | exact p2 _ _ rfl rfl | exact p3 _ _ rfl | exact g1 | exact e5 | exact sameInts_h (l1 := A) (l2 := A) (SlR.own rfl) (SlR.own rfl) (by omega) | (rw [sameI_true]; rfl) | rfl | decide | refine And.intro ?_ ?_))) ?_
      refine At.loop (X := (t : Nat) ×' (1 ≤ t ∧ t ≤ A.length)) 7 (fun y => A.length - y.1)
        (fun y => [(3, .t (.c (.nm 1))), (12, .t (.c (.nm 5))), (16, .t (.c (iT (y.1 : Nat)))), (66, .t (.c (iT (rnds xs i : Nat)))), (67, .t (.c (iT (k : Nat))))])
        (fun y => [(1, some (true, .ab (depX V2 (R.length : Nat)))), (2, some (true, .ab (frzP W))), (5, some (true, .own 3 1 A.length (ivs A)))])
        ⟨1, by omega, by omega⟩ [] (fun x => wf rfl rfl) (by repeat' (first | exact trivial | exact rfl | refine And.intro ?_ ?_)) (by repeat' (first | exact trivial | exact rfl | refine And.intro ?_ ?_)) rfl fun y => ?_
      obtain ⟨t, ht1, ht2⟩ := y
      have w6 : IntKind.i64.wrap ((t : Int) + 1) = ((t + 1 : Nat) : Int) := by rw [wrap_sm (by omega) (by omega)]; omega
      refine rn [] rfl (by repeat' (first | exact trivial | exact rfl | refine And.intro ?_ ?_)) ?_
      refine ⟨fun h => ?_, fun h => ?_⟩
      · have htl : t < A.length := by have : (t : Int) < (A.length : Int) := of_decide_eq_true h; omega
        have c1 : (ivs A)[(t : Int).toNat * 1]? = some (.int .i64 A[t]) := by simpa using ivs_at htl
        have w7 : IntKind.i64.wrap ((t : Int) - 1) = ((t - 1 : Nat) : Int) := by rw [wrap_sm (by omega) (by omega)]; omega
        have htl' : t - 1 < A.length := by omega
        have c2 : (ivs A)[(IntKind.i64.wrap ((t : Int) - 1)).toNat * 1]? = some (.int .i64 A[t - 1]) := by rw [w7]; simpa using ivs_at htl'
        have d0 : (0 : Int) ≤ (t : Int) := by omega
        have d1 : (t : Int) < (A.length : Int) := by omega
        have d2 : (0 : Int) ≤ IntKind.i64.wrap ((t : Int) - 1) := by omega
        have d3 : IntKind.i64.wrap ((t : Int) - 1) < (A.length : Int) := by omega
        have q1 := hnat t htl
        have q2 := hnat (t - 1) htl'
        have g3 : (A[t] != IntKind.i64.wrap (A[t - 1] + 1)) = false := by
          rw [q1, q2, wrap_sm (by omega) (by omega)]
          simp
          omega
        refine rn [(116, .ld [iT A[t]]), (121, .ld [iT A[t - 1]]), (123, .dec false)] rfl (by (repeat' (first | exact trivial | exact rfl | exact trivial | exact fun _ => trivial | first | exact c1 | exact c2 | exact d0 | exact d1 | exact d2 | exact d3 | exact g3 | decide | refine And.intro ?_ ?_))) ?_
        exact roundEnd ⟨t + 1, by omega, by omega⟩ [] (by show A.length - (t + 1) < A.length - t; omega) (by (repeat' (first | exact trivial | exact rfl | exact w6 | exact fun _ => w6 | refine And.intro ?_ ?_))) (by repeat' (first | exact trivial | exact rfl | refine And.intro ?_ ?_)) rfl
      · refine rn [] rfl (by repeat' (first | exact trivial | exact rfl | refine And.intro ?_ ?_)) (roundExit rfl ?_)
        refine rnA [] rfl (by repeat' (first | exact trivial | exact rfl | refine And.intro ?_ ?_)) ?_
        exact roundEnd ⟨k + 1, j + runL at' (R.drop j), at', roundC at' R, V2, W, by omega, by omega, hdr2, by rw [show rnds xs i - (k + 1) = n by omega]; exact hnx⟩ [] (by show rnds xs i - (k + 1) < rnds xs i - k; omega) (by (repeat' (first | exact trivial | exact rfl | exact w5 | exact fun _ => w5 | refine And.intro ?_ ?_))) (by (repeat' (first | exact trivial | exact rfl | exact trivial | exact fun _ => trivial | exact congrArg (fun n : Nat => depX V2 (n : Int)) hl2.symm | refine And.intro ?_ ?_))) rfl
    · have hge : rnds xs i ≤ k := by have : ¬ (k : Int) < (rnds xs i : Int) := of_decide_eq_false h; omega
      rw [show rnds xs i - k = 0 by omega] at hI
      have hend := hI.end
      have hund := hI.1.none hend
      have hsec := hI.1.secs0 hend
      have q1 := fun (H : HL) (nx : Nat) (hd : lookH H 1 = some (true, .ab (depX V R.length))) => leftX (nx := nx) (at' := []) hd SlQ.nil (by decide) hR
      have q2 := fun (H : HL) (nx : Nat) (hd : lookH H 1 = some (true, .ab (depX V R.length))) (hq : lookH H 2 = some (true, .ab (frzP W))) => sectorsX (nx := nx) hd hq (by decide) hR
      have q3 := fun (H : HL) (nx : Nat) (hd : lookH H 1 = some (true, .ab (depX V R.length))) => allX (nx := nx) hd hR
      rw [hund] at q1 q2 q3
      rw [show secs [] = [] by simp [secs, atK, srtI]] at q2
      refine rn [] rfl (by repeat' (first | exact trivial | exact rfl | refine And.intro ?_ ?_)) (roundExit rfl ?_)
      refine rnA [(126, .spec ⟨.t (.c (iT 0)), [], [(1, some (.ab (depX V R.length)))], []⟩), (128, .dec true), (130, .spec ⟨.t (.c (.nm 4)), [(true, .own 3 1 0 (ivs []))], [(1, some (.ab (depX V R.length)))], []⟩), (134, .dec true), (136, .spec ⟨.t (.c (.nm 5)), [(true, .own 3 1 0 (ivs []))], [(1, some (.ab (depX V R.length)))], []⟩)] rfl (by (repeat' (first | exact trivial | exact rfl | exact trivial | exact fun _ => trivial | first | exact q1 _ _ rfl | exact q2 _ _ rfl rfl | exact q3 _ _ rfl | rfl | refine And.intro ?_ ?_))) ?_
      exact ret0 tysOk rfl (by repeat' (first | exact trivial | exact rfl | refine And.intro ?_ ?_)) rfl
end Cw
namespace Cw
open Go Vc
open Go.Proofs
theorem depsChain_true (xs : List Int) (A1 : Option Addr) (c1 : Nat) (w : World) (zl : xs.length ≤ 100000000000000) (h1 : Vc.Rds w A1 xs.length c1 1 (ivs xs)) :
    Calls Try.prog 4 #[.slice A1 xs.length c1] w fun e w' => e = .returned (.bool true) ∧ RowKit.Below w.heap.size w w' := by
  obtain ⟨e, M, v0⟩ := memr1 h1
  have := fnh_law (depsChain_h xs zl) rfl rfl M
  rw [show ([.c (.nm 0)] : List TV).map (TV.den e) = [e.val 0] from rfl, v0] at this
  exact this
end Cw
