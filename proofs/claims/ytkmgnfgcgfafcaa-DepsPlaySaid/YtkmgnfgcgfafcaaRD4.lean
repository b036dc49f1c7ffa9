/- The document's changes (cutwaterref12), by reckoning: how many are left, the sectors that may be sent. -/
import Derived.Test.YtkmgnfgcgfafcaaRD
import Derived.Test.YtkmgnfgcgfafcaaDepC
namespace Cw
open Go Vc
open Go.Proofs
set_option maxRecDepth 100000
def inA (zs : List Int) (a : Int) : Bool := zs.length == 0 || zs.contains a
def inT (zs : List Int) (a : Int) (t : Nat) : Bool := zs.length == 0 || (zs.take t).contains a
theorem inT0 (zs : List Int) (a : Int) : ((zs.length : Int) == 0) = inT zs a 0 := by
  rw [inT, Bool.eq_iff_iff]
  simp
theorem inT_all (zs : List Int) (a : Int) : inT zs a zs.length = inA zs a := by rw [inT, inA, List.take_length]
theorem inT_succ {zs : List Int} {a : Int} {t : Nat} (h : t < zs.length) : inT zs a (t + 1) = (inT zs a t || zs[t] == a) := by
  have e : (zs.take (t + 1)).contains a = ((zs.take t).contains a || zs[t] == a) := by
    rw [List.take_succ_eq_append_getElem h, Bool.eq_iff_iff, Bool.or_eq_true, List.contains_iff_mem, List.contains_iff_mem, List.mem_append, List.mem_singleton, beq_iff_eq]
    exact ⟨fun h => h.imp id fun e => e.symm, fun h => h.imp id fun e => e.symm⟩
  rw [inT, inT, e, Bool.or_assoc]
def lfT (R : List Ch) (zs : List Int) (i : Nat) : Nat := ((R.take i).filter fun c => inA zs c.at' && c.st != 0).length
theorem lfT_succ {R : List Ch} {zs : List Int} {i : Nat} (h : i < R.length) : lfT R zs (i + 1) = if (inA zs R[i].at' && R[i].st != 0) = true then lfT R zs i + 1 else lfT R zs i := by
  rw [lfT, List.take_succ_eq_append_getElem h, List.filter_append, List.length_append, ← lfT]
  split
  · rename_i h1
    rw [filt1 (fun c : Ch => inA zs c.at' && c.st != 0) h1]; rfl
  · rename_i h1
    rw [filt0 (fun c : Ch => inA zs c.at' && c.st != 0) h1]; rfl
theorem lfT_le (R : List Ch) (zs : List Int) (i : Nat) : lfT R zs i ≤ R.length := Nat.le_trans (List.length_filter_le _ _) (List.length_take_le' _ _)
theorem leftT_eq (L : List Ch) (zs : List Int) : ∀ j, j ≤ L.length → leftT L zs j = ((L.take j).filter fun c => decide (c.at' ∈ zs)).length
  | 0, _ => by simp [leftT]
  | j + 1, h => by
    have hj : j < L.length := h
    rw [leftT, List.getElem?_eq_getElem hj, List.take_succ_eq_append_getElem hj, List.filter_append, List.length_append, ← leftT_eq L zs j (by omega)]
    simp only
    split
    · rename_i h1
      rw [filt1 (fun c : Ch => decide (c.at' ∈ zs)) h1]; rfl
    · rename_i h1
      rw [filt0 (fun c : Ch => decide (c.at' ∈ zs)) h1]; rfl
theorem lfT_all (R : List Ch) (zs : List Int) : lfT R zs R.length = leftA (und R) zs := by
  rw [lfT, List.take_length, leftA]
  by_cases h0 : zs.length = 0
  · rw [if_pos h0, und]
    congr 1
    refine List.filter_congr fun c _ => ?_
    simp [inA, h0]
  · rw [if_neg h0, leftT_eq _ _ _ (Nat.le_refl _), List.take_length, und, List.filter_filter]
    congr 1
    refine List.filter_congr fun c _ => ?_
    have : (zs.length == 0) = false := by simpa using h0
    rw [inA, this, Bool.false_or, Bool.eq_iff_iff]
    simp
section
variable {H : HL} {nx d l q m : Nat} {b1 b2 b3 b4 : Bool} {V : DV} {W : List (List Int × Option Addr × Nat)} {R : List Ch}
set_option maxRecDepth 100000 in
set_option maxHeartbeats 4000000 in
theorem rleftU (hd : lookH H d = some (b1, .cells [.nm l] 28)) (hl : lookH H l = some (b2, .rd 5 V.length (rdc V))) (hq : lookH H q = some (b3, .ab (frzP W))) {zs : List Int} (hm : lookH H m = some (b4, .own 3 1 zs.length (ivs zs))) (h : RR V W R) (za : zs.length ≤ 1000) :
    FnH Try.prog 38 [.c (.p d 0), .c (.nm m)] H nx ⟨.t (.c (iT (leftA (und R) zs : Nat))), [], [], []⟩ := by
  refine fnR (fn := Try.f38) 58 rfl rfl rfl (args' := [.c (.p 0 0), .c (.nm 3)]) (H' := hRm V W zs) (nx' := 4) (fun e w M => ⟨_, mem_rd (r4p d l q m) (H' := hRm V W zs) ⟨⟨b1, hd⟩, ⟨b2, hl⟩, ⟨b3, hq⟩, ⟨b4, hm⟩, trivial⟩ M, rfl⟩) rfl rfl rfl rfl fun w => ?_
  show At _ _ _ _ _ _ [(0, some (false, .cells [.nm 1] 28)), (1, some (false, .rd 5 V.length (rdc V))), (2, some (false, .ab (frzP W))), (3, some (false, .own 3 1 zs.length (ivs zs)))] 4
  have hVl := h.len
  have hz := h.z
  refine rn [] rfl (by repeat' (first | exact trivial | exact rfl | refine And.intro ?_ ?_)) ?_
  refine At.loop (X := (i : Nat) ×' (i ≤ V.length)) 4 (fun x => V.length - x.1)
    (fun x => [(0, .t (.c (.p 0 0))), (1, .t (.c (.nm 3))), (5, .t (.c (iT (lfT R (zs) x.1 : Nat)))), (6, .t (.c (iT (x.1 : Nat))))])
    (fun _ => [(0, some (false, .cells [.nm 1] 28)), (1, some (false, .rd 5 V.length (rdc V))), (3, some (false, .own 3 1 (zs).length (ivs (zs))))]) ⟨0, by omega⟩ [] (fun x => wf rfl rfl) (by (repeat' (first | exact trivial | exact rfl | exact trivial | exact fun _ => trivial | rfl | refine And.intro ?_ ?_))) (by repeat' (first | exact trivial | exact rfl | refine And.intro ?_ ?_)) rfl fun x => ?_
  obtain ⟨i, hi⟩ := x
  have w3 : IntKind.i64.wrap ((i : Int) + 1) = ((i + 1 : Nat) : Int) := by rw [wrap_sm (by omega) (by omega)]; omega
  refine rn [] rfl (by repeat' (first | exact trivial | exact rfl | refine And.intro ?_ ?_)) ?_
  refine ⟨fun h1 => ?_, fun h1 => ?_⟩
  · have hlt : i < V.length := by have : (i : Int) < (V.length : Int) := of_decide_eq_true h1; omega
    clear h1
    have hlR : i < R.length := by omega
    obtain ⟨f0, _, _, f4⟩ := rdc_f hlt
    rw [h.at hlt hlR] at f0 f4
    have b0 : (0 : Int) ≤ (i : Int) := by omega
    have b1 : (i : Int) < (V.length : Int) := by omega
    have c5 : (i : Int).toNat * 5 < (rdc V).length := by rw [rdc_length]; omega
    have hsu := lfT_succ (zs := (zs)) hlR
    have hle := lfT_le R (zs) i
    have wn : IntKind.i64.wrap ((lfT R (zs) i : Nat) + 1) = ((lfT R (zs) i + 1 : Nat) : Int) := by rw [wrap_sm (by omega) (by omega)]; omega
    have i0 : (((zs).length : Int) == 0) = inT (zs) R[i].at' 0 := inT0 (zs) R[i].at'
    refine rn [] rfl (by repeat' (first | exact trivial | exact rfl | refine And.intro ?_ ?_)) ?_
    refine At.loop (X := (t : Nat) ×' (t ≤ (zs).length)) 4 (fun x => (zs).length - x.1)
      (fun x => [(0, .t (.c (.p 0 0))), (1, .t (.c (.nm 3))), (5, .t (.c (iT (lfT R (zs) i : Nat)))), (6, .t (.c (iT (i : Nat)))), (7, .t (.c (.b (inT (zs) R[i].at' x.1)))), (8, .t (.c (iT (x.1 : Nat))))])
      (fun _ => [(0, some (false, .cells [.nm 1] 28)), (1, some (false, .rd 5 V.length (rdc V))), (3, some (false, .own 3 1 (zs).length (ivs (zs))))]) ⟨0, by omega⟩ [] (fun x => wf rfl rfl) (by (repeat' (first | exact trivial | exact rfl | exact trivial | exact fun _ => trivial | exact i0 | refine And.intro ?_ ?_))) (by repeat' (first | exact trivial | exact rfl | refine And.intro ?_ ?_)) rfl fun x => ?_
    obtain ⟨t, ht⟩ := x
    have w4 : IntKind.i64.wrap ((t : Int) + 1) = ((t + 1 : Nat) : Int) := by rw [wrap_sm (by omega) (by omega)]; omega
    refine rn [] rfl (by repeat' (first | exact trivial | exact rfl | refine And.intro ?_ ?_)) ?_
    refine ⟨fun h1 => ?_, fun h1 => ?_⟩
    · have htl : t < (zs).length := by have : (t : Int) < ((zs).length : Int) := of_decide_eq_true h1; omega
      clear h1
      have e2 : (ivs (zs))[(t : Int).toNat * 1]? = some (.int .i64 (zs)[t]) := by simpa using ivs_at htl
      have t0 : (0 : Int) ≤ (t : Int) := by omega
      have t1 : (t : Int) < ((zs).length : Int) := by omega
      have hins := inT_succ (a := R[i].at') htl
      cases ci : inT (zs) R[i].at' t with
      | true =>
        rw [ci, Bool.true_or] at hins
        refine rn [(28, .dec true)] rfl (by (repeat' (first | exact trivial | exact rfl | exact trivial | exact fun _ => trivial | first | exact ci | rfl | refine And.intro ?_ ?_))) ?_
        exact roundEnd ⟨t + 1, by omega⟩ [] (by show (zs).length - (t + 1) < (zs).length - t; omega) (by (repeat' (first | exact trivial | exact rfl | exact w4 | exact fun _ => w4 | first | exact w4 | exact hins.symm | (rw [hins]; exact ci) | (rw [hins]; simp) | refine And.intro ?_ ?_))) (by repeat' (first | exact trivial | exact rfl | refine And.intro ?_ ?_)) rfl
      | false =>
        rw [ci, Bool.false_or] at hins
        refine rn [(28, .dec false), (32, .ld [iT (zs)[t]]), (40, .ld [iT R[i].at'])] rfl (by (repeat' (first | exact trivial | exact rfl | exact trivial | exact fun _ => trivial | first | exact ci | exact e2 | exact ⟨e2, trivial⟩ | exact f0 | exact ⟨f0, trivial⟩ | exact b0 | exact b1 | exact c5 | exact t0 | exact t1 | rfl | decide | refine And.intro ?_ ?_))) ?_
        exact roundEnd ⟨t + 1, by omega⟩ [] (by show (zs).length - (t + 1) < (zs).length - t; omega) (by (repeat' (first | exact trivial | exact rfl | exact w4 | exact fun _ => w4 | first | exact w4 | exact hins.symm | (rw [hins]; done) | (rw [hins]; simp [ci]) | refine And.intro ?_ ?_))) (by repeat' (first | exact trivial | exact rfl | refine And.intro ?_ ?_)) rfl
    · have hge : t = (zs).length := by have : ¬ (t : Int) < ((zs).length : Int) := of_decide_eq_false h1; omega
      have hin : inT (zs) R[i].at' t = inA (zs) R[i].at' := by rw [hge]; exact inT_all (zs) _
      refine rn [] rfl (by repeat' (first | exact trivial | exact rfl | refine And.intro ?_ ?_)) (roundExit rfl ?_)
      rw [hin]
      cases ca : inA (zs) R[i].at' with
      | false =>
        rw [ca, Bool.false_and, if_neg (by decide)] at hsu
        refine rnA [(44, .dec false), (54, .dec false)] rfl (by (repeat' (first | exact trivial | exact rfl | exact trivial | exact fun _ => trivial | first | exact ca | rfl | refine And.intro ?_ ?_))) ?_
        exact roundEnd ⟨i + 1, by omega⟩ [] (by show V.length - (i + 1) < V.length - i; omega) (by (repeat' (first | exact trivial | exact rfl | exact w3 | exact fun _ => w3 | first | exact w3 | exact congrArg (fun n : Nat => (n : Int)) hsu.symm | refine And.intro ?_ ?_))) (by repeat' (first | exact trivial | exact rfl | refine And.intro ?_ ?_)) rfl
      | true =>
        rw [ca, Bool.true_and] at hsu
        cases cs : R[i].st != 0 with
        | true =>
          rw [cs, if_pos rfl] at hsu
          refine rnA [(44, .dec true), (52, .ld [iT R[i].st]), (54, .dec true)] rfl (by (repeat' (first | exact trivial | exact rfl | exact trivial | exact fun _ => trivial | first | exact ca | exact cs | exact f4 | exact ⟨f4, trivial⟩ | exact b0 | exact b1 | exact c5 | rfl | decide | refine And.intro ?_ ?_))) ?_
          exact roundEnd ⟨i + 1, by omega⟩ [] (by show V.length - (i + 1) < V.length - i; omega) (by (repeat' (first | exact trivial | exact rfl | exact w3 | exact fun _ => w3 | first | exact w3 | (rw [hsu]; exact wn) | refine And.intro ?_ ?_))) (by repeat' (first | exact trivial | exact rfl | refine And.intro ?_ ?_)) rfl
        | false =>
          rw [cs, if_neg (by decide)] at hsu
          refine rnA [(44, .dec true), (52, .ld [iT R[i].st]), (54, .dec false)] rfl (by (repeat' (first | exact trivial | exact rfl | exact trivial | exact fun _ => trivial | first | exact ca | exact cs | exact f4 | exact ⟨f4, trivial⟩ | exact b0 | exact b1 | exact c5 | rfl | decide | refine And.intro ?_ ?_))) ?_
          exact roundEnd ⟨i + 1, by omega⟩ [] (by show V.length - (i + 1) < V.length - i; omega) (by (repeat' (first | exact trivial | exact rfl | exact w3 | exact fun _ => w3 | first | exact w3 | exact congrArg (fun n : Nat => (n : Int)) hsu.symm | refine And.intro ?_ ?_))) (by repeat' (first | exact trivial | exact rfl | refine And.intro ?_ ?_)) rfl
  · have hge : i = V.length := by have : ¬ (i : Int) < (V.length : Int) := of_decide_eq_false h1; omega
    have hw : lfT R (zs) i = leftA (und R) (zs) := by rw [hge, hVl]; exact lfT_all R (zs)
    refine rn [] rfl (by repeat' (first | exact trivial | exact rfl | refine And.intro ?_ ?_)) (roundExit rfl ?_)
    rw [hw]
    refine rnA [] rfl (by repeat' (first | exact trivial | exact rfl | refine And.intro ?_ ?_)) ?_
    exact ret0 tysOk rfl (by repeat' (first | exact trivial | exact rfl | refine And.intro ?_ ?_)) rfl
set_option maxRecDepth 100000 in
set_option maxHeartbeats 4000000 in
theorem rleftN (hd : lookH H d = some (b1, .cells [.nm l] 28)) (hl : lookH H l = some (b2, .rd 5 V.length (rdc V))) (hq : lookH H q = some (b3, .ab (frzP W))) (h : RR V W R) :
    FnH Try.prog 38 [.c (.p d 0), .c .nsl] H nx ⟨.t (.c (iT ((und R).length : Nat))), [], [], []⟩ := by
  rw [show (und R).length = leftA (und R) [] from rfl]
  refine fnR (fn := Try.f38) 58 rfl rfl rfl (args' := [.c (.p 0 0), .c .nsl]) (H' := hRr V W) (nx' := 3) (fun e w M => ⟨_, mem_rd (r3p d l q) (memRr hd hl hq) M, rfl⟩) rfl rfl rfl rfl fun w => ?_
  show At _ _ _ _ _ _ [(0, some (false, .cells [.nm 1] 28)), (1, some (false, .rd 5 V.length (rdc V))), (2, some (false, .ab (frzP W)))] 3
  have hVl := h.len
  have hz := h.z
  refine At.nil 1 3 1 rfl ?_
  have za : ([] : List Int).length ≤ 1000 := by decide
  refine rn [] rfl (by repeat' (first | exact trivial | exact rfl | refine And.intro ?_ ?_)) ?_
  refine At.loop (X := (i : Nat) ×' (i ≤ V.length)) 4 (fun x => V.length - x.1)
    (fun x => [(0, .t (.c (.p 0 0))), (1, .t (.c (.nm 3))), (5, .t (.c (iT (lfT R ([] : List Int) x.1 : Nat)))), (6, .t (.c (iT (x.1 : Nat))))])
    (fun _ => [(0, some (false, .cells [.nm 1] 28)), (1, some (false, .rd 5 V.length (rdc V))), (3, some (false, .own 3 1 ([] : List Int).length (ivs ([] : List Int))))]) ⟨0, by omega⟩ [] (fun x => wf rfl rfl) (by (repeat' (first | exact trivial | exact rfl | exact trivial | exact fun _ => trivial | rfl | refine And.intro ?_ ?_))) (by repeat' (first | exact trivial | exact rfl | refine And.intro ?_ ?_)) rfl fun x => ?_
  obtain ⟨i, hi⟩ := x
  have w3 : IntKind.i64.wrap ((i : Int) + 1) = ((i + 1 : Nat) : Int) := by rw [wrap_sm (by omega) (by omega)]; omega
  refine rn [] rfl (by repeat' (first | exact trivial | exact rfl | refine And.intro ?_ ?_)) ?_
  refine ⟨fun h1 => ?_, fun h1 => ?_⟩
  · have hlt : i < V.length := by have : (i : Int) < (V.length : Int) := of_decide_eq_true h1; omega
    clear h1
    have hlR : i < R.length := by omega
    obtain ⟨f0, _, _, f4⟩ := rdc_f hlt
    rw [h.at hlt hlR] at f0 f4
    have b0 : (0 : Int) ≤ (i : Int) := by omega
    have b1 : (i : Int) < (V.length : Int) := by omega
    have c5 : (i : Int).toNat * 5 < (rdc V).length := by rw [rdc_length]; omega
    have hsu := lfT_succ (zs := ([] : List Int)) hlR
    have hle := lfT_le R ([] : List Int) i
    have wn : IntKind.i64.wrap ((lfT R ([] : List Int) i : Nat) + 1) = ((lfT R ([] : List Int) i + 1 : Nat) : Int) := by rw [wrap_sm (by omega) (by omega)]; omega
    have i0 : ((([] : List Int).length : Int) == 0) = inT ([] : List Int) R[i].at' 0 := inT0 ([] : List Int) R[i].at'
    refine rn [] rfl (by repeat' (first | exact trivial | exact rfl | refine And.intro ?_ ?_)) ?_
    refine At.loop (X := (t : Nat) ×' (t ≤ ([] : List Int).length)) 4 (fun x => ([] : List Int).length - x.1)
      (fun x => [(0, .t (.c (.p 0 0))), (1, .t (.c (.nm 3))), (5, .t (.c (iT (lfT R ([] : List Int) i : Nat)))), (6, .t (.c (iT (i : Nat)))), (7, .t (.c (.b (inT ([] : List Int) R[i].at' x.1)))), (8, .t (.c (iT (x.1 : Nat))))])
      (fun _ => [(0, some (false, .cells [.nm 1] 28)), (1, some (false, .rd 5 V.length (rdc V))), (3, some (false, .own 3 1 ([] : List Int).length (ivs ([] : List Int))))]) ⟨0, by omega⟩ [] (fun x => wf rfl rfl) (by (repeat' (first | exact trivial | exact rfl | exact trivial | exact fun _ => trivial | exact i0 | refine And.intro ?_ ?_))) (by repeat' (first | exact trivial | exact rfl | refine And.intro ?_ ?_)) rfl fun x => ?_
    obtain ⟨t, ht⟩ := x
    have w4 : IntKind.i64.wrap ((t : Int) + 1) = ((t + 1 : Nat) : Int) := by rw [wrap_sm (by omega) (by omega)]; omega
    refine rn [] rfl (by repeat' (first | exact trivial | exact rfl | refine And.intro ?_ ?_)) ?_
    refine ⟨fun h1 => ?_, fun h1 => ?_⟩
    · have htl : t < ([] : List Int).length := by have : (t : Int) < (([] : List Int).length : Int) := of_decide_eq_true h1; omega
      clear h1
      have e2 : (ivs ([] : List Int))[(t : Int).toNat * 1]? = some (.int .i64 ([] : List Int)[t]) := by simpa using ivs_at htl
      have t0 : (0 : Int) ≤ (t : Int) := by omega
      have t1 : (t : Int) < (([] : List Int).length : Int) := by omega
      have hins := inT_succ (a := R[i].at') htl
      cases ci : inT ([] : List Int) R[i].at' t with
      | true =>
        rw [ci, Bool.true_or] at hins
        refine rn [(28, .dec true)] rfl (by (repeat' (first | exact trivial | exact rfl | exact trivial | exact fun _ => trivial | first | exact ci | rfl | refine And.intro ?_ ?_))) ?_
        exact roundEnd ⟨t + 1, by omega⟩ [] (by show ([] : List Int).length - (t + 1) < ([] : List Int).length - t; omega) (by (repeat' (first | exact trivial | exact rfl | exact w4 | exact fun _ => w4 | first | exact w4 | exact hins.symm | (rw [hins]; exact ci) | (rw [hins]; simp) | refine And.intro ?_ ?_))) (by repeat' (first | exact trivial | exact rfl | refine And.intro ?_ ?_)) rfl
      | false =>
        rw [ci, Bool.false_or] at hins
        refine rn [(28, .dec false), (32, .ld [iT ([] : List Int)[t]]), (40, .ld [iT R[i].at'])] rfl (by (repeat' (first | exact trivial | exact rfl | exact trivial | exact fun _ => trivial | first | exact ci | exact e2 | exact ⟨e2, trivial⟩ | exact f0 | exact ⟨f0, trivial⟩ | exact b0 | exact b1 | exact c5 | exact t0 | exact t1 | rfl | decide | refine And.intro ?_ ?_))) ?_
        exact roundEnd ⟨t + 1, by omega⟩ [] (by show ([] : List Int).length - (t + 1) < ([] : List Int).length - t; omega) (by (repeat' (first | exact trivial | exact rfl | exact w4 | exact fun _ => w4 | first | exact w4 | exact hins.symm | (rw [hins]; done) | (rw [hins]; simp [ci]) | refine And.intro ?_ ?_))) (by repeat' (first | exact trivial | exact rfl | refine And.intro ?_ ?_)) rfl
    · have hge : t = ([] : List Int).length := by have : ¬ (t : Int) < (([] : List Int).length : Int) := of_decide_eq_false h1; omega
      have hin : inT ([] : List Int) R[i].at' t = inA ([] : List Int) R[i].at' := by rw [hge]; exact inT_all ([] : List Int) _
      refine rn [] rfl (by repeat' (first | exact trivial | exact rfl | refine And.intro ?_ ?_)) (roundExit rfl ?_)
      rw [hin]
      cases ca : inA ([] : List Int) R[i].at' with
      | false =>
        rw [ca, Bool.false_and, if_neg (by decide)] at hsu
        refine rnA [(44, .dec false), (54, .dec false)] rfl (by (repeat' (first | exact trivial | exact rfl | exact trivial | exact fun _ => trivial | first | exact ca | rfl | refine And.intro ?_ ?_))) ?_
        exact roundEnd ⟨i + 1, by omega⟩ [] (by show V.length - (i + 1) < V.length - i; omega) (by (repeat' (first | exact trivial | exact rfl | exact w3 | exact fun _ => w3 | first | exact w3 | exact congrArg (fun n : Nat => (n : Int)) hsu.symm | refine And.intro ?_ ?_))) (by repeat' (first | exact trivial | exact rfl | refine And.intro ?_ ?_)) rfl
      | true =>
        rw [ca, Bool.true_and] at hsu
        cases cs : R[i].st != 0 with
        | true =>
          rw [cs, if_pos rfl] at hsu
          refine rnA [(44, .dec true), (52, .ld [iT R[i].st]), (54, .dec true)] rfl (by (repeat' (first | exact trivial | exact rfl | exact trivial | exact fun _ => trivial | first | exact ca | exact cs | exact f4 | exact ⟨f4, trivial⟩ | exact b0 | exact b1 | exact c5 | rfl | decide | refine And.intro ?_ ?_))) ?_
          exact roundEnd ⟨i + 1, by omega⟩ [] (by show V.length - (i + 1) < V.length - i; omega) (by (repeat' (first | exact trivial | exact rfl | exact w3 | exact fun _ => w3 | first | exact w3 | (rw [hsu]; exact wn) | refine And.intro ?_ ?_))) (by repeat' (first | exact trivial | exact rfl | refine And.intro ?_ ?_)) rfl
        | false =>
          rw [cs, if_neg (by decide)] at hsu
          refine rnA [(44, .dec true), (52, .ld [iT R[i].st]), (54, .dec false)] rfl (by (repeat' (first | exact trivial | exact rfl | exact trivial | exact fun _ => trivial | first | exact ca | exact cs | exact f4 | exact ⟨f4, trivial⟩ | exact b0 | exact b1 | exact c5 | rfl | decide | refine And.intro ?_ ?_))) ?_
          exact roundEnd ⟨i + 1, by omega⟩ [] (by show V.length - (i + 1) < V.length - i; omega) (by (repeat' (first | exact trivial | exact rfl | exact w3 | exact fun _ => w3 | first | exact w3 | exact congrArg (fun n : Nat => (n : Int)) hsu.symm | refine And.intro ?_ ?_))) (by repeat' (first | exact trivial | exact rfl | refine And.intro ?_ ?_)) rfl
  · have hge : i = V.length := by have : ¬ (i : Int) < (V.length : Int) := of_decide_eq_false h1; omega
    have hw : lfT R ([] : List Int) i = leftA (und R) ([] : List Int) := by rw [hge, hVl]; exact lfT_all R ([] : List Int)
    refine rn [] rfl (by repeat' (first | exact trivial | exact rfl | refine And.intro ?_ ?_)) (roundExit rfl ?_)
    rw [hw]
    refine rnA [] rfl (by repeat' (first | exact trivial | exact rfl | refine And.intro ?_ ?_)) ?_
    exact ret0 tysOk rfl (by repeat' (first | exact trivial | exact rfl | refine And.intro ?_ ?_)) rfl
/-- Is a change's sector told? -/
def okS (R : List Ch) (c : Ch) : Bool := c.st == 1 && (ofN R c.at' 2).length == 0 && !((rdyN R c.at').length == 0)
/-- A number into a row that rises, if it isn't there. -/
def insU (x : Int) (out : List Int) : List Int := if x ∈ out then out else out.takeWhile (fun y => decide (y < x)) ++ x :: out.dropWhile (fun y => decide (y < x))
def scS (R : List Ch) (l : List Ch) : List Int := l.foldl (fun o c => if okS R c then insU c.at' o else o) []
theorem scS_succ {R : List Ch} {i : Nat} (h : i < R.length) : scS R (R.take (i + 1)) = if okS R R[i] then insU R[i].at' (scS R (R.take i)) else scS R (R.take i) := by
  rw [scS, List.take_succ_eq_append_getElem h, List.foldl_append]; rfl
theorem insU_take {x : Int} : ∀ {out : List Int} {k : Nat}, k ≤ out.length → (∀ j (h : j < out.length), j < k → out[j] < x) → (∀ h : k < out.length, ¬ out[k] < x) → out.takeWhile (fun y => decide (y < x)) ++ x :: out.dropWhile (fun y => decide (y < x)) = out.take k ++ x :: out.drop k
  | [], 0, _, _, _ => rfl
  | y :: out, 0, _, _, h => by
    have hy : ¬ y < x := h (by simp)
    simp [List.takeWhile_cons, List.dropWhile_cons, hy]
  | y :: out, k + 1, h0, h1, h2 => by
    have hy : y < x := h1 0 (by simp) (by omega)
    have ih := insU_take (x := x) (out := out) (k := k) (by simpa using h0) (fun j hj hk => h1 (j + 1) (by simpa using hj) (by omega)) (fun h => h2 (by simpa using h))
    simp only [List.takeWhile_cons, List.dropWhile_cons, decide_eq_true hy, if_true, List.take_succ_cons, List.drop_succ_cons, List.cons_append] at ih ⊢
    rw [ih]
theorem mem_insU {x y : Int} {out : List Int} : y ∈ insU x out ↔ y = x ∨ y ∈ out := by
  unfold insU
  split
  · rename_i h
    exact ⟨.inr, fun h' => h'.elim (fun e => e ▸ h) id⟩
  · have h1 : y ∈ out ↔ y ∈ out.takeWhile (fun y => decide (y < x)) ∨ y ∈ out.dropWhile (fun y => decide (y < x)) := by
      rw [← List.mem_append, List.takeWhile_append_dropWhile]
    rw [List.mem_append, List.mem_cons, h1]
    exact ⟨fun h => h.elim (fun h => .inr (.inl h)) fun h => h.elim .inl fun h => .inr (.inr h), fun h => h.elim (fun h => .inr (.inl h)) fun h => h.elim .inl fun h => .inr (.inr h)⟩
theorem insU_up {x : Int} {out : List Int} (h : out.Pairwise (· < ·)) : (insU x out).Pairwise (· < ·) := by
  unfold insU
  split
  · exact h
  · rename_i hx
    induction out with
    | nil => simp
    | cons y out ih =>
      rw [List.pairwise_cons] at h
      rw [List.mem_cons, not_or] at hx
      by_cases hy : y < x
      · have := ih h.2 hx.2
        simp only [List.takeWhile_cons, List.dropWhile_cons, decide_eq_true hy, if_true, List.cons_append]
        rw [List.pairwise_cons]
        refine ⟨fun z hz => ?_, this⟩
        rcases List.mem_append.1 hz with hz | hz
        · exact h.1 z (List.takeWhile_subset _ hz)
        · rcases List.mem_cons.1 hz with rfl | hz
          · exact hy
          · exact h.1 z (List.dropWhile_subset _ hz)
      · simp only [List.takeWhile_cons, List.dropWhile_cons, decide_eq_false hy, Bool.false_eq_true, if_false, List.nil_append]
        rw [List.pairwise_cons]
        refine ⟨fun z hz => ?_, List.pairwise_cons.2 h⟩
        rcases List.mem_cons.1 hz with rfl | hz
        · omega
        · have := h.1 z hz; omega
theorem scS_ok (R : List Ch) : ∀ l : List Ch, (scS R l).Pairwise (· < ·) ∧ ∀ k, k ∈ scS R l ↔ ∃ c ∈ l, okS R c = true ∧ c.at' = k := by
  intro l
  rw [show l = l.reverse.reverse from (List.reverse_reverse l).symm]
  generalize l.reverse = M
  induction M with
  | nil => simp [scS]
  | cons c M ih =>
    obtain ⟨h1, h2⟩ := ih
    have e : scS R (c :: M).reverse = if okS R c then insU c.at' (scS R M.reverse) else scS R M.reverse := by
      rw [scS, List.reverse_cons, List.foldl_append]; rfl
    rw [e]
    have h3 : ∀ k, (∃ x ∈ (c :: M).reverse, okS R x = true ∧ x.at' = k) ↔ (∃ x ∈ M.reverse, okS R x = true ∧ x.at' = k) ∨ (okS R c = true ∧ c.at' = k) := fun k => by
      rw [List.reverse_cons]
      simp [or_and_right, exists_or]
    split
    · rename_i hc
      refine ⟨insU_up h1, fun k => ?_⟩
      rw [mem_insU, h2, h3]
      exact ⟨fun h => h.elim (fun e => .inr ⟨hc, e.symm⟩) .inl, fun h => h.elim .inr fun h => .inl h.2.symm⟩
    · rename_i hc
      refine ⟨h1, fun k => ?_⟩
      rw [h2, h3]
      exact ⟨.inl, fun h => h.elim id fun h => absurd h.1 hc⟩
theorem secs_up (L : List Ch) : (secs L).Pairwise (· < ·) := by
  have h1 : (srtI (atK L)).Pairwise (· ≤ ·) := by
    have := List.pairwise_mergeSort (le := fun x y : Int => decide (x ≤ y)) (fun a b c h1 h2 => by simp at *; omega) (fun a b => by simp; omega) (atK L)
    exact this.imp fun h => by simpa using h
  have h2 : (srtI (atK L)).Nodup := (List.mergeSort_perm _ _).nodup_iff.2 (atK_nodup L)
  have h3 : (srtI (atK L)).Pairwise (· < ·) := (h1.and (List.nodup_iff_pairwise_ne.1 h2)).imp fun h => by omega
  exact h3.sublist List.filter_sublist
theorem up_ext : ∀ {a b : List Int}, a.Pairwise (· < ·) → b.Pairwise (· < ·) → (∀ x, x ∈ a ↔ x ∈ b) → a = b := fun {a b} ha hb h =>
  List.Perm.eq_of_pairwise (le := fun x y : Int => x < y) (fun a b _ _ h1 h2 => by omega) ha hb ((List.perm_ext_iff_of_nodup (up_nodup ha) (up_nodup hb)).2 h)
theorem scS_secs {R : List Ch} (hd : DepOk R) : scS R R = secs (und R) := by
  obtain ⟨h1, h2⟩ := scS_ok R R
  refine up_ext h1 (secs_up _) fun k => ?_
  rw [h2, secs_mem, ofN_und R k (by decide), rdyN_und hd.num.nodup]
  constructor
  · rintro ⟨c, hc, ho, rfl⟩
    simp only [okS, Bool.and_eq_true, beq_iff_eq, Bool.not_eq_true', beq_eq_false_iff_ne, ne_eq] at ho
    obtain ⟨⟨o1, o2⟩, o3⟩ := ho
    exact ⟨⟨c, und_mem.2 ⟨hc, by rw [o1]; decide⟩, rfl⟩, List.length_eq_zero_iff.1 o2, fun h => o3 (by rw [h]; rfl)⟩
  · rintro ⟨_, o2, o3⟩
    obtain ⟨n, hn⟩ := List.exists_mem_of_ne_nil _ o3
    obtain ⟨c, hc, _, q1, q2, _⟩ := rdyN_ok hn
    refine ⟨c, hc, ?_, q1⟩
    rw [okS, q1, q2, o2]
    simp
    exact o3
theorem scS_len {R l : List Ch} : (scS R l).length ≤ l.length := by
  rw [show l = l.reverse.reverse from (List.reverse_reverse l).symm]
  generalize l.reverse = M
  induction M with
  | nil => simp [scS]
  | cons c M ih =>
    have e : scS R (c :: M).reverse = if okS R c then insU c.at' (scS R M.reverse) else scS R M.reverse := by
      rw [scS, List.reverse_cons, List.foldl_append]; rfl
    have hi : ∀ x (o : List Int), (insU x o).length ≤ o.length + 1 := fun x o => by
      unfold insU
      split
      · omega
      · have := congrArg List.length (List.takeWhile_append_dropWhile (p := fun y => decide (y < x)) (l := o))
        rw [List.length_append] at this
        rw [List.length_append, List.length_cons]
        omega
    rw [e]
    split
    · have := hi c.at' (scS R M.reverse)
      simp at ih ⊢; omega
    · simp at ih ⊢; omega
theorem insU_in {x : Int} {O : List Int} {k : Nat} (hk : k < O.length) (h : O[k] = x) : insU x O = O := if_pos (h ▸ List.getElem_mem hk)
theorem insU_new {x : Int} {O : List Int} {k : Nat} (hu : O.Pairwise (· < ·)) (hk : k ≤ O.length) (h1 : ∀ j (h : j < O.length), j < k → O[j] < x) (h2 : ∀ h : k < O.length, x < O[k]) : insU x O = O.take k ++ x :: O.drop k := by
  have hx : x ∉ O := by
    intro hx
    obtain ⟨j, hj, rfl⟩ := List.getElem_of_mem hx
    rcases Nat.lt_trichotomy j k with h | h | h
    · have := h1 j hj h; omega
    · subst h; have := h2 hj; omega
    · have q1 := h2 (by omega)
      have q2 := List.pairwise_iff_getElem.1 hu k j (by omega) hj h
      omega
  rw [insU, if_neg hx, insU_take hk h1 fun h => by have := h2 h; omega]
theorem pos_t {n : Nat} (h : (n == 0) = false) : decide ((0 : Int) < (n : Int)) = true := by
  have : n ≠ 0 := by simpa using h
  exact decide_eq_true (by omega)
theorem pos_f {n : Nat} (h : (n == 0) = true) : decide ((0 : Int) < (n : Int)) = false := by
  have : n = 0 := by simpa using h
  exact decide_eq_false (by omega)
theorem int_mx {m k : Nat} (z : m ≤ 100000) (hk : k ≤ m) : (0 + k ≤ maxLen ∧ (0 + k) * 8 ≤ 140737488355328) ∧ (0 + k + 1 ≤ maxLen ∧ (0 + k + 1) * 8 ≤ 140737488355328) ∧ (0 + k + 1 + (m - k) ≤ maxLen ∧ (0 + k + 1 + (m - k)) * 8 ≤ 140737488355328) := by
  simp only [maxLen]
  omega
section
variable {H : HL} {nx d l q m : Nat} {b1 b2 b3 b4 : Bool} {V : DV} {W : List (List Int × Option Addr × Nat)} {R : List Ch}
set_option maxRecDepth 100000 in
set_option maxHeartbeats 8000000 in
theorem rsectU (hd : lookH H d = some (b1, .cells [.nm l] 28)) (hl : lookH H l = some (b2, .rd 5 V.length (rdc V))) (hq : lookH H q = some (b3, .ab (frzP W))) (h : RR V W R) :
    FnH Try.prog 36 [.c (.p d 0)] H nx ⟨.t (.c (.nm nx)), [(true, .own 3 1 (secs (und R)).length (ivs (secs (und R))))], [], []⟩ := by
  rw [← scS_secs h.dep]
  refine fnN (fn := Try.f36) 89 rfl rfl rfl (args' := [.c (.p 0 0)]) (H' := hRr V W) (nx' := 3) (fun e w M => ⟨_, mem_rd (r3p d l q) (memRr hd hl hq) M, rfl⟩) rfl rfl rfl (inR_one _) rfl fun w => ?_
  show At _ _ _ _ _ _ [(0, some (false, .cells [.nm 1] 28)), (1, some (false, .rd 5 V.length (rdc V))), (2, some (false, .ab (frzP W)))] 3
  have hVl := h.len
  have hz := h.z
  refine rn [] rfl (by repeat' (first | exact trivial | exact rfl | refine And.intro ?_ ?_)) ?_
  refine At.nil 3 3 1 rfl ?_
  refine At.loop (X := (i : Nat) ×' (i ≤ V.length)) 4 (fun x => V.length - x.1)
    (fun x => [(0, .t (.c (.p 0 0))), (3, .t (.c (.nm 3))), (4, .t (.c (iT (x.1 : Nat))))])
    (fun x => [(0, some (false, .cells [.nm 1] 28)), (1, some (false, .rd 5 V.length (rdc V))), (2, some (false, .ab (frzP W))), (3, some (true, .own 3 1 (scS R (R.take x.1)).length (ivs (scS R (R.take x.1)))))]) ⟨0, by omega⟩ [] (fun x => wf rfl rfl) (by repeat' (first | exact trivial | exact rfl | refine And.intro ?_ ?_)) (by repeat' (first | exact trivial | exact rfl | refine And.intro ?_ ?_)) rfl fun x => ?_
  obtain ⟨i, hi⟩ := x
  have w3 : IntKind.i64.wrap ((i : Int) + 1) = ((i + 1 : Nat) : Int) := by rw [wrap_sm (by omega) (by omega)]; omega
  refine rn [] rfl (by repeat' (first | exact trivial | exact rfl | refine And.intro ?_ ?_)) ?_
  refine ⟨fun h1 => ?_, fun h1 => ?_⟩
  · have hlt : i < V.length := by have : (i : Int) < (V.length : Int) := of_decide_eq_true h1; omega
    clear h1
    have hlR : i < R.length := by omega
    obtain ⟨f0, _, _, f4⟩ := rdc_f hlt
    rw [h.at hlt hlR] at f0 f4
    have b0 : (0 : Int) ≤ (i : Int) := by omega
    have b1 : (i : Int) < (V.length : Int) := by omega
    have c5 : (i : Int).toNat * 5 < (rdc V).length := by rw [rdc_length]; omega
    have hsu := scS_succ hlR
    have hup := (scS_ok R (R.take i)).1
    have hle := scS_len (R := R) (l := R.take i)
    rw [List.length_take] at hle
    have hof := fun (H : HL) (nx : Nat) (h0 : lookH H 0 = some (false, .cells [.nm 1] 28)) (h1 : lookH H 1 = some (false, .rd 5 V.length (rdc V))) (h2 : lookH H 2 = some (false, .ab (frzP W))) => rofU (nx := nx) h0 h1 h2 h R[i].at' 2
    have hry := fun (H : HL) (nx : Nat) (h0 : lookH H 0 = some (false, .cells [.nm 1] 28)) (h1 : lookH H 1 = some (false, .rd 5 V.length (rdc V))) (h2 : lookH H 2 = some (false, .ab (frzP W))) => rreadyU (nx := nx) h0 h1 h2 h R[i].at'
    rw [rof_fly] at hof
    have hok : okS R R[i] = (R[i].st == 1 && (ofN R R[i].at' 2).length == 0 && !((rdyN R R[i].at').length == 0)) := rfl
    have hat : ∀ z : Int, z = R[i].at' → insU z (scS R (R.take i)) = insU R[i].at' (scS R (R.take i)) := fun z hz => by rw [hz]
    generalize scS R (R.take i) = O at *
    generalize okS R R[i] = ok at *
    generalize ofN R R[i].at' 2 = of2 at *
    generalize rdyN R R[i].at' = rdy at *
    have skipE : ok = false → scS R (R.take (i + 1)) = O := fun hb => by rw [hsu, hb]; rfl
    cases cs : R[i].st == 1 with
    | false =>
      have hn := skipE (by rw [hok, cs]; rfl)
      have cs' : (R[i].st != 1) = true := by simpa using cs
      refine rn [(24, .ld [iT R[i].at']), (32, .ld [iT R[i].st]), (34, .dec true), (41, .dec true), (47, .dec true)] rfl (by (repeat' (first | exact trivial | exact rfl | exact trivial | exact fun _ => trivial | first | exact f0 | exact ⟨f0, trivial⟩ | exact f4 | exact ⟨f4, trivial⟩ | exact b0 | exact b1 | exact c5 | exact cs' | rfl | decide | refine And.intro ?_ ?_))) ?_
      exact roundEnd ⟨i + 1, by omega⟩ [] (by show V.length - (i + 1) < V.length - i; omega) (by (repeat' (first | exact trivial | exact rfl | exact w3 | exact fun _ => w3 | refine And.intro ?_ ?_))) (by (repeat' (first | exact trivial | exact rfl | exact trivial | exact fun _ => trivial | first | exact congrArg List.length hn.symm | exact congrArg ivs hn.symm | refine And.intro ?_ ?_))) rfl
    | true =>
      have cs' : (R[i].st != 1) = false := by simpa using cs
      cases cf : of2.length == 0 with
      | false =>
        have hn := skipE (by rw [hok, cs, cf]; rfl)
        have cf' := pos_t cf
        refine rn [(24, .ld [iT R[i].at']), (32, .ld [iT R[i].st]), (34, .dec false), (37, .spec ⟨.t (.c (.nm 4)), [(true, .own 3 1 of2.length (ivs of2))], [], []⟩), (41, .dec true), (47, .dec true)] rfl (by (repeat' (first | exact trivial | exact rfl | exact trivial | exact fun _ => trivial | first | exact hof _ _ rfl rfl rfl | exact f0 | exact ⟨f0, trivial⟩ | exact f4 | exact ⟨f4, trivial⟩ | exact b0 | exact b1 | exact c5 | exact cs' | exact cf' | rfl | decide | refine And.intro ?_ ?_))) ?_
        exact roundEnd ⟨i + 1, by omega⟩ [] (by show V.length - (i + 1) < V.length - i; omega) (by (repeat' (first | exact trivial | exact rfl | exact w3 | exact fun _ => w3 | refine And.intro ?_ ?_))) (by (repeat' (first | exact trivial | exact rfl | exact trivial | exact fun _ => trivial | first | exact congrArg List.length hn.symm | exact congrArg ivs hn.symm | refine And.intro ?_ ?_))) rfl
      | true =>
        have cf' := pos_f cf
        cases cr : rdy.length == 0 with
        | true =>
          have hn := skipE (by rw [hok, cs, cf, cr]; rfl)
          have cr' : ((rdy.length : Int) == 0) = true := by simpa using cr
          refine rn [(24, .ld [iT R[i].at']), (32, .ld [iT R[i].st]), (34, .dec false), (37, .spec ⟨.t (.c (.nm 4)), [(true, .own 3 1 of2.length (ivs of2))], [], []⟩), (41, .dec false), (44, .spec ⟨.t (.c (.nm 5)), [(true, .own 3 1 rdy.length (ivs rdy))], [], []⟩), (47, .dec true)] rfl (by (repeat' (first | exact trivial | exact rfl | exact trivial | exact fun _ => trivial | first | exact hof _ _ rfl rfl rfl | exact hry _ _ rfl rfl rfl | exact f0 | exact ⟨f0, trivial⟩ | exact f4 | exact ⟨f4, trivial⟩ | exact b0 | exact b1 | exact c5 | exact cs' | exact cf' | exact cr' | rfl | decide | refine And.intro ?_ ?_))) ?_
          exact roundEnd ⟨i + 1, by omega⟩ [] (by show V.length - (i + 1) < V.length - i; omega) (by (repeat' (first | exact trivial | exact rfl | exact w3 | exact fun _ => w3 | refine And.intro ?_ ?_))) (by (repeat' (first | exact trivial | exact rfl | exact trivial | exact fun _ => trivial | first | exact congrArg List.length hn.symm | exact congrArg ivs hn.symm | refine And.intro ?_ ?_))) rfl
        | false =>
          have hyes : scS R (R.take (i + 1)) = insU R[i].at' O := by rw [hsu, hok, cs, cf, cr]; rfl
          have cr' : ((rdy.length : Int) == 0) = false := by simpa using cr
          refine rn [(24, .ld [iT R[i].at']), (32, .ld [iT R[i].st]), (34, .dec false), (37, .spec ⟨.t (.c (.nm 4)), [(true, .own 3 1 of2.length (ivs of2))], [], []⟩), (41, .dec false), (44, .spec ⟨.t (.c (.nm 5)), [(true, .own 3 1 rdy.length (ivs rdy))], [], []⟩), (47, .dec false)] rfl (by (repeat' (first | exact trivial | exact rfl | exact trivial | exact fun _ => trivial | first | exact hof _ _ rfl rfl rfl | exact hry _ _ rfl rfl rfl | exact f0 | exact ⟨f0, trivial⟩ | exact f4 | exact ⟨f4, trivial⟩ | exact b0 | exact b1 | exact c5 | exact cs' | exact cf' | exact cr' | rfl | decide | refine And.intro ?_ ?_))) ?_
          clear hof hry hok hsu hat skipE cf' cr' cs' f4 h
          generalize R[i].at' = at' at *
          refine At.loop (X := (k : Nat) ×' (k ≤ O.length ∧ ∀ j (h : j < O.length), j < k → O[j] < at')) 4 (fun s => O.length - s.1)
            (fun s => [(0, .t (.c (.p 0 0))), (3, .t (.c (.nm 3))), (4, .t (.c (iT (i : Nat)))), (5, .t (.c (iT at'))), (6, .t (.c (iT (s.1 : Nat))))])
            (fun s => [(0, some (false, .cells [.nm 1] 28)), (1, some (false, .rd 5 V.length (rdc V))), (2, some (false, .ab (frzP W))), (3, some (true, .own 3 1 O.length (ivs O)))]) ⟨0, by omega, fun j _ h => by omega⟩ [] (fun s => wf rfl rfl) (by repeat' (first | exact trivial | exact rfl | refine And.intro ?_ ?_)) (by repeat' (first | exact trivial | exact rfl | refine And.intro ?_ ?_)) rfl fun s => ?_
          obtain ⟨k, hk1, hk2⟩ := s
          have w4 : IntKind.i64.wrap ((k : Int) + 1) = ((k + 1 : Nat) : Int) := by rw [wrap_sm (by omega) (by omega)]; omega
          have d0 : (0 : Int) ≤ (k : Int) := by omega
          have d2 : (k : Int) ≤ (O.length : Int) := by omega
          obtain ⟨⟨n1, n2⟩, ⟨n3, n4⟩, n5, n6⟩ := int_mx (m := O.length) (k := (k : Int).toNat) (by omega) (by omega)
          have n7 : (k : Int).toNat + (O.length - (k : Int).toNat) ≤ O.length := by omega
          have n8 : 0 + (k : Int).toNat ≤ O.length := by omega
          have o1 := ivs_one O
          have o2 := ivs_lit at'
          have e5 : (∀ h : k < O.length, at' < O[k]) → 0 + (k : Int).toNat + 1 + (O.length - (k : Int).toNat) = (scS R (R.take (i + 1))).length := fun h => by
            rw [hyes, insU_new hup hk1 hk2 h, List.length_append, List.length_cons, List.length_take, List.length_drop, Nat.min_eq_left hk1]
            omega
          have e6 : (∀ h : k < O.length, at' < O[k]) → app (app (app [] (((ivs O).drop 0).take ((k : Int).toNat * 1))) [Value.int .i64 at']) (((ivs O).drop ((k : Int).toNat * 1)).take ((O.length - (k : Int).toNat) * 1)) = ivs (scS R (R.take (i + 1))) := fun h => by
            rw [app_eq, app_eq, app_eq, hyes, insU_new hup hk1 hk2 h]
            simp only [ivs, List.nil_append, List.drop_zero, Int.toNat_natCast, Nat.mul_one, List.map_append, List.map_take, List.map_drop, List.map_cons]
            rw [List.take_of_length_le (l := (List.map (Value.int .i64) O).drop k) (by simp)]
            simp
          by_cases hkl : k < O.length
          · have l1 : decide ((k : Int) < (O.length : Int)) = true := decide_eq_true (by omega)
            have e2 : (ivs O)[(k : Int).toNat * 1]? = some (.int .i64 O[k]) := by simpa using ivs_at hkl
            have d1 : (k : Int) < (O.length : Int) := by omega
            by_cases hlx : O[k] < at'
            · have l2 : decide (O[k] < at') = true := decide_eq_true hlx
              refine rn [(52, .dec true), (56, .ld [iT O[k]]), (59, .dec true)] rfl (by (repeat' (first | exact trivial | exact rfl | exact trivial | exact fun _ => trivial | first | exact l1 | exact l2 | exact e2 | exact ⟨e2, trivial⟩ | exact d0 | exact d1 | (rw [l1, l2]; rfl) | (rw [l2]; rfl) | decide | refine And.intro ?_ ?_))) ?_
              exact roundEnd ⟨k + 1, by omega, fun j hj h => by
                rcases Nat.lt_or_eq_of_le (Nat.le_of_lt_succ h) with h | rfl
                · exact hk2 j hj h
                · exact hlx⟩ [] (by show O.length - (k + 1) < O.length - k; omega) (by (repeat' (first | exact trivial | exact rfl | exact w4 | exact fun _ => w4 | refine And.intro ?_ ?_))) (by repeat' (first | exact trivial | exact rfl | refine And.intro ?_ ?_)) rfl
            · have l2 : decide (O[k] < at') = false := decide_eq_false hlx
              refine rn [(52, .dec true), (56, .ld [iT O[k]]), (59, .dec false)] rfl (by (repeat' (first | exact trivial | exact rfl | exact trivial | exact fun _ => trivial | first | exact l1 | exact l2 | exact e2 | exact ⟨e2, trivial⟩ | exact d0 | exact d1 | (rw [l1, l2]; rfl) | (rw [l2]; rfl) | decide | refine And.intro ?_ ?_))) (roundExit rfl ?_)
              by_cases heq : O[k] = at'
              · have hn : scS R (R.take (i + 1)) = O := hyes.trans (insU_in hkl heq)
                have l3 : (O[k] == at') = true := by simpa using heq
                refine rnA [(66, .dec true), (70, .ld [iT O[k]]), (73, .dec true)] rfl (by (repeat' (first | exact trivial | exact rfl | exact trivial | exact fun _ => trivial | first | exact l1 | exact l3 | exact e2 | exact ⟨e2, trivial⟩ | exact d0 | exact d1 | (rw [l1, l3]; rfl) | (rw [l3]; rfl) | decide | refine And.intro ?_ ?_))) ?_
                exact roundEnd ⟨i + 1, by omega⟩ [] (by show V.length - (i + 1) < V.length - i; omega) (by (repeat' (first | exact trivial | exact rfl | exact w3 | exact fun _ => w3 | refine And.intro ?_ ?_))) (by (repeat' (first | exact trivial | exact rfl | exact trivial | exact fun _ => trivial | first | exact congrArg List.length hn.symm | exact congrArg ivs hn.symm | refine And.intro ?_ ?_))) rfl
              · have l3 : (O[k] == at') = false := by simpa using heq
                have hgt : ∀ h : k < O.length, at' < O[k] := fun _ => by omega
                have e5' := e5 hgt
                have e6' := e6 hgt
                refine rnA [(66, .dec true), (70, .ld [iT O[k]]), (73, .dec false), (20012, .dec true)] rfl (by (repeat' (first | exact trivial | exact rfl | exact trivial | exact fun _ => trivial | first | exact l1 | exact l3 | exact e2 | exact ⟨e2, trivial⟩ | exact d0 | exact d1 | (rw [l1, l3]; rfl) | (rw [l3]; rfl) | decide | refine And.intro ?_ ?_))) ?_
                refine At.nil 7 3 1 rfl ?_
                refine rn [(81, .dec true)] rfl (by (repeat' (first | exact trivial | exact rfl | exact trivial | exact fun _ => trivial | first | exact d0 | exact d2 | exact ⟨d0, d2⟩ | exact n1 | exact n2 | exact n3 | exact n4 | exact n5 | exact n6 | exact n7 | exact n8 | exact o1 | exact o2 | decide | refine And.intro ?_ ?_))) ?_
                exact roundEnd ⟨i + 1, by omega⟩ [(3, 8)] (by show V.length - (i + 1) < V.length - i; omega) (by (repeat' (first | exact trivial | exact rfl | exact w3 | exact fun _ => w3 | refine And.intro ?_ ?_))) (by (repeat' (first | exact trivial | exact rfl | exact e6' | exact fun _ => e6' | exact e5' | refine And.intro ?_ ?_))) rfl
          · have l1 : decide ((k : Int) < (O.length : Int)) = false := decide_eq_false (by omega)
            have hgt : ∀ h : k < O.length, at' < O[k] := fun h => absurd h hkl
            have e5' := e5 hgt
            have e6' := e6 hgt
            refine rn [(52, .dec false), (59, .dec false)] rfl (by (repeat' (first | exact trivial | exact rfl | exact trivial | exact fun _ => trivial | first | exact l1 | (rw [l1]; rfl) | decide | refine And.intro ?_ ?_))) (roundExit rfl ?_)
            refine rnA [(66, .dec false), (73, .dec false), (20012, .dec true)] rfl (by (repeat' (first | exact trivial | exact rfl | exact trivial | exact fun _ => trivial | first | exact l1 | (rw [l1]; rfl) | decide | refine And.intro ?_ ?_))) ?_
            refine At.nil 7 3 1 rfl ?_
            refine rn [(81, .dec true)] rfl (by (repeat' (first | exact trivial | exact rfl | exact trivial | exact fun _ => trivial | first | exact d0 | exact d2 | exact ⟨d0, d2⟩ | exact n1 | exact n2 | exact n3 | exact n4 | exact n5 | exact n6 | exact n7 | exact n8 | exact o1 | exact o2 | decide | refine And.intro ?_ ?_))) ?_
            exact roundEnd ⟨i + 1, by omega⟩ [(3, 8)] (by show V.length - (i + 1) < V.length - i; omega) (by (repeat' (first | exact trivial | exact rfl | exact w3 | exact fun _ => w3 | refine And.intro ?_ ?_))) (by (repeat' (first | exact trivial | exact rfl | exact e6' | exact fun _ => e6' | exact e5' | refine And.intro ?_ ?_))) rfl
  · have hge : i = V.length := by have : ¬ (i : Int) < (V.length : Int) := of_decide_eq_false h1; omega
    have hw : R.take i = R := by rw [hge, hVl, List.take_length]
    refine rn [] rfl (by repeat' (first | exact trivial | exact rfl | refine And.intro ?_ ?_)) (roundExit rfl ?_)
    rw [hw]
    refine rnA [] rfl (by repeat' (first | exact trivial | exact rfl | refine And.intro ?_ ?_)) ?_
    exact retN tysOk [(nx, 3)] rfl (by simp only [retS, SV.eqs, eqsT, TV.eqs, CV.eqs, ren_one]; repeat' (first | exact trivial | exact rfl | refine And.intro ?_ ?_)) (by simp only [newsH, subH, ren_one]; repeat' (first | exact trivial | exact rfl | refine And.intro ?_ ?_)) (by simp [injK, keysH, newsH, inL]) rfl
end
end
end Cw
namespace Vc
open Go Go.RowKit
/-- A slice of anything, told of its value. -/
def rawS (s : Nat) (v : Value) (xs : List Value) : AbP := fun _ F w => ∃ A n c, v = .slice A n c ∧ Rds w A n c s xs ∧ ∀ a, A = some a → 0 < xs.length → F a.block
theorem rawS_stable {s : Nat} {v : Value} {xs : List Value} : stable (rawS s v xs) := by
  rintro _ F w w' ⟨A, n, c, h1, h2, h3⟩ hk
  exact ⟨A, n, c, h1, h2.stays fun a ha h0 => hk _ (h3 a ha h0), h3⟩
def orP (φ ψ : AbP) : AbP := fun v F w => φ v F w ∨ ψ v F w
theorem orP_stable {φ ψ : AbP} (h1 : stable φ) (h2 : stable ψ) : stable (orP φ ψ) := fun v F w w' h hk => h.elim (fun h => .inl (h1 v F w w' h hk)) fun h => .inr (h2 v F w w' h hk)
/-- The names of what a function changes, then of what it reads. -/
def gOf (ds : List (Nat × AbP × AbP)) (rs : List (Nat × Ob)) (n : Nat) : Nat := (((ds.map (·.1)) ++ (rs.map (·.1)))[n]?).getD 0
def obsOf (ds : List (Nat × AbP × AbP)) (rs : List (Nat × Ob)) : List (Bool × Ob) := app (ds.map fun x => (true, Ob.ab x.2.1)) (rs.map fun x => (false, x.2))
def chgOk (H : HL) : List (Nat × AbP × AbP) → Prop
  | [] => True
  | (d, φ, φ') :: l => (lookH H d = some (true, .ab φ) ∧ ∃ v0, Pins φ v0 ∧ Pins φ' v0) ∧ chgOk H l
theorem chgOk_mem {H : HL} : ∀ {ds : List (Nat × AbP × AbP)}, chgOk H ds → ∀ x ∈ ds, lookH H x.1 = some (true, .ab x.2.1) ∧ ∃ v0, Pins x.2.1 v0 ∧ Pins x.2.2 v0
  | (d, φ, φ') :: l, h, x, hx => (List.mem_cons.1 hx).elim (fun e => e ▸ h.1) fun hx => chgOk_mem h.2 x hx
def redOk (H : HL) (ds : List (Nat × AbP × AbP)) : List (Nat × Ob) → Prop
  | [] => True
  | (q, o) :: l => ((∃ b, lookH H q = some (b, o)) ∧ (∀ g : Nat → Nat, o.re g = o) ∧ inL q (ds.map (·.1)) = false) ∧ redOk H ds l
theorem redOk_mem {H : HL} {ds : List (Nat × AbP × AbP)} : ∀ {rs : List (Nat × Ob)}, redOk H ds rs → ∀ x ∈ rs, (∃ b, lookH H x.1 = some (b, x.2)) ∧ (∀ g : Nat → Nat, x.2.re g = x.2) ∧ inL x.1 (ds.map (·.1)) = false
  | (q, o) :: l, h, x, hx => (List.mem_cons.1 hx).elim (fun e => e ▸ h.1) fun hx => redOk_mem h.2 x hx
/-- A function that changes things, and reads others. -/
theorem fnAs {P : Program} {f : FuncId} {fn : Func} {c : Code} (N : Nat) (hf : P.funcs[f]? = some fn) (hb : fn.body = some c) (hN : fn.ntmps = N) {args args' : List TV} {H : HL} {nx : Nat} {v v' : SV} {news news' : List (Bool × Ob)} {upd : List (Nat × Option Ob)} (ds : List (Nat × AbP × AbP)) (rs : List (Nat × Ob))
    (hds : chgOk H ds) (hrs : redOk H ds rs) (hnd : (ds.map (·.1)).Nodup) (ha : reT (gOf ds rs) args' = args)
    (hl : Nat.ble args'.length N = true) (hW : wfL (ds.length + rs.length) (argsL 0 (args'.map .t)) = true) (hW2 : wfH (ds.length + rs.length) (newsH 0 (obsOf ds rs)) = true)
    (hv : v'.re (fun n => nx + (n - ds.length)) = v) (hnw : reN (fun n => nx + (n - ds.length)) news' = news) (hu : ds.map (fun x => (x.1, some (Ob.ab x.2.2))) = upd)
    (hvr : inR ds.length (ds.length + news'.length) v'.ns = true) (hnr : newsR ds.length (ds.length + news'.length) news' = true)
    (hg : ∀ w W, At P ⟨w, W, N⟩ (bodyPost P fn (MPost w W v' (app (ds.map fun x => (true, Ob.ab x.2.2)) news'))) c [] (argsL 0 (args'.map .t)) (newsH 0 (obsOf ds rs)) (ds.length + rs.length)) : FnH P f args H nx ⟨v, news, upd, []⟩ := by
  subst ha hu
  have hul : (ds.map fun x => (x.1, x.2.2)).length = ds.length := List.length_map _
  have hml : (ds.map fun x => (x.1, x.2.2)).map (fun u => (true, Ob.ab u.2)) = ds.map fun x => (true, Ob.ab x.2.2) := by rw [List.map_map]; rfl
  have hlook : ∀ n z, lookH (newsH 0 (obsOf ds rs)) n = some z → (∃ x ∈ ds, gOf ds rs n = x.1 ∧ z = (true, .ab x.2.1) ∧ n < ds.length ∧ (ds.map (·.1))[n]? = some x.1) ∨ (∃ x ∈ rs, gOf ds rs n = x.1 ∧ z = (false, x.2)) := by
    intro n z h
    rw [lookH_newsH, if_pos (Nat.zero_le _), Nat.sub_zero, obsOf, app_eq] at h
    by_cases hn : n < ds.length
    · rw [List.getElem?_append_left (by simpa using hn), List.getElem?_map, List.getElem?_eq_getElem hn] at h
      cases h
      refine .inl ⟨ds[n], List.getElem_mem hn, ?_, rfl, hn, ?_⟩
      · rw [gOf, List.getElem?_append_left (by simpa using hn), List.getElem?_map, List.getElem?_eq_getElem hn]; rfl
      · rw [List.getElem?_map, List.getElem?_eq_getElem hn]; rfl
    · rw [List.getElem?_append_right (by simpa using hn), List.length_map, List.getElem?_map] at h
      cases hr : rs[n - ds.length]? with
      | none => rw [hr] at h; cases h
      | some x =>
        rw [hr] at h
        cases h
        refine .inr ⟨x, List.mem_of_getElem? hr, ?_, rfl⟩
        rw [gOf, List.getElem?_append_right (by simpa using hn), List.length_map, List.getElem?_map, hr]; rfl
  refine fnM N hf hb hN (args' := args') (H' := newsH 0 (obsOf ds rs)) (nx' := ds.length + rs.length) (v' := v') (news' := news') (ds.map fun x => (x.1, x.2.2)) (fun e w M => ?_) hl hW hW2 (fun e w M u hu v1 F w' h => ?_) (fun u hu => ?_) ?_ ?_ ?_ ?_ ?_ ?_ ?_
  · refine ⟨e.comp (gOf ds rs), ⟨fun n b o hn => ?_, fun n o m c q hn hm hne g hg hg' => ?_⟩, ?_⟩
    · rcases hlook n _ hn with ⟨x, hx, hgx, hz, _⟩ | ⟨x, hx, hgx, hz⟩
      · cases hz
        obtain ⟨h1, _⟩ := chgOk_mem hds x hx
        obtain ⟨h2, h3⟩ := M.ob _ _ _ h1
        refine ⟨Ob.re_back (r := gOf ds rs) (n := n) (by rw [hgx]; exact h2), fun g hg => ?_⟩
        have hg2 : e.fp (gOf ds rs n) g := hg
        rw [hgx] at hg2
        exact ⟨h3 g hg2, fun _ => ⟨(x.1, x.2.2), List.mem_map.2 ⟨x, hx, rfl⟩, hg2⟩⟩
      · cases hz
        obtain ⟨⟨b, h1⟩, h2, _⟩ := redOk_mem hrs x hx
        obtain ⟨h3, h4⟩ := M.ob _ _ _ h1
        refine ⟨Ob.re_back (r := gOf ds rs) (n := n) (by rw [hgx, h2]; exact h3), fun g hg => ⟨h4 g ?_, fun h => by cases h⟩⟩
        have hg2 : e.fp (gOf ds rs n) g := hg
        rwa [hgx] at hg2
    · have hg1 : e.fp (gOf ds rs n) g := hg
      have hg2 : e.fp (gOf ds rs m) g := hg'
      rcases hlook n _ hn with ⟨x, hx, hgx, hz, hnl, hnx⟩ | ⟨x, hx, hgx, hz⟩
      · cases hz
        obtain ⟨h1, _⟩ := chgOk_mem hds x hx
        rw [hgx] at hg1
        rcases hlook m _ hm with ⟨y, hy, hgy, hz', hml', hmy⟩ | ⟨y, hy, hgy, hz'⟩
        · cases hz'
          obtain ⟨h2, _⟩ := chgOk_mem hds y hy
          rw [hgy] at hg2
          refine M.dj _ _ _ _ _ h1 h2 (fun hxy => hne ?_) g hg1 hg2
          rw [← hxy] at hmy
          obtain ⟨h3, h4⟩ := List.getElem?_eq_some_iff.1 hnx
          obtain ⟨h5, h6⟩ := List.getElem?_eq_some_iff.1 hmy
          exact (List.getElem_inj hnd).1 (h4.trans h6.symm)
        · cases hz'
          obtain ⟨⟨b, h2⟩, _, h3⟩ := redOk_mem hrs y hy
          rw [hgy] at hg2
          refine M.dj _ _ _ _ _ h1 h2 (fun hxy => ?_) g hg1 hg2
          rw [← hxy] at h3
          exact inL_iff h3 (List.mem_map.2 ⟨x, hx, rfl⟩)
      · cases hz
    · rw [reT_eq, List.map_map]
      exact List.map_congr_left fun a _ => TV.comp_den e (gOf ds rs) a
  · obtain ⟨x, hx, rfl⟩ := List.mem_map.1 hu
    obtain ⟨h1, v0, p0, p1⟩ := chgOk_mem hds x hx
    rw [p1 _ _ _ h]
    exact (p0 _ _ _ (M.ob _ _ _ h1).1.1).symm
  · obtain ⟨x, hx, rfl⟩ := List.mem_map.1 hu
    exact ⟨_, (chgOk_mem hds x hx).1⟩
  · rw [List.map_map]; exact hnd
  · rw [hul]; exact hv
  · rw [hul]; exact hnw
  · rw [List.map_map]; rfl
  · rw [hul]; exact hvr
  · rw [hul]; exact hnr
  · intro w W
    have := hg w W
    rw [app_eq] at this
    rwa [hml]
section
variable {P : Program} {F : Frm} {Q : Exit → Act → World → Prop} {c : Code} {ks : List KI} {L : LL} {H : HL} {nx : Nat}
/-- Things of which all is told anew, with what they hold dealt out otherwise. -/
def redoH {κ : Type} (k : κ) : List (Nat × AbP × (κ → AbP)) → HL → HL
  | [], H => H
  | u :: l, H => (u.1, some (true, .ab (u.2.2 k))) :: redoH k l H
theorem look_redo {κ : Type} (k : κ) (H : HL) (n : Nat) : ∀ us : List (Nat × AbP × (κ → AbP)), (∃ u ∈ us, u.1 = n ∧ lookH (redoH k us H) n = some (true, .ab (u.2.2 k))) ∨ ((∀ u ∈ us, u.1 ≠ n) ∧ lookH (redoH k us H) n = lookH H n)
  | [] => .inr ⟨fun u h => (by cases h), rfl⟩
  | u :: l => by
    rw [redoH, lookH_cons]
    by_cases h : n = u.1
    · rw [if_pos h]
      exact .inl ⟨u, by simp, h.symm, rfl⟩
    · rw [if_neg h]
      rcases look_redo k H n l with ⟨x, hx, h1, h2⟩ | ⟨h1, h2⟩
      · exact .inl ⟨x, by simp [hx], h1, h2⟩
      · exact .inr ⟨fun x hx => (List.mem_cons.1 hx).elim (fun e => by rw [e]; exact fun h' => h h'.symm) fun hx => h1 x hx, h2⟩
theorem At.redo {κ : Type} (us : List (Nat × AbP × (κ → AbP))) (hl : ∀ u ∈ us, lookH H u.1 = some (true, .ab u.2.1)) (hs : ∀ u ∈ us, ∀ k, stable (u.2.2 k))
    (hp : ∀ (e : Env) (w : World), (∀ u ∈ us, u.2.1 (e.val u.1) (e.fp u.1) w) → (∀ u ∈ us, ∀ u' ∈ us, u.1 ≠ u'.1 → ∀ g, e.fp u.1 g → ¬ e.fp u'.1 g) → ∃ (k : κ) (f : Nat → Nat → Prop), (∀ u ∈ us, u.2.2 k (e.val u.1) (f u.1) w) ∧ (∀ u ∈ us, ∀ g, f u.1 g → ∃ u' ∈ us, e.fp u'.1 g) ∧ ∀ u ∈ us, ∀ u' ∈ us, u.1 ≠ u'.1 → ∀ g, f u.1 g → ¬ f u'.1 g)
    (h : ∀ k, At P F Q c ks L (redoH k us H) nx) : At P F Q c ks L H nx :=
  ⟨fun hW e a w S => by
    obtain ⟨k, f, h1, h2, h3⟩ := hp e w (fun u hu => (S.ob _ _ _ (hl u hu)).1.1) fun u hu u' hu' hne g => S.dj _ _ _ _ _ (hl u hu) (hl u' hu') hne g
    let D : Nat → Prop := fun n => ∃ u ∈ us, u.1 = n
    let F' : Nat → Nat → Prop := fun n g => (D n ∧ f n g) ∨ (¬ D n ∧ e.fp n g)
    have fd : ∀ {n g}, D n → (F' n g ↔ f n g) := fun hd => ⟨fun h => h.elim (·.2) fun h => absurd hd h.1, fun h => .inl ⟨hd, h⟩⟩
    have fo : ∀ {n g}, ¬ D n → (F' n g ↔ e.fp n g) := fun hd => ⟨fun h => h.elim (fun h => absurd h.1 hd) (·.2), fun h => .inr ⟨hd, h⟩⟩
    refine (h k).h ⟨hW.l, fun n z hz => ?_⟩ (Env.mk e.blk e.val F' e.one) a w ⟨S.fr, S.sz, S.df, S.sl, fun n b o hn => ?_, fun n o m b' o' hn hm hne g hg hg' => ?_⟩
    · rcases look_redo k H n us with ⟨u, hu, h4, h5⟩ | ⟨h4, h5⟩
      · rw [h5] at hz
        cases hz
        exact ⟨h4 ▸ (hW.h _ _ (hl u hu)).1, fun m hm => by simp [Ob.ns] at hm⟩
      · rw [h5] at hz
        exact hW.h n z hz
    · rcases look_redo k H n us with ⟨u, hu, h4, h5⟩ | ⟨h4, h5⟩
      · rw [h5] at hn
        cases hn
        subst h4
        have hd : D u.1 := ⟨u, hu, rfl⟩
        have hfe : (fun g => F' u.1 g) = f u.1 := funext fun g => propext (fd hd)
        refine ⟨⟨?_, hs u hu k⟩, fun g hg => ?_⟩
        · show u.2.2 k (e.val u.1) (fun g => F' u.1 g) w
          rw [hfe]; exact h1 u hu
        · obtain ⟨u', hu', hg2⟩ := h2 u hu g ((fd hd).1 hg)
          exact (S.ob _ _ _ (hl u' hu')).2 g hg2
      · rw [h5] at hn
        have hd : ¬ D n := fun ⟨u, hu, h⟩ => h4 u hu h
        obtain ⟨k1, k2⟩ := S.ob n b o hn
        have hfe : F' n = e.fp n := funext fun g => propext (fo hd)
        exact ⟨Ob.same (e := e) (e' := Env.mk e.blk e.val F' e.one) ⟨rfl, rfl, hfe⟩ k1 fun m _ => ⟨rfl, rfl⟩, fun g hg => k2 g ((fo hd).1 hg)⟩
    · have hg1 : F' n g := hg
      have hg2 : F' m g := hg'
      rcases look_redo k H n us with ⟨u, hu, h4, h5⟩ | ⟨h4, h5⟩
      · subst h4
        have hd : D u.1 := ⟨u, hu, rfl⟩
        rw [fd hd] at hg1
        rcases look_redo k H m us with ⟨u', hu', h6, h7⟩ | ⟨h6, h7⟩
        · subst h6
          rw [fd ⟨u', hu', rfl⟩] at hg2
          exact h3 u hu u' hu' hne g hg1 hg2
        · rw [h7] at hm
          rw [fo fun ⟨u', hu', h⟩ => h6 u' hu' h] at hg2
          obtain ⟨u2, hu2, hg3⟩ := h2 u hu g hg1
          exact S.dj _ _ _ _ _ (hl u2 hu2) hm (fun h => h6 u2 hu2 h) g hg3 hg2
      · rw [h5] at hn
        rw [fo fun ⟨u, hu, h⟩ => h4 u hu h] at hg1
        rcases look_redo k H m us with ⟨u', hu', h6, h7⟩ | ⟨h6, h7⟩
        · subst h6
          rw [fd ⟨u', hu', rfl⟩] at hg2
          obtain ⟨u2, hu2, hg3⟩ := h2 u' hu' g hg2
          exact S.dj _ _ _ _ _ hn (hl u2 hu2) (fun h => h4 u2 hu2 h.symm) g hg1 hg3
        · rw [h7] at hm
          rw [fo fun ⟨u', hu', h⟩ => h6 u' hu' h] at hg2
          exact S.dj _ _ _ _ _ hn hm hne g hg1 hg2⟩
/-- A cell that holds a slice's value that is told of: the slice gets a name. -/
theorem At.rawC5 {s n cp : Nat} {A : Option Addr} {xs : List Value} {b : Bool} {cs cs' : List CV} {T : TypeId} (k i q : Nat) (hq : lookH H q = some (false, .ab (rawS s (.slice A n cp) xs))) (hk : lookH H k = some (b, .cells cs T)) (hi : cs[i]? = some (.raw (.slice A n cp))) (hcs : cs.set i (.nm nx) = cs') (hbr : bare (flatN (cs.map CV.ns)) = true)
    (h : At P F Q c ks L ((k, some (b, .cells cs' T)) :: (nx, some (false, .rd s n xs)) :: H) (nx + 1)) : At P F Q c ks L H nx :=
  ⟨fun hW e a w S => by
    subst hcs
    obtain ⟨⟨⟨A', n', c', h1, h2, h3⟩, _⟩, h4⟩ := S.ob q false _ hq
    cases h1
    have hone : (Value.slice A n cp).oneCell' = true := rfl
    obtain ⟨hW', S'⟩ := S.newF hW (.rd s n xs) 0 (.slice A n cp) (e.fp q) (fun m hm => by simp [Ob.ns] at hm) ⟨A, cp, by rw [Env.put3_val e hone], h2, fun a ha h0 => by rw [Env.put3_fp]; exact h3 a ha h0⟩ (fun g hg => ⟨(h4 g hg).1, fun j o' hj hg' => by
      by_cases hne : j = q
      · subst hne
        rw [hq] at hj
        cases hj
      · exact S.dj j o' q _ _ hj hq hne g hg' hg⟩)
    have hkn := (hW.h k _ hk).1
    have hk' : lookH ((nx, some (false, .rd s n xs)) :: H) k = some (b, .cells cs T) := by rw [lookH_cons, if_neg (by omega)]; exact hk
    have hval : (e.put3 nx 0 (.slice A n cp) (e.fp q)).val nx = .slice A n cp := Env.put3_val e hone
    have hden : ∀ e' : Env, e'.val nx = .slice A n cp → (cs.set i (.nm nx)).map (CV.den e') = cs.map (CV.den e') := by
      intro e' hv
      rw [List.map_set]
      apply List.ext_getElem?
      intro j
      rw [List.getElem?_set]
      split
      · rename_i hj
        subst hj
        rw [List.getElem?_map, hi]
        split
        · show some (e'.val nx) = some _; rw [hv]; rfl
        · rename_i hn
          rw [List.length_map] at hn
          rw [List.getElem?_eq_none (by omega)] at hi
          cases hi
      · rfl
    have hnil : flatN (cs.map CV.ns) = [] := by
      cases hh : flatN (cs.map CV.ns) with
      | nil => rfl
      | cons x l => rw [hh] at hbr; cases hbr
    refine h.h ⟨hW'.l, fun m z hz => ?_⟩ _ a w ⟨S'.fr, S'.sz, S'.df, S'.sl, fun m b' o hn => ?_, fun m o m' b' o' hn hm hne => ?_⟩
    · rw [lookH_cons] at hz
      split at hz
      · rename_i h0
        cases hz; subst h0
        refine ⟨by omega, fun m hm => ?_⟩
        simp only [Ob.ns] at hm
        obtain ⟨l, hl, hml⟩ := mem_flatN.1 hm
        obtain ⟨c, hc, rfl⟩ := List.mem_map.1 hl
        rcases List.mem_or_eq_of_mem_set hc with hc | rfl
        · have : m ∈ flatN (cs.map CV.ns) := mem_flatN.2 ⟨_, List.mem_map.2 ⟨c, hc, rfl⟩, hml⟩
          rw [hnil] at this; cases this
        · simp [CV.ns] at hml; omega
      · exact hW'.h m z hz
    · rw [lookH_cons] at hn
      split at hn
      · rename_i h0
        cases hn; subst h0
        obtain ⟨⟨k1, k2⟩, k3⟩ := S'.ob m b _ hk'
        exact ⟨⟨k1, by rw [hden _ hval]; exact k2⟩, k3⟩
      · exact S'.ob m b' o hn
    · have old : ∀ {m : Nat} {z : Bool × Ob}, lookH ((k, some (b, .cells (cs.set i (.nm nx)) T)) :: (nx, some (false, .rd s n xs)) :: H) m = some z → ∃ o, lookH ((nx, some (false, .rd s n xs)) :: H) m = some (z.1, o) := by
        intro m z hz
        rw [lookH_cons] at hz
        split at hz
        · rename_i h0; cases hz; subst h0; exact ⟨_, hk'⟩
        · exact ⟨z.2, hz⟩
      obtain ⟨on, hn'⟩ := old hn
      obtain ⟨om, hm'⟩ := old hm
      exact S'.dj m _ m' _ _ hn' hm' hne⟩
/-- A cell that holds a slice by a name: the slice's value is told, and the slice is written no more. -/
theorem At.freezeC {s n l : Nat} {xs : List Value} {b b2 : Bool} {o : Ob} {cs : List CV} {T : TypeId} (k i : Nat) (hk : lookH H k = some (b, .cells cs T)) (hi : cs[i]? = some (.nm l)) (hlk : lookH H l = some (b2, o)) (ho : ∀ e w, o.holds e l w → (Ob.rd s n xs).holds e l w) (hkl : k ≠ l)
    (h : ∀ A m, At P F Q c ks L ((k, some (b, .cells (cs.set i (.raw (.slice A n m))) T)) :: (l, some (b2, .ab (rawS s (.slice A n m) xs))) :: H) nx) : At P F Q c ks L H nx :=
  ⟨fun hW e a w S => by
    obtain ⟨hol, hlt⟩ := S.ob l b2 _ hlk
    obtain ⟨A, m, q1, q2, q3⟩ := ho e w hol
    have hden : (cs.set i (.raw (.slice A n m))).map (CV.den e) = cs.map (CV.den e) := by
      rw [List.map_set]
      apply List.ext_getElem?
      intro j
      rw [List.getElem?_set]
      split
      · rename_i hj
        subst hj
        rw [List.getElem?_map, hi]
        split
        · show some (Value.slice A n m) = some (e.val l); rw [q1]
        · rename_i hn
          rw [List.length_map] at hn
          rw [List.getElem?_eq_none (by omega)] at hi
          cases hi
      · rfl
    have old : ∀ {j : Nat} {z : Bool × Ob}, lookH ((k, some (b, .cells (cs.set i (.raw (.slice A n m))) T)) :: (l, some (b2, .ab (rawS s (.slice A n m) xs))) :: H) j = some z → ∃ o, lookH H j = some (z.1, o) := by
      intro j z hz
      rw [lookH_cons] at hz
      split at hz
      · rename_i h0; cases hz; subst h0; exact ⟨_, hk⟩
      · rw [lookH_cons] at hz
        split at hz
        · rename_i h0; cases hz; subst h0; exact ⟨_, hlk⟩
        · exact ⟨z.2, hz⟩
    refine (h A m).h ⟨hW.l, fun j z hz => ?_⟩ e a w ⟨S.fr, S.sz, S.df, S.sl, fun j b' o hn => ?_, fun j o j' b' o' hn hm hne => ?_⟩
    · rw [lookH_cons] at hz
      split at hz
      · rename_i h0
        cases hz; subst h0
        obtain ⟨g1, g2⟩ := hW.h j _ hk
        refine ⟨g1, fun p hp => ?_⟩
        simp only [Ob.ns] at hp
        obtain ⟨y, hy, hpy⟩ := mem_flatN.1 hp
        obtain ⟨c, hc, rfl⟩ := List.mem_map.1 hy
        rcases List.mem_or_eq_of_mem_set hc with hc | rfl
        · exact g2 p (by simp only [Ob.ns]; exact mem_flatN.2 ⟨_, List.mem_map.2 ⟨c, hc, rfl⟩, hpy⟩)
        · simp [CV.ns] at hpy
      · rw [lookH_cons] at hz
        split at hz
        · rename_i h0
          cases hz; subst h0
          exact ⟨(hW.h j _ hlk).1, fun p hp => by simp [Ob.ns] at hp⟩
        · exact hW.h j z hz
    · rw [lookH_cons] at hn
      split at hn
      · rename_i h0
        cases hn; subst h0
        obtain ⟨⟨k1, k2⟩, k3⟩ := S.ob j b _ hk
        exact ⟨⟨k1, by rw [hden]; exact k2⟩, k3⟩
      · rw [lookH_cons] at hn
        split at hn
        · rename_i h0
          cases hn; subst h0
          exact ⟨⟨⟨A, n, m, rfl, q2, q3⟩, rawS_stable⟩, hlt⟩
        · exact S.ob j b' o hn
    · obtain ⟨on, hn'⟩ := old hn
      obtain ⟨om, hm'⟩ := old hm
      exact S.dj j _ j' _ _ hn' hm' hne⟩
end
theorem rd_of_own {T : TypeId} {s n l : Nat} {xs : List Value} (e : Env) (w : World) (h : (Ob.own T s n xs).holds e l w) : (Ob.rd s n xs).holds e l w := by
  have hob : (Ob.rd s n xs).holds (e.ren []) l w := Ob.eqs_ok (o := .own T s n xs) (ρ := []) (by repeat' (first | exact trivial | exact rfl | refine And.intro ?_ ?_)) h
  exact hob
/-- A function that reads something told in other words: a view of what is there. -/
theorem fnh_via {P : Program} {f : FuncId} {bs : List TV} {H H0 : HL} {nx k0 : Nat} {u y : TV} {v' : SV} {news' : List (Bool × Ob)} (hwf0 : ∀ n z, lookH H0 n = some z → n < k0 ∧ ∀ m ∈ z.2.ns, m < k0) (hy : ∀ n ∈ y.ns, n < k0) (hbs : bares bs = true)
    (hvr : inR 0 news'.length v'.ns = true) (hnr : newsR 0 news'.length news' = true)
    (hview : ∀ e w, MemOk H e w → ∃ e0, MemOk H0 e0 w ∧ u.den e = y.den e0)
    (h : FnH P f (y :: bs) H0 k0 ⟨v'.re (k0 + ·), reN (k0 + ·) news', [], []⟩) : FnH P f (u :: bs) H nx ⟨v'.re (nx + ·), reN (nx + ·) news', [], []⟩ := by
  refine ⟨fun hwf _ e w M => ?_⟩
  obtain ⟨e0', hM, hu⟩ := hview e w M
  have := h.h hwf0 (fun a ha n hn => by
      rcases List.mem_cons.1 ha with rfl | ha
      · exact hy n hn
      · exact (bares_no hbs a ha n hn).elim) e0' w hM
  have hargs : (u :: bs).map (TV.den e) = (y :: bs).map (TV.den e0') := by
    rw [List.map_cons, List.map_cons, bares_den hbs e, bares_den hbs e0', hu]
  rw [hargs]
  refine Calls.mono this ?_
  rintro en w' ⟨e1, rfl, K⟩
  have hkeep : ∀ g, g < w.heap.size → w'.heap[g]? = w.heap[g]? := fun g hg => K.block g hg fun n o ho => (by cases ho)
  have hnw : ∀ {j : Nat} {b : Bool} {o : Ob}, news'[j]? = some (b, o) → (o.re (k0 + ·)).holds e1 (k0 + j) w' ∧ ∀ g, e1.fp (k0 + j) g → g < w'.heap.size ∧ w.heap.size ≤ g := by
    intro j b o hj
    have hj' : (reN (k0 + ·) news')[j]? = some (b, o.re (k0 + ·)) := by rw [reN_get, hj]; rfl
    cases K with
    | old K =>
      obtain ⟨a1, a2⟩ := K.news j b _ hj'
      refine ⟨a1, fun g hg => ⟨(a2 g hg).1, ?_⟩⟩
      rcases (a2 g hg).2 with a3 | ⟨n, hn, _⟩
      · exact a3
      · cases hn
    | anew K =>
      obtain ⟨a1, a2⟩ := K.news j b _ hj'
      refine ⟨a1, fun g hg => ⟨(a2 g hg).1, ?_⟩⟩
      rcases (a2 g hg).2 with a3 | ⟨n, o', hn, _⟩
      · exact a3
      · cases hn
  have hndj : ∀ j k, j < news'.length → k < news'.length → j ≠ k → ∀ g, e1.fp (k0 + j) g → ¬ e1.fp (k0 + k) g := by
    cases K with
    | old K => exact fun j k hj hk => K.ndj j k (by simpa [reN_length] using hj) (by simpa [reN_length] using hk)
    | anew K => exact fun j k hj hk => K.ndj j k (by simpa [reN_length] using hj) (by simpa [reN_length] using hk)
  let e2 : Env := e1.comp (k0 + ·)
  refine ⟨e.open e2 nx news'.length, ?_, .old ⟨?_, K.os, K.tape, K.out, K.size, fun g hg _ => hkeep g hg, ?_, ?_, fun n o ho => (by cases ho)⟩⟩
  · show Ending.returned ((v'.re (k0 + ·)).den e1) = _
    have a1 : (v'.re (k0 + ·)).den e1 = v'.den e2 := SV.re_den (e := e2) (e' := e1) fun n _ => ⟨rfl, rfl⟩
    rw [a1, SV.re_den (e := e2) fun n hn => (Env.open_new e e2 (inR_ok hvr n hn).2).1]
  · intro n hn
    simp only [reN_length] at hn
    refine ⟨?_, ?_, ?_⟩ <;> (show (if _ then _ else _) = _; rw [if_neg (by omega)])
  · intro k b o hk
    rw [reN_get] at hk
    cases hk' : news'[k]? with
    | none => rw [hk'] at hk; cases hk
    | some z =>
      rw [hk'] at hk
      cases hk
      obtain ⟨b, o⟩ := z
      have hltk : k < news'.length := by
        rcases Nat.lt_or_ge k news'.length with hl | hl
        · exact hl
        · rw [List.getElem?_eq_none hl] at hk'; cases hk'
      obtain ⟨q1, q2⟩ := hnw hk'
      obtain ⟨p1, p2⟩ := Env.open_new e e2 (nx := nx) hltk
      have q1' : o.holds e2 k w' := Ob.re_back (r := (k0 + ·)) (n := k) q1
      refine ⟨Ob.re_holds p1 p2 (fun m hm => (Env.open_new e e2 (newsR_ok hnr k b o hk' m hm).2).1) q1', fun g hg => ?_⟩
      rw [p2] at hg
      exact ⟨(q2 g hg).1, .inl (q2 g hg).2⟩
  · intro j k hj hk hne g hg hg'
    simp only [reN_length] at hj hk
    rw [(Env.open_new e e2 hj).2] at hg
    rw [(Env.open_new e e2 hk).2] at hg'
    exact hndj j k hj hk hne g hg hg'
end Vc
namespace Cw
open Go Vc
open Go.Proofs
set_option maxRecDepth 100000
def rfO (A : Option Addr) (n cp b : Nat) : List (Bool × Ob) := [(true, .cells [.raw (.slice A n cp)] 28), (false, .pin 0 b)]
/-- The document's changes: the struct; the row stands elsewhere. -/
def rfP (A : Option Addr) (n cp b : Nat) : AbP := absP (rfO A n cp b) (.p 0 0)
theorem rf_pins (A : Option Addr) (n cp b : Nat) : Pins (rfP A n cp b) (ptr b) := pins_abs (k := 1) rfl
def rwO (V : DV) (b : Nat) : List (Bool × Ob) := [(true, .cells [.nm 1] 28), (true, .own 74 5 V.length (rdc V)), (false, .pin 0 b)]
/-- With a row of its own. -/
def rwP (V : DV) (b : Nat) : AbP := absP (rwO V b) (.p 0 0)
theorem rw_pins (V : DV) (b : Nat) : Pins (rwP V b) (ptr b) := pins_abs (k := 2) rfl
theorem set_rdc {V : DV} {i : Nat} {s : Int} (h : i < V.length) : Vc.setAt (rdc V) ((i : Int).toNat * 5 + 4) [Value.int .i64 s] = rdc (V.modify i (stf s)) := by
  have h1 : V.modify i (stf s) = V.set i (stf s V[i]) := by
    apply List.ext_getElem?
    intro j
    rw [List.getElem?_modify, List.getElem?_set]
    by_cases hj : i = j
    · subst hj; simp [h]
    · simp [hj]
  rw [h1, Int.toNat_natCast]
  exact set_fcs rdC_len h (by decide) rfl
/-- Changes by numbers, in a state from now on. -/
def setV (V : DV) (ns : List Int) (s : Int) : DV := setP V (ns.map fun n => n - 1) s
theorem setV_len (V : DV) (ns : List Int) (s : Int) : (setV V ns s).length = V.length := setP_len _ _ _
theorem RR.set {V : DV} {W : List (List Int × Option Addr × Nat)} {R : List Ch} (h : RR V W R) {ns : List Int} {s : Int} {p : Ch → Bool} (hn : ∀ n ∈ ns, 1 ≤ n) (hp : ∀ (i : Nat) (hi : i < R.length), ((i : Int) + 1 ∈ ns ↔ p R[i] = true)) (hd : DepOk (setF p s R)) : RR (setV V ns s) W (setF p s R) := by
  have h0 : ∀ x ∈ ns.map (fun n => n - 1), (0 : Int) ≤ x := fun x hx => by
    obtain ⟨n, hn', rfl⟩ := List.mem_map.1 hx
    have := hn n hn'
    show 0 ≤ n - 1
    omega
  have h1 : ∀ (i : Nat) (hi : i < V.length), (i : Int) ∈ ns.map (fun n => n - 1) ↔ p V[i].1 = true := fun i hi => by
    rw [h.at hi (by have := h.len; omega), ← hp i]
    rw [List.mem_map]
    constructor
    · rintro ⟨n, hn', e⟩
      have : n = (i : Int) + 1 := by omega
      rw [← this]; exact hn'
    · intro hi'
      exact ⟨_, hi', by omega⟩
  refine ⟨by rw [setV, setP_eq h0 h1, h.eq], h.sub.setP h0, hd, by rw [setF_len]; exact h.z, fun c hc => ?_, fun c hc => ?_⟩
  · obtain ⟨x, hx, rfl⟩ := setF_mem hc
    rw [(setF_ah p s x).1]
    exact h.zah x hx
  · obtain ⟨x, hx, rfl⟩ := setF_mem hc
    have := h.okp x hx
    split <;> exact this
theorem rdc_one (V : DV) : ∀ u ∈ rdc V, u.oneCell' = true := by
  intro u hu
  obtain ⟨l, hl, hu⟩ := List.mem_flatten.1 hu
  obtain ⟨p, _, rfl⟩ := List.mem_map.1 hl
  simp only [rdC, List.mem_cons, List.not_mem_nil, or_false] at hu
  rcases hu with rfl | rfl | rfl | rfl | rfl <;> rfl
section
variable {H : HL} {nx d s m q b cp : Nat} {A : Option Addr} {b1 b2 b3 : Bool} {V : DV} {W : List (List Int × Option Addr × Nat)} {R : List Ch}
set_option maxRecDepth 100000 in
set_option maxHeartbeats 4000000 in
theorem rsetA {ns : List Int} (hd : lookH H d = some (true, .ab (rfP A V.length cp b))) (hs : lookH H s = some (b1, .ab (rawS 5 (.slice A V.length cp) (rdc V)))) (hm : lookH H m = some (b2, .own 3 1 ns.length (ivs ns))) (hds : inL s [d] = false) (hdm : inL m [d] = false) (hz : V.length ≤ 100000) (hn : ∀ n ∈ ns, 1 ≤ n ∧ n ≤ (V.length : Int)) (zn : ns.length ≤ 1000000) (st : Int) :
    FnH Try.prog 53 [.c (.nm d), .c (.nm m), .c (iT st)] H nx ⟨.tup [], [], [(d, some (.ab (rwP (setV V ns st) b)))], []⟩ := by
  refine fnAs (fn := Try.f53) 34 rfl rfl rfl (args' := [.c (.nm 0), .c (.nm 2), .c (iT st)]) [(d, rfP A V.length cp b, rwP (setV V ns st) b)] [(s, .ab (rawS 5 (.slice A V.length cp) (rdc V))), (m, .own 3 1 ns.length (ivs ns))] ⟨⟨hd, ptr b, rf_pins _ _ _ _, rw_pins _ _⟩, trivial⟩ ⟨⟨⟨_, hs⟩, fun _ => rfl, hds⟩, ⟨⟨_, hm⟩, fun _ => rfl, hdm⟩, trivial⟩ (by simp) rfl rfl rfl rfl (v' := .tup []) (news' := []) rfl rfl rfl rfl rfl fun w Wr => ?_
  refine At.unfoldTo 0 (L1 := [(0, .t (.c (.p 3 0))), (1, .t (.c (.nm 2))), (2, .t (.c (iT st)))]) (H1 := [(3, some (true, .cells [.raw (.slice A V.length cp)] 28)), (4, some (false, .pin 3 b)), (0, none), (0, some (true, .ab (rfP A V.length cp b))), (1, some (false, .ab (rawS 5 (.slice A V.length cp) (rdc V)))), (2, some (false, .own 3 1 ns.length (ivs ns)))]) (nx1 := 5) rfl rfl rfl rfl rfl rfl ?_
  refine At.rawC5 (cs' := [.nm 5]) 3 0 1 rfl rfl rfl rfl rfl ?_
  have k1 : 0 + V.length ≤ maxLen := by simp [maxLen]; omega
  have k2 : (0 + V.length) * 64 ≤ 140737488355328 := by omega
  refine rn [(8, .dec true)] rfl (by (repeat' (first | exact trivial | exact rfl | exact trivial | exact fun _ => trivial | first | exact k1 | exact k2 | exact rdc_one V | decide | refine And.intro ?_ ?_))) ?_
  have e0 : 0 + V.length = (setV V (ns.take 0) st).length := by rw [setV_len]; omega
  refine At.loop (X := (j : Nat) ×' (j ≤ ns.length)) 7 (fun x => ns.length - x.1)
    (fun x => [(0, .t (.c (.p 3 0))), (1, .t (.c (.nm 2))), (2, .t (.c (iT st))), (6, .t (.c (iT (x.1 : Nat))))])
    (fun x => [(2, some (false, .own 3 1 ns.length (ivs ns))), (3, some (true, .cells [.nm 6] 28)), (4, some (false, .pin 3 b)), (6, some (true, .own 74 5 V.length (rdc (setV V (ns.take x.1) st))))]) ⟨0, by omega⟩ [(6, 7)] (fun x => wf rfl rfl) (by repeat' (first | exact trivial | exact rfl | refine And.intro ?_ ?_)) (by (repeat' (first | exact trivial | exact rfl | exact trivial | exact fun _ => trivial | first | exact Nat.zero_add _ | rfl | refine And.intro ?_ ?_))) rfl fun x => ?_
  obtain ⟨j, hj⟩ := x
  have w3 : IntKind.i64.wrap ((j : Int) + 1) = ((j + 1 : Nat) : Int) := by rw [wrap_sm (by omega) (by omega)]; omega
  refine rn [] rfl (by repeat' (first | exact trivial | exact rfl | refine And.intro ?_ ?_)) ?_
  refine ⟨fun h => ?_, fun h => ?_⟩
  · have hlt : j < ns.length := by have : (j : Int) < (ns.length : Int) := of_decide_eq_true h; omega
    clear h
    obtain ⟨p0, p1⟩ := hn ns[j] (List.getElem_mem hlt)
    have e1 : (ivs ns)[(j : Int).toNat * 1]? = some (.int .i64 ns[j]) := by simpa using ivs_at hlt
    have hsu : setV V (ns.take (j + 1)) st = (setV V (ns.take j) st).modify (ns[j] - 1).toNat (stf st) := by rw [setV, List.take_succ_eq_append_getElem hlt, List.map_append, List.map_cons, List.map_nil, setP_snoc]; rfl
    obtain ⟨i, hi⟩ : ∃ i : Nat, ns[j] - 1 = (i : Int) := ⟨(ns[j] - 1).toNat, by omega⟩
    have hiv : i < (setV V (ns.take j) st).length := by rw [setV_len]; omega
    have hst := set_rdc (s := st) hiv
    rw [hi, Int.toNat_natCast] at hsu
    rw [← hsu] at hst
    have wn : IntKind.i64.wrap (ns[j] - 1) = (i : Int) := by rw [wrap_sm (by omega) (by omega)]; exact hi
    rw [← wn] at hst
    have hr := rdc_length (setV V (ns.take j) st)
    rw [setV_len] at hr
    generalize ns[j] = n at *
    have b0 : (0 : Int) ≤ (j : Int) := by omega
    have b1 : (j : Int) < (ns.length : Int) := by omega
    have d0 : (0 : Int) ≤ IntKind.i64.wrap (n - 1) := by omega
    have d1 : IntKind.i64.wrap (n - 1) < (V.length : Int) := by omega
    have c5 : (IntKind.i64.wrap (n - 1)).toNat * 5 + 4 + 1 ≤ (rdc (setV V (ns.take j) st)).length := by rw [hr, wn, Int.toNat_natCast]; omega
    have c6 : (IntKind.i64.wrap (n - 1)).toNat * 5 + 4 < (rdc (setV V (ns.take j) st)).length := c5
    have c7 : (IntKind.i64.wrap (n - 1)).toNat * 5 < (rdc (setV V (ns.take j) st)).length := by omega
    refine rn [(29, .ld [iT n])] rfl (by (repeat' (first | exact trivial | exact rfl | exact trivial | exact fun _ => trivial | first | exact e1 | exact ⟨e1, trivial⟩ | exact b0 | exact b1 | exact d0 | exact d1 | exact c5 | exact c6 | exact c7 | decide | refine And.intro ?_ ?_))) ?_
    exact roundEnd ⟨j + 1, by omega⟩ [] (by show ns.length - (j + 1) < ns.length - j; omega) (by (repeat' (first | exact trivial | exact rfl | exact w3 | exact fun _ => w3 | refine And.intro ?_ ?_))) (by (repeat' (first | exact trivial | exact rfl | exact trivial | exact fun _ => trivial | exact hst | refine And.intro ?_ ?_))) rfl
  · have hlt : j = ns.length := by have : ¬ (j : Int) < (ns.length : Int) := of_decide_eq_false h; omega
    have hw : ns.take j = ns := by rw [hlt, List.take_length]
    refine rn [] rfl (by repeat' (first | exact trivial | exact rfl | refine And.intro ?_ ?_)) (roundExit rfl ?_)
    refine rnA [] rfl (by repeat' (first | exact trivial | exact rfl | refine And.intro ?_ ?_)) ?_
    rw [hw]
    refine Done.fold [(0, 3), (1, 6), (2, 4)] (rwO (setV V ns st) b) (.p 0 0) (by (repeat' (first | exact trivial | exact rfl | exact trivial | exact fun _ => trivial | exact (setV_len V ns st).symm | refine And.intro ?_ ?_))) rfl rfl (fun _ => rfl) ?_
    exact endM tysOk [(0, 7)] rfl (by repeat' (first | exact trivial | exact rfl | refine And.intro ?_ ?_)) (by repeat' (first | exact trivial | exact rfl | refine And.intro ?_ ?_)) rfl rfl
/-- A reader of the open changes, called of those that are shut. -/
theorem view_rf {x : CV} {e : Env} {w : World} (h0 : ∃ bb, w.heap[bb]? = some (.cells #[.slice A V.length cp] 28 (0, 0)) ∧ bb < w.heap.size ∧ (TV.c x).den e = .pointer (some ⟨bb, 0, none⟩)) (hs : lookH H s = some (b1, .ab (rawS 5 (.slice A V.length cp) (rdc V)))) (hq : lookH H q = some (b2, .ab (frzP W))) (M : MemOk H e w) : ∃ e0, MemOk (hRr V W) e0 w ∧ (TV.c x).den e = (TV.c (.p 0 0)).den e0 := by
  obtain ⟨bb, h1, h2, h3⟩ := h0
  obtain ⟨⟨⟨A', n', c', q1, q2, q3⟩, _⟩, q4⟩ := M.ob s b1 _ hs
  cases q1
  obtain ⟨⟨p1, p2⟩, p3⟩ := M.ob q b2 _ hq
  refine ⟨⟨fun _ => bb, fun n => if n = 1 then .slice A V.length cp else uv, fun n => if n = 0 then (fun g => g = bb) else if n = 1 then e.fp s else e.fp q, fun n => by
    show (if n = 1 then Value.slice A V.length cp else uv).oneCell' = true
    split <;> rfl⟩, ⟨fun n b o hn => ?_, fun n o m c q hn hm hne => ?_⟩, by rw [h3]; rfl⟩
  · rw [hRr, lookH_cons] at hn
    split at hn
    · rename_i h
      cases hn; subst h
      exact ⟨⟨fun g => Iff.rfl, h1⟩, fun g hg => by rw [show g = bb from hg]; exact h2⟩
    · rw [lookH_cons] at hn
      split at hn
      · rename_i h
        cases hn; subst h
        exact ⟨⟨A, cp, rfl, q2, q3⟩, q4⟩
      · rw [lookH_cons] at hn
        split at hn
        · rename_i h
          cases hn; subst h
          exact ⟨⟨p1, p2⟩, p3⟩
        · cases hn
  · rw [hRr, lookH_cons] at hn
    split at hn
    · cases hn
    · rw [lookH_cons] at hn
      split at hn
      · cases hn
      · rw [lookH_cons] at hn
        split at hn
        · cases hn
        · cases hn
theorem hRr_wf (V : DV) (W : List (List Int × Option Addr × Nat)) : ∀ n z, lookH (hRr V W) n = some z → n < 3 ∧ ∀ m ∈ z.2.ns, m < 3 := (wf (L := []) rfl rfl : WF [] (hRr V W) 3).h
theorem rf_blk {e : Env} {w : World} (hd : lookH H d = some (b3, .ab (rfP A V.length cp b))) (M : MemOk H e w) : ∃ bb, w.heap[bb]? = some (.cells #[.slice A V.length cp] 28 (0, 0)) ∧ bb < w.heap.size ∧ (TV.c (.nm d)).den e = .pointer (some ⟨bb, 0, none⟩) := by
  obtain ⟨⟨hp, _⟩, h4⟩ := M.ob d b3 _ hd
  have hpin := rf_pins _ _ _ _ _ _ _ hp
  obtain ⟨e1, g1, g2, g3, g4, g5⟩ := hp
  obtain ⟨⟨k1, k2⟩, _⟩ := g2 0 _ _ rfl
  have : (TV.c (.nm d)).den e = e.val d := rfl
  rw [this, g1]
  refine ⟨e1.blk 0, k2, ?_, rfl⟩
  exact g5 _ ((g4 _).2 ⟨0, Nat.zero_lt_succ _, (k1 _).2 rfl⟩)
theorem fnh_rf {f : FuncId} {bs : List TV} {v' : SV} {news' : List (Bool × Ob)} (hd : lookH H d = some (b3, .ab (rfP A V.length cp b))) (hs : lookH H s = some (b1, .ab (rawS 5 (.slice A V.length cp) (rdc V)))) (hq : lookH H q = some (b2, .ab (frzP W))) (hbs : bares bs = true) (hvr : inR 0 news'.length v'.ns = true) (hnr : newsR 0 news'.length news' = true)
    (h : FnH Try.prog f (.c (.p 0 0) :: bs) (hRr V W) 3 ⟨v'.re (3 + ·), reN (3 + ·) news', [], []⟩) : FnH Try.prog f (.c (.nm d) :: bs) H nx ⟨v'.re (nx + ·), reN (nx + ·) news', [], []⟩ :=
  fnh_via (hRr_wf V W) (fun n hn => by simp [TV.ns, CV.ns] at hn; omega) hbs hvr hnr (fun e w M => view_rf (rf_blk hd M) hs hq M) h
theorem fnh_rc {f : FuncId} {bs : List TV} {v' : SV} {news' : List (Bool × Ob)} (hd : lookH H d = some (b3, .cells [.raw (.slice A V.length cp)] 28)) (hs : lookH H s = some (b1, .ab (rawS 5 (.slice A V.length cp) (rdc V)))) (hq : lookH H q = some (b2, .ab (frzP W))) (hbs : bares bs = true) (hvr : inR 0 news'.length v'.ns = true) (hnr : newsR 0 news'.length news' = true)
    (h : FnH Try.prog f (.c (.p 0 0) :: bs) (hRr V W) 3 ⟨v'.re (3 + ·), reN (3 + ·) news', [], []⟩) : FnH Try.prog f (.c (.p d 0) :: bs) H nx ⟨v'.re (nx + ·), reN (nx + ·) news', [], []⟩ :=
  fnh_via (hRr_wf V W) (fun n hn => by simp [TV.ns, CV.ns] at hn; omega) hbs hvr hnr (fun e w M => view_rf (by
    obtain ⟨⟨k1, k2⟩, k3⟩ := M.ob d b3 _ hd
    exact ⟨e.blk d, k2, k3 _ ((k1 _).2 rfl), rfl⟩) hs hq M) h
theorem rofS (hd : lookH H d = some (b3, .ab (rfP A V.length cp b))) (hs : lookH H s = some (b1, .ab (rawS 5 (.slice A V.length cp) (rdc V)))) (hq : lookH H q = some (b2, .ab (frzP W))) (h : RR V W R) (k : Int) :
    FnH Try.prog 52 [.c (.nm d), .c (iT k), .c (iT 2)] H nx ⟨.t (.c (.nm nx)), [(true, .own 3 1 (ofN R k 2).length (ivs (ofN R k 2)))], [], []⟩ := by
  have := rofU (H := hRr V W) (nx := 3) (d := 0) (l := 1) (q := 2) rfl rfl rfl h k 2
  rw [rof_fly] at this
  exact fnh_rf (v' := .t (.c (.nm 0))) (news' := [(true, .own 3 1 (ofN R k 2).length (ivs (ofN R k 2)))]) hd hs hq rfl rfl rfl this
theorem rreadyS (hd : lookH H d = some (b3, .ab (rfP A V.length cp b))) (hs : lookH H s = some (b1, .ab (rawS 5 (.slice A V.length cp) (rdc V)))) (hq : lookH H q = some (b2, .ab (frzP W))) (h : RR V W R) (k : Int) :
    FnH Try.prog 32 [.c (.nm d), .c (iT k)] H nx ⟨.t (.c (.nm nx)), [(true, .own 3 1 (rdyN R k).length (ivs (rdyN R k)))], [], []⟩ :=
  fnh_rf (v' := .t (.c (.nm 0))) (news' := [(true, .own 3 1 (rdyN R k).length (ivs (rdyN R k)))]) hd hs hq rfl rfl rfl (rreadyU (H := hRr V W) (nx := 3) (d := 0) (l := 1) (q := 2) rfl rfl rfl h k)
def rtO (V : DV) (A : Option Addr) (cp : Nat) (E : List (List Int × Option Addr × Nat)) (b : Nat) : List (Bool × Ob) := [(true, .cells [.raw (.slice A V.length cp)] 28), (false, .pin 0 b), (true, .ab (rawS 5 (.slice A V.length cp) (rdc V))), (true, .ab (frzP E))]
/-- What a method leaves of the document's changes: as they were, or with a row of their own. -/
def refT (W : List (List Int × Option Addr × Nat)) (V : DV) (A : Option Addr) (cp : Nat) (R : List Ch) (b : Nat) : AbP :=
  orP (exP fun _ : PLift (RR V W R) => rfP A V.length cp b) (exP fun y : { y : DV × Option Addr × Nat × List (List Int × Option Addr × Nat) // RR y.1 (W ++ y.2.2.2) R } => absP (rtO y.1.1 y.1.2.1 y.1.2.2.1 y.1.2.2.2 b) (.p 0 0))
theorem refT_st (W : List (List Int × Option Addr × Nat)) (V : DV) (A : Option Addr) (cp : Nat) (R : List Ch) (b : Nat) : stable (refT W V A cp R b) := orP_stable (exP_stable fun _ => absP_stable _ _) (exP_stable fun _ => absP_stable _ _)
theorem refT_pins (W : List (List Int × Option Addr × Nat)) (V : DV) (A : Option Addr) (cp : Nat) (R : List Ch) (b : Nat) : Pins (refT W V A cp R b) (ptr b) := fun v F w h => h.elim (fun ⟨_, h⟩ => rf_pins _ _ _ _ v F w h) fun ⟨y, h⟩ => pins_abs (O := rtO y.1.1 y.1.2.1 y.1.2.2.1 y.1.2.2.2 b) (k := 1) rfl v F w h
theorem refT_old (h : RR V W R) : ∀ v F w, rfP A V.length cp b v F w → refT W V A cp R b v F w := fun _ _ _ hp => .inl ⟨⟨h⟩, hp⟩
theorem refT_new {V' : DV} {A' : Option Addr} {cp' : Nat} {E : List (List Int × Option Addr × Nat)} (h : RR V' (W ++ E) R) : ∀ v F w, absP (rtO V' A' cp' E b) (.p 0 0) v F w → refT W V A cp R b v F w := fun _ _ _ hp => .inr ⟨⟨(V', A', cp', E), h⟩, hp⟩
theorem rdyN_pl (hn : numd R) {k : Int} {i : Nat} (hi : i < R.length) : (i : Int) + 1 ∈ rdyN R k ↔ (rdyN R k).contains R[i].no = true := by rw [hn i hi, List.contains_iff_mem]
theorem ofN_at (hn : numd R) {k : Int} {i : Nat} (hi : i < R.length) : (i : Int) + 1 ∈ ofN R k 2 ↔ flyB k R[i] = true := by
  rw [ofN, List.mem_map]
  constructor
  · rintro ⟨c, hc, e⟩
    obtain ⟨h1, h2⟩ := List.mem_filter.1 hc
    have : c = R[i] := uniq hn.nodup h1 (List.getElem_mem hi) (by rw [e, hn i hi])
    rw [← this]; exact h2
  · intro h
    exact ⟨R[i], List.mem_filter.2 ⟨List.getElem_mem hi, h⟩, hn i hi⟩
theorem RR.send (h : RR V W R) (k : Int) : RR (setV V (rdyN R k) 2) W (setN (rdyN R k) 2 R) := h.set (fun n hn => (rdyN_in h.dep hn).1) (fun _ hi => rdyN_pl h.dep.num hi) (h.dep.send k)
theorem fly_none {k : Int} (h : (ofN R k 2).length = 0) (s : Int) : setK k s R = R := by
  have h0 : ofN R k 2 = [] := List.length_eq_zero_iff.1 h
  rw [setK, setF]
  conv => rhs; rw [← List.map_id R]
  refine List.map_congr_left fun c hc => ?_
  have : flyB k c ≠ true := fun hb => by
    have : c.no ∈ ofN R k 2 := List.mem_map.2 ⟨c, List.mem_filter.2 ⟨hc, hb⟩, rfl⟩
    rw [h0] at this
    cases this
  rw [if_neg this]; rfl
set_option maxRecDepth 100000 in
set_option maxHeartbeats 4000000 in
theorem rsendA (hd : lookH H d = some (true, .ab (rfP A V.length cp b))) (hs : lookH H s = some (b1, .ab (rawS 5 (.slice A V.length cp) (rdc V)))) (hq : lookH H q = some (b2, .ab (frzP W))) (hds : inL s [d] = false) (hdq : inL q [d] = false) (h : RR V W R) (k : Int) :
    FnH Try.prog 24 [.c (.nm d), .c (iT k)] H nx ⟨.tup [.c (.nm nx), .c (iT (sdE' R k))], [(true, .own 3 1 (sdL' R k).length (ivs (sdL' R k)))], [(d, some (.ab (refT W V A cp (sdR R k) b)))], []⟩ := by
  refine fnAs (fn := Try.f24) 22 rfl rfl rfl (args' := [.c (.nm 0), .c (iT k)]) [(d, rfP A V.length cp b, refT W V A cp (sdR R k) b)] [(s, .ab (rawS 5 (.slice A V.length cp) (rdc V))), (q, .ab (frzP W))] ⟨⟨hd, ptr b, rf_pins _ _ _ _, refT_pins _ _ _ _ _ _⟩, trivial⟩ ⟨⟨⟨_, hs⟩, fun _ => rfl, hds⟩, ⟨⟨_, hq⟩, fun _ => rfl, hdq⟩, trivial⟩ (by simp) rfl rfl rfl rfl (v' := .tup [.c (.nm 1), .c (iT (sdE' R k))]) (news' := [(true, .own 3 1 (sdL' R k).length (ivs (sdL' R k)))]) rfl rfl rfl rfl rfl fun w Wr => ?_
  show At _ _ _ _ _ _ [(0, some (true, .ab (rfP A V.length cp b))), (1, some (false, .ab (rawS 5 (.slice A V.length cp) (rdc V)))), (2, some (false, .ab (frzP W)))] 3
  have hof := fun (H : HL) (nx : Nat) (h0 : lookH H 0 = some (true, .ab (rfP A V.length cp b))) (h1 : lookH H 1 = some (false, .ab (rawS 5 (.slice A V.length cp) (rdc V)))) (h2 : lookH H 2 = some (false, .ab (frzP W))) => rofS (nx := nx) h0 h1 h2 h k
  have hry := fun (H : HL) (nx : Nat) (h0 : lookH H 0 = some (true, .ab (rfP A V.length cp b))) (h1 : lookH H 1 = some (false, .ab (rawS 5 (.slice A V.length cp) (rdc V)))) (h2 : lookH H 2 = some (false, .ab (frzP W))) => rreadyS (nx := nx) h0 h1 h2 h k
  by_cases hf : (ofN R k 2).length = 0
  · have g1 : decide ((0 : Int) < ((ofN R k 2).length : Int)) = false := decide_eq_false (by omega)
    by_cases hr : (rdyN R k).length = 0
    · have e1 : sdE' R k = 5 := by rw [sdE', if_pos hf, if_pos hr]
      have e2 : sdL' R k = [] := by rw [sdL', if_pos hf]; exact List.length_eq_zero_iff.1 hr
      have e3 : sdR R k = R := by rw [sdR, if_pos hf, List.length_eq_zero_iff.1 hr, setN, setF]; simp
      rw [e1, e2, e3]
      have g2 : (((rdyN R k).length : Int) == 0) = true := by simp [hr]
      refine rn [(9, .spec ⟨.t (.c (.nm 3)), [(true, .own 3 1 (ofN R k 2).length (ivs (ofN R k 2)))], [], []⟩), (11, .dec false), (14, .spec ⟨.t (.c (.nm 4)), [(true, .own 3 1 (rdyN R k).length (ivs (rdyN R k)))], [], []⟩), (17, .dec true)] rfl (by (repeat' (first | exact trivial | exact rfl | exact trivial | exact fun _ => trivial | first | exact hof _ _ rfl rfl rfl | exact hry _ _ rfl rfl rfl | exact g1 | exact g2 | refine And.intro ?_ ?_))) ?_
      refine Done.nil 4 3 1 rfl ?_
      refine Done.weak 0 (φ' := refT W V A cp R b) rfl (refT_st _ _ _ _ _ _) (refT_old h) ?_
      exact retM tysOk [(0, 0), (1, 5)] rfl (by repeat' (first | exact trivial | exact rfl | refine And.intro ?_ ?_)) (by repeat' (first | exact trivial | exact rfl | refine And.intro ?_ ?_)) rfl rfl
    · have e1 : sdE' R k = 0 := by rw [sdE', if_pos hf, if_neg hr]
      have e2 : sdL' R k = rdyN R k := by rw [sdL', if_pos hf]
      have e3 : sdR R k = setN (rdyN R k) 2 R := by rw [sdR, if_pos hf]
      rw [e1, e2, e3]
      have g2 : (((rdyN R k).length : Int) == 0) = false := by simp; exact fun h => hr (by rw [h]; rfl)
      have hlV := h.len
      have hz := h.z
      have hrl := rdyN_le R k
      have hset := fun (H : HL) (nx : Nat) (h0 : lookH H 0 = some (true, .ab (rfP A V.length cp b))) (h1 : lookH H 1 = some (false, .ab (rawS 5 (.slice A V.length cp) (rdc V)))) (h2 : lookH H 4 = some (true, .own 3 1 (rdyN R k).length (ivs (rdyN R k)))) => rsetA (nx := nx) h0 h1 h2 rfl rfl (by omega) (fun n hn => by have := rdyN_in h.dep hn; omega) (by omega) 2
      refine rn [(9, .spec ⟨.t (.c (.nm 3)), [(true, .own 3 1 (ofN R k 2).length (ivs (ofN R k 2)))], [], []⟩), (11, .dec false), (14, .spec ⟨.t (.c (.nm 4)), [(true, .own 3 1 (rdyN R k).length (ivs (rdyN R k)))], [], []⟩), (17, .dec false), (20, .spec ⟨.tup [], [], [(0, some (.ab (rwP (setV V (rdyN R k) 2) b)))], []⟩), (20007, .dec true)] rfl (by (repeat' (first | exact trivial | exact rfl | exact trivial | exact fun _ => trivial | first | exact hof _ _ rfl rfl rfl | exact hry _ _ rfl rfl rfl | exact hset _ _ rfl rfl rfl | exact g1 | exact g2 | refine And.intro ?_ ?_))) ?_
      refine At.unfold 0 rfl rfl rfl ?_
      refine At.freezeC (s := 5) (n := (setV V (rdyN R k) 2).length) (xs := rdc (setV V (rdyN R k) 2)) (l := 6) 5 0 rfl rfl rfl rd_of_own (by decide) fun A' m' => ?_
      refine rn [] rfl (by repeat' (first | exact trivial | exact rfl | refine And.intro ?_ ?_)) ?_
      refine Done.newE (frzP []) uv (frzP_stable _) rfl (fun w p hp => by cases hp) ?_
      refine Done.fold [(0, 5), (1, 7), (2, 6), (3, 8)] (rtO (setV V (rdyN R k) 2) A' m' [] b) (.p 0 0) (by repeat' (first | exact trivial | exact rfl | refine And.intro ?_ ?_)) rfl rfl (fun _ => rfl) ?_
      refine Done.weak 9 (φ' := refT W V A cp (setN (rdyN R k) 2 R) b) rfl (refT_st _ _ _ _ _ _) (refT_new (by rw [List.append_nil]; exact h.send k)) ?_
      exact retM tysOk [(0, 9), (1, 4)] rfl (by repeat' (first | exact trivial | exact rfl | refine And.intro ?_ ?_)) (by repeat' (first | exact trivial | exact rfl | refine And.intro ?_ ?_)) rfl rfl
  · have e1 : sdE' R k = 120 := by rw [sdE', if_neg hf]
    have e2 : sdL' R k = [] := by rw [sdL', if_neg hf]
    have e3 : sdR R k = R := by rw [sdR, if_neg hf]
    rw [e1, e2, e3]
    have g1 : decide ((0 : Int) < ((ofN R k 2).length : Int)) = true := decide_eq_true (by omega)
    refine rn [(9, .spec ⟨.t (.c (.nm 3)), [(true, .own 3 1 (ofN R k 2).length (ivs (ofN R k 2)))], [], []⟩), (11, .dec true)] rfl (by (repeat' (first | exact trivial | exact rfl | exact trivial | exact fun _ => trivial | first | exact hof _ _ rfl rfl rfl | exact g1 | refine And.intro ?_ ?_))) ?_
    refine Done.nil 4 3 1 rfl ?_
    refine Done.weak 0 (φ' := refT W V A cp R b) rfl (refT_st _ _ _ _ _ _) (refT_old h) ?_
    exact retM tysOk [(0, 0), (1, 4)] rfl (by repeat' (first | exact trivial | exact rfl | refine And.intro ?_ ?_)) (by repeat' (first | exact trivial | exact rfl | refine And.intro ?_ ?_)) rfl rfl
end
end Cw
namespace Cw
open Go Vc
open Go.Proofs
set_option maxRecDepth 100000
section
variable {H : HL} {nx d s m q a b cp : Nat} {A : Option Addr} {b1 b2 b3 b4 : Bool} {V : DV} {W : List (List Int × Option Addr × Nat)} {R : List Ch}
theorem RR.end_ (h : RR V W R) {k st : Int} (hd : DepOk (setK k st R)) : RR (setV V (ofN R k 2) st) W (setK k st R) := h.set (fun n hn => by rw [← rof_fly] at hn; exact (rof_in h.dep hn).1) (fun _ hi => ofN_at h.dep.num hi) hd
set_option maxRecDepth 100000 in
set_option maxHeartbeats 4000000 in
theorem rendA (hd : lookH H d = some (true, .ab (rfP A V.length cp b))) (hs : lookH H s = some (b1, .ab (rawS 5 (.slice A V.length cp) (rdc V)))) (hq : lookH H q = some (b2, .ab (frzP W))) (hds : inL s [d] = false) (hdq : inL q [d] = false) (h : RR V W R) (k st : Int) (hde : DepOk (setK k st R)) :
    FnH Try.prog 25 [.c (.nm d), .c (iT k), .c (iT st)] H nx ⟨.tup [.c (.nm nx), .c (iT (dnE' R k))], [(true, .own 3 1 (ofN R k 2).length (ivs (ofN R k 2)))], [(d, some (.ab (refT W V A cp (setK k st R) b)))], []⟩ := by
  refine fnAs (fn := Try.f25) 20 rfl rfl rfl (args' := [.c (.nm 0), .c (iT k), .c (iT st)]) [(d, rfP A V.length cp b, refT W V A cp (setK k st R) b)] [(s, .ab (rawS 5 (.slice A V.length cp) (rdc V))), (q, .ab (frzP W))] ⟨⟨hd, ptr b, rf_pins _ _ _ _, refT_pins _ _ _ _ _ _⟩, trivial⟩ ⟨⟨⟨_, hs⟩, fun _ => rfl, hds⟩, ⟨⟨_, hq⟩, fun _ => rfl, hdq⟩, trivial⟩ (by simp) rfl rfl rfl rfl (v' := .tup [.c (.nm 1), .c (iT (dnE' R k))]) (news' := [(true, .own 3 1 (ofN R k 2).length (ivs (ofN R k 2)))]) rfl rfl rfl rfl rfl fun w Wr => ?_
  show At _ _ _ _ _ _ [(0, some (true, .ab (rfP A V.length cp b))), (1, some (false, .ab (rawS 5 (.slice A V.length cp) (rdc V)))), (2, some (false, .ab (frzP W)))] 3
  have hof := fun (H : HL) (nx : Nat) (h0 : lookH H 0 = some (true, .ab (rfP A V.length cp b))) (h1 : lookH H 1 = some (false, .ab (rawS 5 (.slice A V.length cp) (rdc V)))) (h2 : lookH H 2 = some (false, .ab (frzP W))) => rofS (nx := nx) h0 h1 h2 h k
  by_cases hf : (ofN R k 2).length = 0
  · have e1 : dnE' R k = 120 := by rw [dnE', if_pos hf]
    have e2 : ofN R k 2 = [] := List.length_eq_zero_iff.1 hf
    rw [e1, fly_none hf]
    have g2 : (((ofN R k 2).length : Int) == 0) = true := by simp [hf]
    refine rn [(11, .spec ⟨.t (.c (.nm 3)), [(true, .own 3 1 (ofN R k 2).length (ivs (ofN R k 2)))], [], []⟩), (14, .dec true)] rfl (by (repeat' (first | exact trivial | exact rfl | exact trivial | exact fun _ => trivial | first | exact hof _ _ rfl rfl rfl | exact g2 | refine And.intro ?_ ?_))) ?_
    refine Done.nil 6 3 1 rfl ?_
    rw [e2]
    refine Done.weak 0 (φ' := refT W V A cp R b) rfl (refT_st _ _ _ _ _ _) (refT_old h) ?_
    exact retM tysOk [(0, 0), (1, 4)] rfl (by repeat' (first | exact trivial | exact rfl | refine And.intro ?_ ?_)) (by repeat' (first | exact trivial | exact rfl | refine And.intro ?_ ?_)) rfl rfl
  · have e1 : dnE' R k = 0 := by rw [dnE', if_neg hf]
    rw [e1]
    have g2 : (((ofN R k 2).length : Int) == 0) = false := by simp; exact fun h => hf (by rw [h]; rfl)
    have hlV := h.len
    have hz := h.z
    have hrl := rof_le R k 2
    rw [rof_fly] at hrl
    have hset := fun (H : HL) (nx : Nat) (h0 : lookH H 0 = some (true, .ab (rfP A V.length cp b))) (h1 : lookH H 1 = some (false, .ab (rawS 5 (.slice A V.length cp) (rdc V)))) (h2 : lookH H 3 = some (true, .own 3 1 (ofN R k 2).length (ivs (ofN R k 2)))) => rsetA (nx := nx) h0 h1 h2 rfl rfl (by omega) (fun n hn => by rw [← rof_fly] at hn; have := rof_in h.dep hn; omega) (by omega) st
    refine rn [(11, .spec ⟨.t (.c (.nm 3)), [(true, .own 3 1 (ofN R k 2).length (ivs (ofN R k 2)))], [], []⟩), (14, .dec false), (18, .spec ⟨.tup [], [], [(0, some (.ab (rwP (setV V (ofN R k 2) st) b)))], []⟩), (20005, .dec true)] rfl (by (repeat' (first | exact trivial | exact rfl | exact trivial | exact fun _ => trivial | first | exact hof _ _ rfl rfl rfl | exact hset _ _ rfl rfl rfl | exact g2 | refine And.intro ?_ ?_))) ?_
    refine At.unfold 0 rfl rfl rfl ?_
    refine At.freezeC (s := 5) (n := (setV V (ofN R k 2) st).length) (xs := rdc (setV V (ofN R k 2) st)) (l := 5) 4 0 rfl rfl rfl rd_of_own (by decide) fun A' m' => ?_
    refine rn [] rfl (by repeat' (first | exact trivial | exact rfl | refine And.intro ?_ ?_)) ?_
    refine Done.newE (frzP []) uv (frzP_stable _) rfl (fun w p hp => by cases hp) ?_
    refine Done.fold [(0, 4), (1, 6), (2, 5), (3, 7)] (rtO (setV V (ofN R k 2) st) A' m' [] b) (.p 0 0) (by repeat' (first | exact trivial | exact rfl | refine And.intro ?_ ?_)) rfl rfl (fun _ => rfl) ?_
    refine Done.weak 8 (φ' := refT W V A cp (setK k st R) b) rfl (refT_st _ _ _ _ _ _) (refT_new (by rw [List.append_nil]; exact h.end_ hde)) ?_
    exact retM tysOk [(0, 8), (1, 3)] rfl (by repeat' (first | exact trivial | exact rfl | refine And.intro ?_ ?_)) (by repeat' (first | exact trivial | exact rfl | refine And.intro ?_ ?_)) rfl rfl
def rfX (A : Option Addr) (n cp : Nat) : AbP := exP (rfP A n cp)
theorem rfX_st (A : Option Addr) (n cp : Nat) : ∀ b, stable (rfP A n cp b) := fun _ => absP_stable _ _
theorem rforkA (hd : lookH H d = some (b3, .ab (rfP A V.length cp b))) :
    FnH Try.prog 8 [.c (.nm d)] H nx ⟨.t (.c (.nm nx)), [(true, .ab (rfX A V.length cp))], [], []⟩ := by
  refine fnM (fn := Try.f8) 9 rfl rfl rfl (args' := [.c (.p 0 0)]) (H' := [(0, some (false, .cells [.raw (.slice A V.length cp)] 28))]) (nx' := 1) [] (fun e w M => ?_) rfl rfl rfl (fun e w M u hu => by cases hu) (fun u hu => by cases hu) (by simp) (v' := .t (.c (.nm 0))) (news' := [(true, .ab (rfX A V.length cp))]) rfl rfl rfl rfl rfl fun w Wr => ?_
  · obtain ⟨bb, h1, h2, h3⟩ := rf_blk hd M
    refine ⟨⟨fun _ => bb, fun _ => uv, fun _ g => g = bb, fun _ => rfl⟩, ⟨fun n b o hn => ?_, fun n o m c q hn hm hne => ?_⟩, by rw [List.map_cons, h3]; rfl⟩
    · rw [lookH_cons] at hn
      split at hn
      · rename_i h
        cases hn; subst h
        exact ⟨⟨fun g => Iff.rfl, h1⟩, fun g hg => ⟨by rw [show g = bb from hg]; exact h2, fun h => by cases h⟩⟩
      · cases hn
    · rw [lookH_cons] at hn
      split at hn
      · cases hn
      · cases hn
  refine rn [] rfl (by repeat' (first | exact trivial | exact rfl | refine And.intro ?_ ?_)) ?_
  refine Done.pin 1 rfl fun b => ?_
  refine Done.foldR 2 (.p 1 0) [(0, 1), (1, 2)] (rfO A V.length cp b) (.p 0 0) rfl (by repeat' (first | exact trivial | exact rfl | refine And.intro ?_ ?_)) (by repeat' (first | exact trivial | exact rfl | refine And.intro ?_ ?_)) rfl rfl (fun _ => rfl) ?_
  refine Done.weak 3 (φ' := rfX A V.length cp) rfl (exP_stable fun b => absP_stable _ _) (fun v F w h => ⟨b, h⟩) ?_
  exact retM tysOk [(0, 3)] rfl (by repeat' (first | exact trivial | exact rfl | refine And.intro ?_ ?_)) (by repeat' (first | exact trivial | exact rfl | refine And.intro ?_ ?_)) rfl rfl
end
end Cw
namespace Cw
open Go Vc
open Go.Proofs
set_option maxRecDepth 100000
def alR (R : List Ch) (at' : Int) (p : Pt) (xs : List Int) (i : Nat) : List Int := alls (und (R.take i)) at' p xs
theorem alR_succ {R : List Ch} (hn : numd R) (ho : ∀ c ∈ R, okp (c.off, c.by') = true) {at' : Int} {p : Pt} (hp : okp p = true) {xs : List Int} {i : Nat} (h : i < R.length) : alR R at' p xs (i + 1) = if (R[i].at' == at' && R[i].st != 0 && both (R[i].off, R[i].by') p) = true then alR R at' p xs i ++ [(i : Int) + 1] else alR R at' p xs i := by
  have hov : ovb (R[i].off, R[i].by') p = both (R[i].off, R[i].by') p := by
    have : ove (R[i].off, R[i].by') p = 0 := if_pos ⟨ho _ (List.getElem_mem h), hp⟩
    rw [ovb, if_pos this]
  rw [alR, alR, List.take_succ_eq_append_getElem h]
  by_cases h0 : R[i].st = 0
  · have e1 : und (R.take i ++ [R[i]]) = und (R.take i) := by
      rw [und, List.filter_append, filt0 (fun c : Ch => c.st != 0) (by simp [h0]), List.append_nil]; rfl
    rw [e1, h0]
    simp
  · rw [und_app _ h0, alls_eq, alls_eq, List.filter_append, List.map_append, ← List.append_assoc]
    have hb : (R[i].st != 0) = true := by simpa using h0
    rw [hb, Bool.and_true]
    by_cases hc : (ovb (R[i].off, R[i].by') p && R[i].at' == at') = true
    · rw [filt1 (fun c : Ch => ovb (c.off, c.by') p && c.at' == at') hc, if_pos (by rw [← hov, Bool.and_comm]; exact hc), List.map_cons, hn i h]; rfl
    · rw [filt0 (fun c : Ch => ovb (c.off, c.by') p && c.at' == at') hc, if_neg (by rw [← hov, Bool.and_comm]; exact hc)]; simp
theorem alR_le (R : List Ch) (at' : Int) (p : Pt) (xs : List Int) (i : Nat) : (alR R at' p xs i).length ≤ xs.length + R.length := by
  have h1 := alT_le (und (R.take i)) at' p xs (und (R.take i)).length
  have h2 : (und (R.take i)).length ≤ R.length := Nat.le_trans (List.length_filter_le _ _) (List.length_take_le' _ _)
  rw [alR, alls]; omega
theorem rdc_app (V : DV) (p : Ch × Option Addr × Nat) : rdc (V ++ [p]) = rdc V ++ rdC p := fcs_app rdC V p
theorem okp_fcheck {o : Int} {t : ByteArray} (h : fcheck o t.size = 0) : okp (o, t) = true := by
  unfold fcheck at h
  split at h
  · assumption
  · cases h
section
variable {H : HL} {nx d s m q a b cp : Nat} {A : Option Addr} {b1 b2 b3 b4 : Bool} {V : DV} {W : List (List Int × Option Addr × Nat)} {R : List Ch}
theorem RR.add (h : RR V W R) {at' o : Int} {t : ByteArray} {xs : List Int} {n : Nat} (he : adB R.length at' o t n xs = 0) (zx : xs.length + R.length ≤ 17592186044415) (zr : R.length < 100000) (v : Option Addr × Nat) :
    RR (V ++ [(newC (und R) R.length at' (o, t) xs, v)]) (W ++ [((newC (und R) R.length at' (o, t) xs).ah, v)]) (R ++ [newC (und R) R.length at' (o, t) xs]) := by
  obtain ⟨a1, a2, a3, a4, a5⟩ := adB_ok he
  have hst : (newC (und R) R.length at' (o, t) xs).st = 1 := rfl
  have hno : (newC (und R) R.length at' (o, t) xs).no = (R.length : Int) + 1 := rfl
  have hah : ∀ n ∈ (newC (und R) R.length at' (o, t) xs).ah, 1 ≤ n ∧ n ≤ (R.length : Int) := by
    intro n hn
    have hn' : n ∈ alls (und R) at' (o, t) xs := hn
    rw [alls_eq] at hn'
    rcases List.mem_append.1 hn' with h1 | h1
    · exact a4 n h1
    · obtain ⟨c, hc, rfl⟩ := List.mem_map.1 h1
      exact h.dep.num.le (und_mem.1 (List.mem_filter.1 hc).1).1
  refine ⟨by rw [chs, List.map_append, ← chs, h.eq]; rfl, fun p hp => ?_, h.dep.add hno hst hah, by simp; omega, fun c hc => ?_, fun c hc => ?_⟩
  · rcases List.mem_append.1 hp with hp | hp
    · exact List.mem_append.2 (.inl (h.sub p hp))
    · rw [List.mem_singleton.1 hp]
      exact List.mem_append.2 (.inr (by simp [fz]))
  · rcases List.mem_append.1 hc with hc | hc
    · exact h.zah c hc
    · rw [List.mem_singleton.1 hc]
      have := alR_le R at' (o, t) xs R.length
      rw [alR, List.take_length] at this
      show (alls (und R) at' (o, t) xs).length ≤ _
      omega
  · rcases List.mem_append.1 hc with hc | hc
    · exact h.okp c hc
    · rw [List.mem_singleton.1 hc]
      exact okp_fcheck a3
/-- What Add leaves of all changes. -/
def adR (R : List Ch) (n : Nat) (at' o : Int) (t : ByteArray) (xs : List Int) : List Ch := if adB R.length at' o t n xs = 0 then R ++ [newC (und R) R.length at' (o, t) xs] else R
def adN (R : List Ch) (n : Nat) (at' o : Int) (t : ByteArray) (xs : List Int) : Int := if adB R.length at' o t n xs = 0 then (R.length : Int) + 1 else 0
def hRa (V : DV) (A : Option Addr) (cp b : Nat) (W : List (List Int × Option Addr × Nat)) (xs : List Int) (o : Int) (t : ByteArray) : HL := [(1, some (false, .ab (rawS 5 (.slice A V.length cp) (rdc V)))), (2, some (false, .ab (frzP W))), (3, some (false, .rd 1 xs.length (ivs xs))), (4, some (true, .cells [.raw (.slice A V.length cp)] 28)), (5, some (false, .pin 4 b)), (6, some (true, .cells [iT o, .s t] 33))]
set_option maxRecDepth 100000 in
set_option maxHeartbeats 8000000 in
theorem raddA {at' o : Int} {t : ByteArray} {xs : List Int} (hd : lookH H d = some (true, .ab (rfP A V.length cp b))) (hs : lookH H s = some (b1, .ab (rawS 5 (.slice A V.length cp) (rdc V)))) (hq : lookH H q = some (b2, .ab (frzP W))) (ha : lookH H a = some (b4, .rd 1 xs.length (ivs xs))) (hds : inL s [d] = false) (hdq : inL q [d] = false) (hda : inL a [d] = false) (h : RR V W R) (zx : xs.length + R.length ≤ 17592186044415) (zr : R.length < 100000) :
    FnH Try.prog 21 [.c (.nm d), .c (iT at'), .agg [iT o, .s t], .c (.nm a)] H nx ⟨.tup [.c (iT (adN R (und R).length at' o t xs)), .c (iT (adB R.length at' o t (und R).length xs))], [], [(d, some (.ab (refT W V A cp (adR R (und R).length at' o t xs) b)))], []⟩ := by
  refine fnAs (fn := Try.f21) 120 rfl rfl rfl (args' := [.c (.nm 0), .c (iT at'), .agg [iT o, .s t], .c (.nm 3)]) [(d, rfP A V.length cp b, refT W V A cp (adR R (und R).length at' o t xs) b)] [(s, .ab (rawS 5 (.slice A V.length cp) (rdc V))), (q, .ab (frzP W)), (a, .rd 1 xs.length (ivs xs))] ⟨⟨hd, ptr b, rf_pins _ _ _ _, refT_pins _ _ _ _ _ _⟩, trivial⟩ ⟨⟨⟨_, hs⟩, fun _ => rfl, hds⟩, ⟨⟨_, hq⟩, fun _ => rfl, hdq⟩, ⟨⟨_, ha⟩, fun _ => rfl, hda⟩, trivial⟩ (by simp) rfl rfl rfl rfl (v' := .tup [.c (iT (adN R (und R).length at' o t xs)), .c (iT (adB R.length at' o t (und R).length xs))]) (news' := []) rfl rfl rfl rfl rfl fun w Wr => ?_
  refine At.unfoldTo 0 (L1 := [(0, .t (.c (.p 4 0))), (1, .t (.c (iT at'))), (2, .t (.agg [iT o, .s t])), (3, .t (.c (.nm 3)))]) (H1 := [(4, some (true, .cells [.raw (.slice A V.length cp)] 28)), (5, some (false, .pin 4 b)), (0, none), (0, some (true, .ab (rfP A V.length cp b))), (1, some (false, .ab (rawS 5 (.slice A V.length cp) (rdc V)))), (2, some (false, .ab (frzP W))), (3, some (false, .rd 1 xs.length (ivs xs)))]) (nx1 := 6) rfl rfl rfl rfl rfl rfl ?_
  have hVl := h.len
  have hz := h.z
  have hck := dcheck0 o t
  have hadB : adB R.length at' o t (und R).length xs = if at' < 0 ∨ at' ≥ 2048 ∨ fcheck o t.size ≠ 0 then 1 else if xs.any (pdA R.length) = true then 5 else if (und R).length ≥ 1024 then 2 else 0 := rfl
  have fail : ∀ e : Int, e ≠ 0 → adB R.length at' o t (und R).length xs = e → adR R (und R).length at' o t xs = R ∧ adN R (und R).length at' o t xs = 0 := fun e h0 he => ⟨if_neg (by rw [he]; exact h0), if_neg (by rw [he]; exact h0)⟩
  by_cases h1 : at' < 0 ∨ at' ≥ 2048
  · have e1 : adB R.length at' o t (und R).length xs = 1 := by rw [hadB, if_pos (h1.elim .inl fun h => .inr (.inl h))]
    obtain ⟨e2, e3⟩ := fail 1 (by decide) e1
    rw [e1, e2, e3]
    have g1 : (decide (at' < 0) || decide (2048 ≤ at')) = true := by rw [Bool.or_eq_true, decide_eq_true_eq, decide_eq_true_eq]; omega
    refine rn [(19, .dec true), (23, .dec true)] rfl (by (repeat' (first | exact trivial | exact rfl | exact trivial | exact fun _ => trivial | first | exact g1 | rfl | refine And.intro ?_ ?_))) ?_
    refine Done.fold [(0, 4), (1, 5)] (rfO A V.length cp b) (.p 0 0) (by repeat' (first | exact trivial | exact rfl | refine And.intro ?_ ?_)) rfl rfl (fun _ => rfl) ?_
    refine Done.weak 7 (φ' := refT W V A cp R b) rfl (refT_st _ _ _ _ _ _) (refT_old h) ?_
    exact retM tysOk [(0, 7)] rfl (by repeat' (first | exact trivial | exact rfl | refine And.intro ?_ ?_)) (by repeat' (first | exact trivial | exact rfl | refine And.intro ?_ ?_)) rfl rfl
  · have g1 : (decide (at' < 0) || decide (2048 ≤ at')) = false := by rw [Bool.or_eq_false_iff, decide_eq_false_iff_not, decide_eq_false_iff_not]; omega
    by_cases h2 : fcheck o t.size = 0
    · rw [h2] at hck
      have g2 : ((0 : Int) != 0) = false := rfl
      refine rn [(19, .dec false), (21, .ret (.t (.c (iT 0)))), (23, .dec false)] rfl (by (repeat' (first | exact trivial | exact rfl | exact trivial | exact fun _ => trivial | first | exact g1 | exact hck | rfl | refine And.intro ?_ ?_))) ?_
      have hadB' : adB R.length at' o t (und R).length xs = if xs.any (pdA R.length) = true then 5 else if (und R).length ≥ 1024 then 2 else 0 := by
        rw [hadB, if_neg]
        rintro (h | h | h)
        · exact h1 (.inl h)
        · exact h1 (.inr h)
        · exact h h2
      refine At.loop (X := (j : Nat) ×' (j ≤ xs.length ∧ (xs.take j).any (pdA R.length) = false)) 7 (fun x => xs.length - x.1)
        (fun x => [(0, .t (.c (.p 4 0))), (1, .t (.c (iT at'))), (3, .t (.c (.nm 3))), (6, .t (.c (.p 6 0))), (10, .t (.c (iT (x.1 : Nat))))])
        (fun _ => hRa V A cp b W xs o t) ⟨0, by omega, rfl⟩ [] (fun x => wf rfl rfl) (by repeat' (first | exact trivial | exact rfl | refine And.intro ?_ ?_)) (by simp only [hRa]; repeat' (first | exact trivial | exact rfl | refine And.intro ?_ ?_)) rfl fun x => ?_
      obtain ⟨j, hj, hjx⟩ := x
      have w3 : IntKind.i64.wrap ((j : Int) + 1) = ((j + 1 : Nat) : Int) := by rw [wrap_sm (by omega) (by omega)]; omega
      refine rn [] rfl (by repeat' (first | exact trivial | exact rfl | refine And.intro ?_ ?_)) ?_
      refine ⟨fun h4 => ?_, fun h4 => ?_⟩
      · have hlt : j < xs.length := by have : (j : Int) < (xs.length : Int) := of_decide_eq_true h4; omega
        clear h4
        have f1 : (ivs xs)[(j : Int).toNat * 1]? = some (.int .i64 xs[j]) := by simpa using ivs_at hlt
        have b0 : (0 : Int) ≤ (j : Int) := by omega
        have b1 : (j : Int) < (xs.length : Int) := by omega
        have htk : (xs.take (j + 1)).any (pdA R.length) = ((xs.take j).any (pdA R.length) || pdA R.length xs[j]) := by rw [List.take_succ_eq_append_getElem hlt, List.any_append]; simp
        rw [hjx, Bool.false_or] at htk
        have hpd : pdA R.length xs[j] = (decide (xs[j] < 1) || decide ((V.length : Int) < xs[j])) := by rw [hVl]; rfl
        have hbad : pdA R.length xs[j] = true → adB R.length at' o t (und R).length xs = 5 := fun hb => by rw [hadB', if_pos (List.any_eq_true.2 ⟨_, List.getElem_mem hlt, hb⟩)]
        generalize xs[j] = n at *
        cases c1 : decide (n < 1) with
        | true =>
          have e1 := hbad (by rw [hpd, c1]; rfl)
          obtain ⟨e2, e3⟩ := fail 5 (by decide) e1
          rw [e1, e2, e3]
          refine rn [(33, .ld [iT n]), (35, .dec true), (46, .dec true)] rfl (by (repeat' (first | exact trivial | exact rfl | exact trivial | exact fun _ => trivial | first | exact f1 | exact ⟨f1, trivial⟩ | exact b0 | exact b1 | exact c1 | rfl | decide | refine And.intro ?_ ?_))) ?_
          refine roundRet ?_
          refine Done.fold [(0, 4), (1, 5)] (rfO A V.length cp b) (.p 0 0) (by repeat' (first | exact trivial | exact rfl | refine And.intro ?_ ?_)) rfl rfl (fun _ => rfl) ?_
          refine Done.weak 7 (φ' := refT W V A cp R b) rfl (refT_st _ _ _ _ _ _) (refT_old h) ?_
          exact retM tysOk [(0, 7)] rfl (by repeat' (first | exact trivial | exact rfl | refine And.intro ?_ ?_)) (by repeat' (first | exact trivial | exact rfl | refine And.intro ?_ ?_)) rfl rfl
        | false =>
          cases c2 : decide ((V.length : Int) < n) with
          | true =>
            have e1 := hbad (by rw [hpd, c1, c2]; rfl)
            obtain ⟨e2, e3⟩ := fail 5 (by decide) e1
            rw [e1, e2, e3]
            refine rn [(33, .ld [iT n]), (35, .dec false), (39, .ld [iT n]), (46, .dec true)] rfl (by (repeat' (first | exact trivial | exact rfl | exact trivial | exact fun _ => trivial | first | exact f1 | exact ⟨f1, trivial⟩ | exact b0 | exact b1 | exact c1 | exact c2 | rfl | decide | refine And.intro ?_ ?_))) ?_
            refine roundRet ?_
            refine Done.fold [(0, 4), (1, 5)] (rfO A V.length cp b) (.p 0 0) (by repeat' (first | exact trivial | exact rfl | refine And.intro ?_ ?_)) rfl rfl (fun _ => rfl) ?_
            refine Done.weak 7 (φ' := refT W V A cp R b) rfl (refT_st _ _ _ _ _ _) (refT_old h) ?_
            exact retM tysOk [(0, 7)] rfl (by repeat' (first | exact trivial | exact rfl | refine And.intro ?_ ?_)) (by repeat' (first | exact trivial | exact rfl | refine And.intro ?_ ?_)) rfl rfl
          | false =>
            rw [hpd, c1, c2] at htk
            refine rn [(33, .ld [iT n]), (35, .dec false), (39, .ld [iT n]), (46, .dec false)] rfl (by (repeat' (first | exact trivial | exact rfl | exact trivial | exact fun _ => trivial | first | exact f1 | exact ⟨f1, trivial⟩ | exact b0 | exact b1 | exact c1 | exact c2 | rfl | decide | refine And.intro ?_ ?_))) ?_
            exact roundEnd ⟨j + 1, by omega, htk⟩ [] (by show xs.length - (j + 1) < xs.length - j; omega) (by (repeat' (first | exact trivial | exact rfl | exact w3 | exact fun _ => w3 | refine And.intro ?_ ?_))) (by simp only [hRa]; repeat' (first | exact trivial | exact rfl | refine And.intro ?_ ?_)) rfl
      · have hge : j = xs.length := by have : ¬ (j : Int) < (xs.length : Int) := of_decide_eq_false h4; omega
        rw [hge, List.take_length] at hjx
        have hadB2 : adB R.length at' o t (und R).length xs = if (und R).length ≥ 1024 then 2 else 0 := by rw [hadB', hjx, if_neg (by decide)]
        have hleft := fun (H : HL) (nx : Nat) (g0 : lookH H 4 = some (true, .cells [.raw (.slice A V.length cp)] 28)) (g1 : lookH H 1 = some (false, .ab (rawS 5 (.slice A V.length cp) (rdc V)))) (g2 : lookH H 2 = some (false, .ab (frzP W))) =>
          fnh_rc (nx := nx) (f := 38) (bs := [.c .nsl]) (v' := .t (.c (iT ((und R).length : Nat)))) (news' := []) g0 g1 g2 rfl rfl rfl (rleftN (H := hRr V W) (nx := 3) (d := 0) (l := 1) (q := 2) rfl rfl rfl h)
        refine rn [] rfl (by repeat' (first | exact trivial | exact rfl | refine And.intro ?_ ?_)) (roundExit rfl ?_)
        by_cases hm : (und R).length ≥ 1024
        · have e1 : adB R.length at' o t (und R).length xs = 2 := by rw [hadB2, if_pos hm]
          obtain ⟨e2, e3⟩ := fail 2 (by decide) e1
          rw [e1, e2, e3]
          have g4 : decide ((1024 : Int) ≤ (((und R).length : Nat) : Int)) = true := decide_eq_true (by omega)
          refine rnA [(48, .spec ⟨.t (.c (iT ((und R).length : Nat))), [], [], []⟩), (49, .dec true)] rfl (by simp only [hRa]; (repeat' (first | exact trivial | exact rfl | exact trivial | exact fun _ => trivial | first | exact hleft _ _ rfl rfl rfl | exact g4 | rfl | refine And.intro ?_ ?_))) ?_
          refine Done.fold [(0, 4), (1, 5)] (rfO A V.length cp b) (.p 0 0) (by repeat' (first | exact trivial | exact rfl | refine And.intro ?_ ?_)) rfl rfl (fun _ => rfl) ?_
          refine Done.weak 7 (φ' := refT W V A cp R b) rfl (refT_st _ _ _ _ _ _) (refT_old h) ?_
          exact retM tysOk [(0, 7)] rfl (by repeat' (first | exact trivial | exact rfl | refine And.intro ?_ ?_)) (by repeat' (first | exact trivial | exact rfl | refine And.intro ?_ ?_)) rfl rfl
        · have e1 : adB R.length at' o t (und R).length xs = 0 := by rw [hadB2, if_neg hm]
          have e2 : adR R (und R).length at' o t xs = R ++ [newC (und R) R.length at' (o, t) xs] := if_pos e1
          have e3 : adN R (und R).length at' o t xs = (R.length : Int) + 1 := if_pos e1
          rw [e1, e2, e3]
          have g4 : decide ((1024 : Int) ≤ (((und R).length : Nat) : Int)) = false := decide_eq_false (by omega)
          refine rnA [(48, .spec ⟨.t (.c (iT ((und R).length : Nat))), [], [], []⟩), (49, .dec false), (20010, .dec true)] rfl (by simp only [hRa]; (repeat' (first | exact trivial | exact rfl | exact trivial | exact fun _ => trivial | first | exact hleft _ _ rfl rfl rfl | exact g4 | rfl | refine And.intro ?_ ?_))) ?_
          refine At.rawC5 (cs' := [.nm 7]) 4 0 1 rfl rfl rfl rfl rfl ?_
          have k1 : 0 + xs.length ≤ maxLen := by simp [maxLen]; omega
          have k2 : (0 + xs.length) * 8 ≤ 140737488355328 := by omega
          have hokp := okp_fcheck h2
          have i1 : 0 + xs.length = (alR R at' (o, t) xs 0).length := by simp [alR, und, alls_eq]
          have i2 : app [] (ivs xs) = ivs (alR R at' (o, t) xs 0) := by rw [app_eq]; simp [alR, und, alls_eq]
          refine rn [(50, .dec true)] rfl (by (repeat' (first | exact trivial | exact rfl | exact trivial | exact fun _ => trivial | first | exact k1 | exact k2 | exact ivs_one xs | decide | refine And.intro ?_ ?_))) ?_
          refine At.loop (X := (i : Nat) ×' (i ≤ V.length)) 9 (fun x => V.length - x.1)
            (fun x => [(0, .t (.c (.p 4 0))), (1, .t (.c (iT at'))), (6, .t (.c (.p 6 0))), (11, .t (.c (.nm 8))), (12, .t (.c (iT (x.1 : Nat))))])
            (fun x => [(1, some (false, .ab (rawS 5 (.slice A V.length cp) (rdc V)))), (2, some (false, .ab (frzP W))), (4, some (true, .cells [.nm 7] 28)), (5, some (false, .pin 4 b)), (6, some (true, .cells [iT o, .s t] 33)), (7, some (false, .rd 5 V.length (rdc V))), (8, some (true, .own 3 1 (alR R at' (o, t) xs x.1).length (ivs (alR R at' (o, t) xs x.1))))]) ⟨0, by omega⟩ [(8, 9)] (fun x => wf rfl rfl) (by repeat' (first | exact trivial | exact rfl | refine And.intro ?_ ?_)) (by (repeat' (first | exact trivial | exact rfl | exact trivial | exact fun _ => trivial | first | exact i1 | exact i2 | refine And.intro ?_ ?_))) rfl fun x => ?_
          obtain ⟨i, hi⟩ := x
          have w4 : IntKind.i64.wrap ((i : Int) + 1) = ((i + 1 : Nat) : Int) := by rw [wrap_sm (by omega) (by omega)]; omega
          refine rn [] rfl (by repeat' (first | exact trivial | exact rfl | refine And.intro ?_ ?_)) ?_
          refine ⟨fun h5 => ?_, fun h5 => ?_⟩
          · have hlt : i < V.length := by have : (i : Int) < (V.length : Int) := of_decide_eq_true h5; omega
            clear h5
            have hlR : i < R.length := by omega
            obtain ⟨q0, q1, q2, q4⟩ := rdc_f hlt
            rw [h.at hlt hlR] at q0 q1 q2 q4
            have b0 : (0 : Int) ≤ (i : Int) := by omega
            have b1 : (i : Int) < (V.length : Int) := by omega
            have c5 : (i : Int).toNat * 5 < (rdc V).length := by rw [rdc_length]; omega
            have hsu := alR_succ h.dep.num h.okp (at' := at') hokp (xs := xs) hlR
            have hbo := dboth0 (R[i].off, R[i].by') (o, t) (h.okp _ (List.getElem_mem hlR)) hokp
            have hle := alR_le R at' (o, t) xs i
            have m1 : (alR R at' (o, t) xs i).length + 1 ≤ maxLen := by simp [maxLen]; omega
            have m2 : ((alR R at' (o, t) xs i).length + 1) * 8 ≤ 140737488355328 := by omega
            have hw : (i : Int) + 1 = ((i + 1 : Nat) : Int) := by omega
            cases c1 : R[i].at' == at' with
            | false =>
              have hn : alR R at' (o, t) xs (i + 1) = alR R at' (o, t) xs i := by rw [hsu, c1]; rfl
              refine rn [(69, .ld [iT R[i].at']), (72, .dec false), (83, .dec false), (94, .dec false)] rfl (by (repeat' (first | exact trivial | exact rfl | exact trivial | exact fun _ => trivial | first | exact q0 | exact ⟨q0, trivial⟩ | exact b0 | exact b1 | exact c5 | exact c1 | rfl | decide | refine And.intro ?_ ?_))) ?_
              exact roundEnd ⟨i + 1, by omega⟩ [] (by show V.length - (i + 1) < V.length - i; omega) (by (repeat' (first | exact trivial | exact rfl | exact w4 | exact fun _ => w4 | refine And.intro ?_ ?_))) (by (repeat' (first | exact trivial | exact rfl | exact trivial | exact fun _ => trivial | first | exact congrArg List.length hn.symm | exact congrArg ivs hn.symm | refine And.intro ?_ ?_))) rfl
            | true =>
              cases c2 : R[i].st != 0 with
              | false =>
                have hn : alR R at' (o, t) xs (i + 1) = alR R at' (o, t) xs i := by rw [hsu, c1, c2]; rfl
                refine rn [(69, .ld [iT R[i].at']), (72, .dec true), (80, .ld [iT R[i].st]), (83, .dec false), (94, .dec false)] rfl (by (repeat' (first | exact trivial | exact rfl | exact trivial | exact fun _ => trivial | first | exact q0 | exact ⟨q0, trivial⟩ | exact q4 | exact ⟨q4, trivial⟩ | exact b0 | exact b1 | exact c5 | exact c1 | exact c2 | rfl | decide | refine And.intro ?_ ?_))) ?_
                exact roundEnd ⟨i + 1, by omega⟩ [] (by show V.length - (i + 1) < V.length - i; omega) (by (repeat' (first | exact trivial | exact rfl | exact w4 | exact fun _ => w4 | refine And.intro ?_ ?_))) (by (repeat' (first | exact trivial | exact rfl | exact trivial | exact fun _ => trivial | first | exact congrArg List.length hn.symm | exact congrArg ivs hn.symm | refine And.intro ?_ ?_))) rfl
              | true =>
                cases c3 : both (R[i].off, R[i].by') (o, t) with
                | false =>
                  rw [c3] at hbo
                  have hn : alR R at' (o, t) xs (i + 1) = alR R at' (o, t) xs i := by rw [hsu, c1, c2, c3]; rfl
                  refine rn [(69, .ld [iT R[i].at']), (72, .dec true), (80, .ld [iT R[i].st]), (83, .dec true), (91, .ld [iT R[i].off, .s R[i].by']), (93, .ret (.t (.c (.b false)))), (94, .dec false)] rfl (by (repeat' (first | exact trivial | exact rfl | exact trivial | exact fun _ => trivial | first | exact hbo | exact q0 | exact ⟨q0, trivial⟩ | exact q4 | exact ⟨q4, trivial⟩ | exact q1 | exact q2 | exact ⟨q1, q2, trivial⟩ | exact b0 | exact b1 | exact c5 | exact c1 | exact c2 | rfl | decide | refine And.intro ?_ ?_))) ?_
                  exact roundEnd ⟨i + 1, by omega⟩ [] (by show V.length - (i + 1) < V.length - i; omega) (by (repeat' (first | exact trivial | exact rfl | exact w4 | exact fun _ => w4 | refine And.intro ?_ ?_))) (by (repeat' (first | exact trivial | exact rfl | exact trivial | exact fun _ => trivial | first | exact congrArg List.length hn.symm | exact congrArg ivs hn.symm | refine And.intro ?_ ?_))) rfl
                | true =>
                  rw [c3] at hbo
                  rw [c1, c2, c3, if_pos (by rfl)] at hsu
                  refine rn [(69, .ld [iT R[i].at']), (72, .dec true), (80, .ld [iT R[i].st]), (83, .dec true), (91, .ld [iT R[i].off, .s R[i].by']), (93, .ret (.t (.c (.b true)))), (94, .dec true)] rfl (by (repeat' (first | exact trivial | exact rfl | exact trivial | exact fun _ => trivial | first | exact hbo | exact q0 | exact ⟨q0, trivial⟩ | exact q4 | exact ⟨q4, trivial⟩ | exact q1 | exact q2 | exact ⟨q1, q2, trivial⟩ | exact b0 | exact b1 | exact c5 | exact c1 | exact c2 | exact m1 | exact m2 | rfl | decide | refine And.intro ?_ ?_))) ?_
                  refine roundEnd ⟨i + 1, by omega⟩ [(8, 10)] (by show V.length - (i + 1) < V.length - i; omega) (by (repeat' (first | exact trivial | exact rfl | exact w4 | exact fun _ => w4 | refine And.intro ?_ ?_))) ?_ rfl
                  repeat' (first | exact trivial | exact rfl | refine And.intro ?_ ?_)
                  · rw [hsu]; simp
                  · rw [hsu, app_eq, w4, ← hw]; simp [ivs]; rfl
          · have hge : i = V.length := by have : ¬ (i : Int) < (V.length : Int) := of_decide_eq_false h5; omega
            have hal : alR R at' (o, t) xs i = (newC (und R) R.length at' (o, t) xs).ah := by rw [hge, hVl, alR, List.take_length]; rfl
            refine rn [] rfl (by repeat' (first | exact trivial | exact rfl | refine And.intro ?_ ?_)) (roundExit rfl ?_)
            rw [hal]
            refine rnA [(20016, .dec true)] rfl (by repeat' (first | exact trivial | exact rfl | refine And.intro ?_ ?_)) ?_
            refine At.freeze 11 8 rfl rfl fun A1 m1 => ?_
            have k3 : 0 + V.length ≤ maxLen := by simp [maxLen]; omega
            have k4 : (0 + V.length) * 64 ≤ 140737488355328 := by omega
            have k5 : 0 + V.length + 1 ≤ maxLen := by simp [maxLen]; omega
            have k6 : (0 + V.length + 1) * 64 ≤ 140737488355328 := by omega
            refine rn [(101, .dec true), (20017, .dec true)] rfl (by (repeat' (first | exact trivial | exact rfl | exact trivial | exact fun _ => trivial | first | exact k3 | exact k4 | exact k5 | exact k6 | exact rdc_one V | decide | refine And.intro ?_ ?_))) ?_
            have hr : Ob.own 74 5 (0 + V.length + 1) (app (app [] (rdc V)) (List.map (CV.den Vc.e0) [iT at', iT o, .s t, .raw (.slice A1 (newC (und R) R.length at' (o, t) xs).ah.length m1), iT 1])) = Ob.own 74 5 (V ++ [(newC (und R) R.length at' (o, t) xs, (A1, m1))]).length (rdc (V ++ [(newC (und R) R.length at' (o, t) xs, (A1, m1))])) := by
              rw [app_eq, app_eq, rdc_app, List.length_append, Nat.zero_add, List.nil_append]
              rfl
            have hlen : ((0 + V.length + 1 : Nat) : Int) = (R.length : Int) + 1 := by omega
            refine At.freezeC (s := 5) (n := (V ++ [(newC (und R) R.length at' (o, t) xs, (A1, m1))]).length) (xs := rdc (V ++ [(newC (und R) R.length at' (o, t) xs, (A1, m1))])) (l := 12) 4 0 rfl rfl rfl (fun e w hh => rd_of_own e w (by rw [← hr]; exact hh)) (by decide) fun A' m' => ?_
            refine rn [] rfl (by repeat' (first | exact trivial | exact rfl | refine And.intro ?_ ?_)) ?_
            refine Done.fold [(0, 4), (1, 5), (2, 12), (3, 8)] (rtO (V ++ [(newC (und R) R.length at' (o, t) xs, (A1, m1))]) A' m' [((newC (und R) R.length at' (o, t) xs).ah, (A1, m1))] b) (.p 0 0) (by repeat' (first | exact trivial | exact rfl | refine And.intro ?_ ?_)) rfl rfl (fun _ => rfl) ?_
            refine Done.weak 13 (φ' := refT W V A cp (R ++ [newC (und R) R.length at' (o, t) xs]) b) rfl (refT_st _ _ _ _ _ _) (refT_new (h.add e1 zx zr (A1, m1))) ?_
            have hl2 : (((V ++ [(newC (und R) R.length at' (o, t) xs, (A1, m1))]).length : Nat) : Int) = (R.length : Int) + 1 := by simp; omega
            exact retM tysOk [(0, 13)] rfl (by (repeat' (first | exact trivial | exact rfl | exact hl2 | exact fun _ => hl2 | exact hlen | refine And.intro ?_ ?_))) (by repeat' (first | exact trivial | exact rfl | refine And.intro ?_ ?_)) rfl rfl
    · have e1 : adB R.length at' o t (und R).length xs = 1 := by rw [hadB, if_pos (.inr (.inr h2))]
      obtain ⟨e2, e3⟩ := fail 1 (by decide) e1
      rw [e1, e2, e3]
      have g2 : (fcheck o t.size != 0) = true := by simpa using h2
      refine rn [(19, .dec false), (21, .ret (.t (.c (iT (fcheck o t.size))))), (23, .dec true)] rfl (by (repeat' (first | exact trivial | exact rfl | exact trivial | exact fun _ => trivial | first | exact g1 | exact g2 | exact hck | refine And.intro ?_ ?_))) ?_
      refine Done.fold [(0, 4), (1, 5)] (rfO A V.length cp b) (.p 0 0) (by repeat' (first | exact trivial | exact rfl | refine And.intro ?_ ?_)) rfl rfl (fun _ => rfl) ?_
      refine Done.weak 7 (φ' := refT W V A cp R b) rfl (refT_st _ _ _ _ _ _) (refT_old h) ?_
      exact retM tysOk [(0, 7)] rfl (by repeat' (first | exact trivial | exact rfl | refine And.intro ?_ ?_)) (by repeat' (first | exact trivial | exact rfl | refine And.intro ?_ ?_)) rfl rfl
end
end Cw
