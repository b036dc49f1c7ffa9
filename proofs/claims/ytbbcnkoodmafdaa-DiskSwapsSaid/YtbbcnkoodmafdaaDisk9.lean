/- The statement DiskSwaps, by reckoning. -/
import Derived.Test.YtbbcnkoodmafdaaDisk8
namespace Cw
open Go Vc
open Go.Proofs
set_option maxRecDepth 100000
theorem bt_ext {a b : ByteArray} (h : a.data.toList = b.data.toList) : a = b := by
  rcases a with ⟨a⟩
  rcases b with ⟨b⟩
  congr 1
  exact Array.toList_inj.1 h
theorem tl_eq (a b : ByteArray) : (a.toList == b.toList) = (a == b) := by
  rw [bq, Bool.eq_iff_iff, decide_eq_true_eq]
  simp [bt_iff2]
theorem ext_data (s : ByteArray) (i j : Nat) : (s.extract i j).data.toList = (s.data.toList.drop i).take (j - i) := by
  rw [ByteArray.data_extract, Array.toList_extract]
theorem size_data (s : ByteArray) : s.size = s.data.toList.length := rfl
section
variable {s : ByteArray} {p q : Pt}
theorem plc_data (hp : okp p = true) : (plc s p).data.toList = (s.data.toList.drop p.1.toNat).take p.2.size := by
  have := okp_iff hp
  rw [plc, ext_data]
  congr 1
  omega
theorem pt_data (hs : s.size = 64) (hq : okp q = true) : (pt s [q]).data.toList = over s.data.toList q.1.toNat q.2.data.toList := by
  have h0 : pte s [q] = 0 := by simp [pte, hs, hq]
  rw [pt, if_pos h0, S_data]
  rfl
theorem pt_size (hs : s.size = 64) (hq : okp q = true) : (pt s [q]).size = 64 := by
  have := okp_iff hq
  rw [size_data, pt_data hs hq, over_length]
  · exact hs
  · rw [← size_data, ← size_data, hs]; omega
theorem plc_pt (hs : s.size = 64) (hp : okp p = true) (hq : okp q = true) (h1 : p.1 = q.1) (h2 : p.2.size = q.2.size) : plc (pt s [q]) p = q.2 := by
  have h := okp_iff hq
  apply bt_ext
  rw [plc_data hp, pt_data hs hq, h1, h2, over, size_data q.2]
  rw [List.drop_append_of_le_length (by rw [List.length_take, ← size_data, hs]; omega)]
  rw [List.drop_of_length_le (by rw [List.length_take]; omega), List.nil_append, List.take_append_of_le_length (Nat.le_refl _), List.take_length]
theorem pt_back (hs : s.size = 64) (hp : okp p = true) (hq : okp q = true) (h1 : p.1 = q.1) (h2 : p.2.size = q.2.size) (h3 : plc s p = p.2) : pt (pt s [q]) [p] = s := by
  have h := okp_iff hq
  have hl : s.data.toList.length = 64 := hs
  have e3 : p.2.data.toList = (s.data.toList.drop q.1.toNat).take q.2.size := by rw [← h3, plc_data hp, h1, h2]
  have hlen : p.2.data.toList.length = q.2.size := by rw [← size_data, h2]
  apply bt_ext
  rw [pt_data (pt_size hs hq) hp, pt_data hs hq, h1, over, over, hlen]
  have ht : (s.data.toList.take q.1.toNat).length = q.1.toNat := by rw [List.length_take, hl]; omega
  have hq2 : q.2.data.toList.length = q.2.size := rfl
  rw [List.take_append_of_le_length (by omega), List.take_of_length_le (by omega)]
  rw [List.drop_append, ht, List.drop_of_length_le (by omega), List.nil_append, show q.1.toNat + q.2.size - q.1.toNat = q.2.size by omega]
  rw [List.drop_append_of_le_length (by omega), List.drop_of_length_le (by omega), List.nil_append, e3, hq2, ← List.drop_drop, List.take_append_drop, List.take_append_drop]
end
section
variable {H : HL} {nx d n : Nat} {S : List ByteArray} {W : List (Int × Wr)} {last : Int}
theorem readX (hd : lookH H d = some (true, .ab (dX S W last))) (k : Int) : FnH Try.prog 11 [.c (.nm d), .c (iT k)] H nx ⟨.tup [.c (.s (rdT S k)), .c (iT (rdE S.length k))], [], [(d, some (.ab (dX S W last)))], []⟩ :=
  fnh_ex hd (dP_st _ _ _) (dP_st _ _ _) fun b => readA (by rw [lookH_cons, if_pos rfl]) k
theorem layX (hd : lookH H d = some (true, .ab (dX S W last))) (k : Int) (s : ByteArray) : FnH Try.prog 8 [.c (.nm d), .c (iT k), .c (.s s)] H nx ⟨.t (.c (iT (wrE S.length k s))), [], [(d, some (.ab (dX (layS S k s) W last)))], []⟩ :=
  fnh_ex hd (dP_st _ _ _) (dP_st _ _ _) fun b => layA (by rw [lookH_cons, if_pos rfl]) k s
theorem swapX (hd : lookH H d = some (true, .ab (dX S W last))) (hD : DOk n S W last) (node ep k : Int) (was now : Pt) (z1 : was.2.size ≤ 9223372036854775807) (z2 : now.2.size ≤ 9223372036854775807) :
    FnH Try.prog 10 [.c (.nm d), .c (iT node), .c (iT ep), .c (iT k), ptT was, ptT now] H nx ⟨.tup [.c (.b (swB S node ep k was now)), .c (iT (swE S node ep k was now))], [], [(d, some (.ab (dX (swS S node ep k was now) W last)))], []⟩ :=
  fnh_ex hd (dP_st _ _ _) (dP_st _ _ _) fun b => swapA (by rw [lookH_cons, if_pos rfl]) hD node ep k was now z1 z2
end
theorem rd_set {S : List ByteArray} {k : Int} {t : ByteArray} (h : inS S.length k = true) : rdT (S.set k.toNat t) k = t := by
  have hb := inS_iff.1 h
  rw [rdT, List.length_set, if_pos h, List.getD_eq_getElem?_getD, List.getElem?_set, if_pos rfl, if_pos (by omega)]
  rfl
theorem DOk.sw {n : Nat} {S : List ByteArray} {W : List (Int × Wr)} {last : Int} (h : DOk n S W last) (node ep k : Int) (was now : Pt) : DOk n (swS S node ep k was now) W last := by
  unfold swS
  split
  · rename_i hb
    have he : swE S node ep k was now = 0 := by
      rw [swB, Bool.and_eq_true, decide_eq_true_eq] at hb
      exact hb.1
    have hok : inS S.length k = true ∧ okp now = true := by
      unfold swE at he
      split at he
      · cases he
      · split at he
        · cases he
        · rename_i h1
          split at he
          · cases he
          · rename_i h2
            refine ⟨by cases hh : inS S.length k <;> simp_all, by cases hh : okp now <;> simp_all⟩
    have hb2 := inS_iff.1 hok.1
    have hmem : rdT S k ∈ S := by
      rw [rdT, if_pos hok.1, List.getD_eq_getElem?_getD, List.getElem?_eq_getElem (by omega)]
      exact List.getElem_mem _
    exact { h with len := by rw [List.length_set]; exact h.len, sz := mem_set_sz h.sz (pt_size (h.sz _ hmem) hok.2) }
  · exact h
set_option maxRecDepth 100000 in
set_option maxHeartbeats 4000000 in
theorem diskSwaps_h (s : ByteArray) (was now : Pt) (z0 : s.size ≤ 9223372036854775807) (z1 : was.2.size ≤ 9223372036854775807) (z2 : now.2.size ≤ 9223372036854775807) :
    FnH Try.prog 3 [.c (.s s), ptT was, ptT now] [] 0 ⟨.t (.c (.b true)), [], [], []⟩ := by
  refine fnR (fn := Try.f3) 110 rfl rfl rfl (args' := [.c (.s s), ptT was, ptT now]) (H' := []) (nx' := 0) (fun e w M => ⟨e, ⟨fun n b o h => (by cases h), fun n o m c q h => (by cases h)⟩, rfl⟩) rfl rfl rfl rfl fun w => ?_
  have h0 := DOk.new (n := 4) (by decide)
  have hz := fit_size s
  have hw0 : wrE (S0 4).length 3 (fit s) = 0 := by simp [wrE, hz]; decide
  have hl := h0.lay 3 (fit s)
  have hly : layS (S0 4) 3 (fit s) = (S0 4).set 3 (fit s) := if_pos hw0
  rw [hly] at hl
  have hin : inS ((S0 4).set 3 (fit s)).length 3 = true := by rw [List.length_set]; decide
  have hrd : rdT ((S0 4).set 3 (fit s)) 3 = fit s := rd_set (S := S0 4) (k := 3) (by decide)
  have hs1 : s1 ((S0 4).set 3 (fit s)) = wallB 0 0 := by
    rw [← s1_new (n := 4) (by decide), s1, s1, List.getD_eq_getElem?_getD, List.getD_eq_getElem?_getD, List.getElem?_set_ne (by decide)]
  have hps : ∀ node : Int, node = 0 ∨ node = 1 → psD (wallB 0 0) node 0 = true := fun node hn => by
    rw [psD_wall (by decide) (by decide) node 0 hn]
    rcases hn with h | h <;> subst h <;> rfl
  have hr0 : rdE ((S0 4).set 3 (fit s)).length 3 = 0 := by rw [rdE, if_pos hin]
  have cL : ∀ {H : HL} {nx : Nat}, lookH H 2 = some (true, .ab (dX (S0 4) [] 0)) → FnH Try.prog 8 [.c (.nm 2), .c (iT 3), .c (.s (fit s))] H nx ⟨.t (.c (iT 0)), [], [(2, some (.ab (dX ((S0 4).set 3 (fit s)) [] 0)))], []⟩ := fun {H} {nx} h => by
    have := layX (nx := nx) h 3 (fit s)
    rwa [hw0, hly] at this
  generalize hS1 : (S0 4).set 3 (fit s) = S1 at *
  have hD2 := hl.sw 0 0 3 was now
  have hf0 := fit0 s z0
  have cN := fun {H : HL} {nx : Nat} => newA (H := H) (nx := nx) (n := 4) (by decide) (by decide)
  have hsw := hl.sw 0 0 3 was now
  refine rn [(17, .spec ⟨.tup [.c (.nm 2), .c (iT 0)], [(true, .ab (dX (S0 4) [] 0))], [], []⟩), (21, .spec ⟨.t (.c (.b false)), [], [], []⟩), (26, .dec false), (27, .spec ⟨.t (.c (.b true)), [], [], []⟩), (30, .dec false), (33, .ret (.t (.c (.s (fit s))))), (34, .spec ⟨.t (.c (iT 0)), [], [(2, some (.ab (dX S1 [] 0)))], []⟩), (36, .dec false),
    (41, .spec ⟨.tup [.c (.b (swB S1 0 0 3 was now)), .c (iT (swE S1 0 0 3 was now))], [], [(2, some (.ab (dX (swS S1 0 0 3 was now) [] 0)))], []⟩)] rfl ?_ ?_
  · repeat' (first | exact trivial | exact rfl | refine And.intro ?_ ?_)
    all_goals first | intro _ | skip
    all_goals first
      | exact cN
      | exact nilD rfl rfl rfl rfl
      | exact dworks_h
      | exact hf0
      | exact swapX rfl hl 0 0 3 was now z1 z2
      | exact cL rfl
      | rfl | decide
  have hob : swE S1 0 0 3 was now = 0 → okp was = true ∧ okp now = true ∧ was.1 = now.1 ∧ was.2.size = now.2.size := by
    intro he
    unfold swE at he
    split at he
    · cases he
    · split at he
      · cases he
      · split at he
        · cases he
        · rename_i h2
          split at he
          · cases he
          · rename_i h3
            refine ⟨by cases hh : okp was <;> simp_all, by cases hh : okp now <;> simp_all, Decidable.byContradiction fun h => h3 (.inl h), Decidable.byContradiction fun h => h3 (.inr h)⟩
  refine ⟨fun h => ?_, fun h => ?_⟩
  · have hne : swE S1 0 0 3 was now ≠ 0 := by simpa using h
    have hb : swB S1 0 0 3 was now = false := by simp [swB, hne]
    have hS : swS S1 0 0 3 was now = S1 := by simp [swS, hb]
    clear h
    refine rn [(48, .spec ⟨.tup [.c (.s (rdT (swS S1 0 0 3 was now) 3)), .c (iT (rdE (swS S1 0 0 3 was now).length 3))], [], [(2, some (.ab (dX (swS S1 0 0 3 was now) [] 0)))], []⟩), (60, .ret (.t (.c (.s (fit s)))))] rfl ?_ ?_
    · repeat' (first | exact trivial | exact rfl | refine And.intro ?_ ?_)
      all_goals first | intro _ | skip
      all_goals first | exact readX rfl 3 | exact hf0
    · refine ret0 tysOk rfl ?_ rfl
      repeat' (first | exact trivial | exact rfl | refine And.intro ?_ ?_)
      rw [hb, hS, hrd, hr0]
      simp
  · have he : swE S1 0 0 3 was now = 0 := by simpa using h
    clear h
    obtain ⟨o1, o2, o3, o4⟩ := hob he
    have hok := okp_iff o1
    have hb : swB S1 0 0 3 was now = (plc (fit s) was == was.2) := by rw [swB, he, hrd]; simp
    have wk : IntKind.i64.wrap (was.1 + (was.2.size : Nat)) = was.1 + (was.2.size : Nat) := wrap_sm (by omega) (by omega)
    have dq : polB false (swB S1 0 0 3 was now == (((fit s).extract was.1.toNat (IntKind.i64.wrap (was.1 + (was.2.size : Nat))).toNat).toList == was.2.toList)) = false := by
      rw [wk, hb, tl_eq]
      simp [plc, polB]
    have d1 : 0 ≤ was.1 ∧ was.1 ≤ IntKind.i64.wrap (was.1 + (was.2.size : Nat)) := by rw [wk]; omega
    have d2 : IntKind.i64.wrap (was.1 + (was.2.size : Nat)) ≤ ((fit s).size : Int) := by rw [wk, hz]; omega
    have hS2r : swB S1 0 0 3 was now = true → swS S1 0 0 3 was now = S1.set (3 : Int).toNat (pt (fit s) [now]) := fun hh => by rw [swS, if_pos hh, hrd]
    have hS2n : swB S1 0 0 3 was now = false → swS S1 0 0 3 was now = S1 := fun hh => by rw [swS, hh]; rfl
    have hs2 : s1 (swS S1 0 0 3 was now) = wallB 0 0 := by
      cases hh : swB S1 0 0 3 was now with
      | false => rw [hS2n hh, hs1]
      | true => rw [hS2r hh, s1, List.getD_eq_getElem?_getD, List.getElem?_set_ne (by decide), ← List.getD_eq_getElem?_getD]; exact hs1
    have hin2 : inS (swS S1 0 0 3 was now).length 3 = true := by rw [hD2.len]; decide
    have he2 : swE (swS S1 0 0 3 was now) 1 0 3 now was = 0 := by
      have i1 : isE 1 0 = 0 := by decide
      simp [swE, i1, hin2, o1, o2, o3, o4, hs2, hps 1 (.inr rfl)]
    have hb2 : swB (swS S1 0 0 3 was now) 1 0 3 now was = (plc (rdT (swS S1 0 0 3 was now) 3) now == now.2) := by rw [swB, he2]; simp
    have hfin : (!(swB S1 0 0 3 was now) || (swB (swS S1 0 0 3 was now) 1 0 3 now was && (rdT (swS (swS S1 0 0 3 was now) 1 0 3 now was) 3 == fit s))) = true := by
      cases hh : swB S1 0 0 3 was now with
      | false => rfl
      | true =>
        have e1 : plc (fit s) was = was.2 := by rw [hb, bq] at hh; exact of_decide_eq_true hh
        have e2 : rdT (swS S1 0 0 3 was now) 3 = pt (fit s) [now] := by rw [hS2r hh]; exact rd_set hin
        have e3 : plc (pt (fit s) [now]) now = now.2 := plc_pt hz o2 o2 rfl rfl
        have e4 : swB (swS S1 0 0 3 was now) 1 0 3 now was = true := by rw [hb2, e2, e3, bq]; simp
        have e5 : swS (swS S1 0 0 3 was now) 1 0 3 now was = (swS S1 0 0 3 was now).set (3 : Int).toNat (pt (pt (fit s) [now]) [was]) := by rw [swS, if_pos e4, e2]
        have e6 : rdT (swS (swS S1 0 0 3 was now) 1 0 3 now was) 3 = fit s := by
          rw [e5, rd_set hin2]
          exact pt_back hz o1 o2 o3 o4 e1
        rw [e4, e6, bq]
        simp
    have hr2 : rdE (swS (swS S1 0 0 3 was now) 1 0 3 now was).length 3 = 0 := by rw [(hD2.sw 1 0 3 now was).len]; decide
    generalize swS S1 0 0 3 was now = S2 at *
    refine rn [(65, .ret (.t (.c (.s (fit s))))), (78, .dec false), (83, .spec ⟨.tup [.c (.b (swB S2 1 0 3 now was)), .c (iT 0)], [], [(2, some (.ab (dX (swS S2 1 0 3 now was) [] 0)))], []⟩), (88, .spec ⟨.tup [.c (.s (rdT (swS S2 1 0 3 now was) 3)), .c (iT 0)], [], [(2, some (.ab (dX (swS S2 1 0 3 now was) [] 0)))], []⟩), (105, .ret (.t (.c (.s (fit s)))))] rfl ?_ ?_
    · have c1 : ∀ {H : HL} {nx : Nat}, lookH H 2 = some (true, .ab (dX S2 [] 0)) → FnH Try.prog 10 [.c (.nm 2), .c (iT 1), .c (iT 0), .c (iT 3), ptT now, ptT was] H nx ⟨.tup [.c (.b (swB S2 1 0 3 now was)), .c (iT 0)], [], [(2, some (.ab (dX (swS S2 1 0 3 now was) [] 0)))], []⟩ := fun {H} {nx} h => by
        have := swapX (nx := nx) h hD2 1 0 3 now was z2 z1
        rwa [he2] at this
      have c2 : ∀ {H : HL} {nx : Nat}, lookH H 2 = some (true, .ab (dX (swS S2 1 0 3 now was) [] 0)) → FnH Try.prog 11 [.c (.nm 2), .c (iT 3)] H nx ⟨.tup [.c (.s (rdT (swS S2 1 0 3 now was) 3)), .c (iT 0)], [], [(2, some (.ab (dX (swS S2 1 0 3 now was) [] 0)))], []⟩ := fun {H} {nx} h => by
        have := readX (nx := nx) h 3
        rwa [hr2] at this
      repeat' (first | exact trivial | exact rfl | refine And.intro ?_ ?_)
      all_goals first | intro _ | skip
      all_goals first
        | exact hf0
        | exact c1 rfl
        | exact c2 rfl
        | exact dq | exact d1 | exact d2 | exact d1.1 | exact d1.2 | rfl
    · refine ret0 tysOk rfl ?_ rfl
      repeat' (first | exact trivial | exact rfl | refine And.intro ?_ ?_)
      rw [tl_eq]
      simpa using hfin
theorem diskSwaps_true (s : ByteArray) (was now : Pt) (w : World) (z0 : s.size ≤ 9223372036854775807) (z1 : was.2.size ≤ 9223372036854775807) (z2 : now.2.size ≤ 9223372036854775807) :
    Calls Try.prog 3 #[.string s, .agg #[.int .i64 was.1, .string was.2], .agg #[.int .i64 now.1, .string now.2]] w fun e w' => e = .returned (.bool true) ∧ RowKit.Below w.heap.size w w' :=
  fnh_law (diskSwaps_h s was now z0 z1 z2) rfl rfl (e := e0) ⟨fun n b o h => (by cases h), fun n o m c q h => (by cases h)⟩
end Cw
