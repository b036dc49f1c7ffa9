/- LeaseBinds: the walk of the statement. -/
import Derived.Test.YtmhbblieldglmaaLeaK
namespace Cw
open Go Vc
open Go.Proofs
set_option maxRecDepth 100000
theorem tw_app {p : Int → Bool} : ∀ {b t : List Int}, (∀ x ∈ b, p x = true) → (b ++ t).takeWhile p = b ++ t.takeWhile p ∧ (b ++ t).dropWhile p = t.dropWhile p
  | [], t, _ => ⟨rfl, rfl⟩
  | y :: b, t, h => by
    have := tw_app (b := b) (t := t) fun x hx => h x (by simp [hx])
    simp [h y (by simp), this.1, this.2]
/-- With what is missing held too, more is bound. -/
theorem binds {want held : List Int} (h1 : (-1 : Int) ∉ want) (h2 : mis held (uq want) ≠ -1) : ∃ t, uq want = bnd held (uq want) ++ mis held (uq want) :: t ∧ bnd (held ++ [mis held (uq want)]) (uq want) = bnd held (uq want) ++ mis held (uq want) :: bnd (held ++ [mis held (uq want)]) t ∧
    mis held (uq want) ∈ want ∧ mis held (uq want) ∉ held ∧ (mis (held ++ [mis held (uq want)]) (uq want) = -1 ∨ mis held (uq want) < mis (held ++ [mis held (uq want)]) (uq want)) := by
  have hp := uq_pw want
  have hm : ∀ x, x ∈ uq want ↔ x ∈ want := fun x => mem_uq
  generalize uq want = u at *
  rcases mis_cases held u with ⟨h3, _⟩ | ⟨h3, h4, t, h5⟩
  · exact absurd h3 h2
  have hb : ∀ x ∈ bnd held u, x ∈ held := fun x hx => bnd_mem hx
  generalize hn : mis held u = n at *
  generalize bnd held u = b at *
  have h6 : ∀ x ∈ b ++ [n], decide (x ∈ held ++ [n]) = true := fun x hx => decide_eq_true (by
    rcases List.mem_append.1 hx with hx | hx
    · exact List.mem_append.2 (.inl (hb x hx))
    · exact List.mem_append.2 (.inr hx))
  have h7 := tw_app (b := b ++ [n]) (t := t) h6
  rw [List.append_assoc, List.singleton_append, ← h5] at h7
  refine ⟨t, h5, ?_, (hm n).1 h3, h4, ?_⟩
  · unfold bnd
    rw [h7.1]
    simp
  · have h8 : mis (held ++ [n]) u = mis (held ++ [n]) t := by unfold mis; rw [h7.2]
    rw [h8]
    rcases mis_cases (held ++ [n]) t with ⟨q, _⟩ | ⟨q, _⟩
    · exact .inl q
    · right
      rw [h5, List.pairwise_append] at hp
      exact (List.pairwise_cons.1 hp.2.1).1 _ q
set_option maxRecDepth 100000 in
set_option maxHeartbeats 4000000 in
theorem leaseBinds_h (want held : List Int) (z1 : want.length ≤ 17592186043904) (z2 : held.length ≤ 17592186043904) :
    FnH Try.prog 5 [.c (.nm 0), .c (.nm 1)] [(0, some (false, .rd 1 want.length (ivs want))), (1, some (false, .rd 1 held.length (ivs held)))] 2 ⟨.t (.c (.b true)), [], [], []⟩ := by
  refine fnR (fn := Try.f5) 129 rfl rfl rfl (args' := [.c (.nm 0), .c (.nm 1)]) (H' := [(0, some (false, .rd 1 want.length (ivs want))), (1, some (false, .rd 1 held.length (ivs held)))]) (nx' := 2) (fun e w M => ?_) rfl rfl rfl rfl fun w => ?_
  · obtain ⟨e', M', q1, q2⟩ := slr2 (v1 := .c (.nm 0)) (v2 := .c (.nm 1)) (SlR.rd rfl) (SlR.rd rfl) e w M
    exact ⟨e', M', by simp [q1, q2]⟩
  have hba : (bnd held (uq want)).length ≤ want.length := Nat.le_trans (List.takeWhile_sublist _).length_le (uq_le want)
  have hbp : (bnd held (uq want)).Pairwise (· < ·) := (uq_pw want).sublist (List.takeWhile_sublist _)
  have hbw : ∀ x ∈ bnd held (uq want), x ∈ want := fun x hx => mem_uq.1 (bnd_sub hx)
  have hbh : ∀ x ∈ bnd held (uq want), x ∈ held := fun x hx => bnd_mem hx
  refine rn [(15, .spec ⟨.t (.c (.b true)), [], [], []⟩), (16, .dec false), (20, .spec ⟨.tup [.c (.nm 2), .c (iT (mis held (uq want)))], [(true, .own 3 1 (bnd held (uq want)).length (ivs (bnd held (uq want))))], [], []⟩)] rfl (by (repeat' (first | exact trivial | exact rfl | exact lworks_h | exact fun _ => lworks_h | exact wanted_h (want := want) (held := held) (SlR.rd rfl) (SlR.rd rfl) z1 (by omega) | refine And.intro ?_ ?_))) ?_
  have hmc := mis_cases held (uq want)
  have hbi := binds (want := want) (held := held)
  have hmu : ∀ x, x ∈ uq want ↔ x ∈ want := fun x => mem_uq
  have hpw := uq_pw want
  have hbl2 : (bnd (held ++ [mis held (uq want)]) (uq want)).length ≤ want.length := Nat.le_trans (List.takeWhile_sublist _).length_le (uq_le want)
  refine At.loop (X := (k : Nat) ×' (k ≤ (bnd held (uq want)).length)) 3 (fun s => (bnd held (uq want)).length - s.1)
    (fun s => [(0, .t (.c (.nm 0))), (1, .t (.c (.nm 1))), (5, .t (.c (.nm 2))), (6, .t (.c (iT (mis held (uq want))))), (23, .t (.c (.nm 2))), (24, .t (.c (iT ((bnd held (uq want)).length : Nat)))), (25, .t (.c (iT (s.1 : Nat))))])
    (fun s => [(0, some (false, .rd 1 want.length (ivs want))), (1, some (false, .rd 1 held.length (ivs held))), (2, some (true, .own 3 1 (bnd held (uq want)).length (ivs (bnd held (uq want)))))]) ⟨0, by omega⟩ [] (fun k => wf rfl rfl) (by repeat' (first | exact trivial | exact rfl | refine And.intro ?_ ?_)) (by repeat' (first | exact trivial | exact rfl | refine And.intro ?_ ?_)) rfl fun s => ?_
  obtain ⟨k, hk⟩ := s
  have w2 : IntKind.i64.wrap ((k : Int) + 1) = ((k + 1 : Nat) : Int) := by rw [wrap_sm (by omega) (by omega)]; omega
  refine rn [] rfl (by repeat' (first | exact trivial | exact rfl | refine And.intro ?_ ?_)) ?_
  refine ⟨fun h => ?_, fun h => ?_⟩
  · have hlt : k < (bnd held (uq want)).length := by have : (k : Int) < ((bnd held (uq want)).length : Int) := of_decide_eq_true h; omega
    clear h hbi hmc
    generalize bnd held (uq want) = B at *
    have e1 : (ivs B)[(k : Int).toNat * 1]? = some (.int .i64 B[k]) := by simpa using ivs_at hlt
    have b0 : (0 : Int) ≤ (k : Int) := by omega
    have b1 : (k : Int) < (B.length : Int) := by omega
    have hw : FnH Try.prog 14 [.c (.nm 0), .c (iT B[k])] [(0, some (false, .rd 1 want.length (ivs want))), (1, some (false, .rd 1 held.length (ivs held))), (2, some (true, .own 3 1 B.length (ivs B)))] 3 ⟨.t (.c (.b true)), [], [], []⟩ := by
      have := holds_h (x := B[k]) (nx := 3) (l := want) (v := .c (.nm 0)) (H := [(0, some (false, .rd 1 want.length (ivs want))), (1, some (false, .rd 1 held.length (ivs held))), (2, some (true, .own 3 1 B.length (ivs B)))]) (SlR.rd rfl) (by omega)
      rwa [decide_eq_true (hbw _ (List.getElem_mem hlt))] at this
    have hh : FnH Try.prog 14 [.c (.nm 1), .c (iT B[k])] [(0, some (false, .rd 1 want.length (ivs want))), (1, some (false, .rd 1 held.length (ivs held))), (2, some (true, .own 3 1 B.length (ivs B)))] 3 ⟨.t (.c (.b true)), [], [], []⟩ := by
      have := holds_h (x := B[k]) (nx := 3) (l := held) (v := .c (.nm 1)) (H := [(0, some (false, .rd 1 want.length (ivs want))), (1, some (false, .rd 1 held.length (ivs held))), (2, some (true, .own 3 1 B.length (ivs B)))]) (SlR.rd rfl) (by omega)
      rwa [decide_eq_true (hbh _ (List.getElem_mem hlt))] at this
    have hg0 : k - 1 < B.length := by omega
    have hgd : B.getD (k - 1) 0 = B[k - 1] := by rw [List.getD_eq_getElem?_getD, List.getElem?_eq_getElem hg0]; rfl
    have hgt : 0 < k → B.getD (k - 1) 0 < B[k] := fun q => hgd ▸ List.pairwise_iff_getElem.1 hbp (k - 1) k hg0 hlt (by omega)
    have hwm : 0 < k → IntKind.i64.wrap ((k : Int) - 1) = ((k - 1 : Nat) : Int) := fun q => by rw [wrap_sm (by omega) (by omega)]; omega
    have hg1 : 0 < k → (ivs B)[((k - 1 : Nat) : Int).toNat * 1]? = some (.int .i64 (B.getD (k - 1) 0)) := fun q => by rw [Int.toNat_natCast, Nat.mul_one, ivs_at hg0, hgd]
    refine rn [(29, .ld [iT B[k]]), (32, .spec ⟨.t (.c (.b true)), [], [], []⟩), (37, .spec ⟨.t (.c (.b true)), [], [], []⟩), (34, .dec false), (40, .dec false), (49, .ld [iT (B.getD (k - 1) 0)]), (52, .dec false)] rfl ?_ ?_
    · (repeat' (first | exact trivial | exact rfl | exact e1 | exact fun _ => e1 | first | exact hw | exact hh | exact b0 | exact b1 | decide | refine And.intro ?_ ?_))
      · show (decide ((0 : Int) < (k : Int)) && decide (B[k] ≤ B.getD (k - 1) 0)) = false
        rcases Nat.eq_zero_or_pos k with q | q
        · rw [decide_eq_false (show ¬ (0 : Int) < (k : Int) by omega)]; rfl
        · have := hgt q
          rw [decide_eq_false (show ¬ B[k] ≤ B.getD (k - 1) 0 by omega)]; simp
      all_goals (intro hh; have hh' : 0 < k := (cond1 (a := 0) hh); try rw [show IntKind.i64.wrap ((⟨k, hk⟩ : (k : Nat) ×' (k ≤ B.length)).1 - 1) = ((k - 1 : Nat) : Int) from hwm hh'])
      all_goals first | exact ⟨hg1 hh', trivial⟩ | exact ⟨by omega, by omega⟩ | exact Nat.one_pos
    · exact roundEnd ⟨k + 1, by omega⟩ [] (by show B.length - (k + 1) < B.length - k; omega) (by (repeat' (first | exact trivial | exact rfl | exact w2 | exact fun _ => w2 | refine And.intro ?_ ?_))) (by repeat' (first | exact trivial | exact rfl | refine And.intro ?_ ?_)) rfl
  · refine rn [] rfl (by repeat' (first | exact trivial | exact rfl | refine And.intro ?_ ?_)) (roundExit rfl ?_)
    refine rnA [(55, .spec ⟨.t (.c (.b (decide ((-1 : Int) ∈ want)))), [], [], []⟩)] rfl (by (repeat' (first | exact trivial | exact rfl | exact holds_h (l := want) (SlR.rd rfl) (by omega) | exact fun _ => holds_h (l := want) (SlR.rd rfl) (by omega) | refine And.intro ?_ ?_))) ?_
    refine ⟨fun h => ?_, fun h => ?_⟩
    · refine rn [] rfl (by repeat' (first | exact trivial | exact rfl | refine And.intro ?_ ?_)) ?_
      exact ret0 tysOk rfl (by repeat' (first | exact trivial | exact rfl | refine And.intro ?_ ?_)) rfl
    have hw1 : (-1 : Int) ∉ want := of_decide_eq_false h
    clear h
    refine rn [] rfl (by repeat' (first | exact trivial | exact rfl | refine And.intro ?_ ?_)) ?_
    refine ⟨fun h => ?_, fun h => ?_⟩
    · have hn : mis held (uq want) = -1 := by simpa using h
      have hbu : bnd held (uq want) = uq want := by
        rcases hmc with ⟨_, q⟩ | ⟨q, _⟩
        · exact q
        · rw [hn, hmu] at q; exact absurd q hw1
      clear h
      refine rn [] rfl (by repeat' (first | exact trivial | exact rfl | refine And.intro ?_ ?_)) ?_
      refine At.loop (X := (j : Nat) ×' (j ≤ want.length)) 3 (fun s => want.length - s.1)
        (fun s => [(5, .t (.c (.nm 2))), (58, .t (.c (.nm 0))), (59, .t (.c (iT (want.length : Nat)))), (60, .t (.c (iT (s.1 : Nat))))])
        (fun s => [(0, some (false, .rd 1 want.length (ivs want))), (2, some (true, .own 3 1 (bnd held (uq want)).length (ivs (bnd held (uq want)))))]) ⟨0, by omega⟩ [] (fun k => wf rfl rfl) (by repeat' (first | exact trivial | exact rfl | refine And.intro ?_ ?_)) (by repeat' (first | exact trivial | exact rfl | refine And.intro ?_ ?_)) rfl fun s => ?_
      obtain ⟨j, hj⟩ := s
      have w3 : IntKind.i64.wrap ((j : Int) + 1) = ((j + 1 : Nat) : Int) := by rw [wrap_sm (by omega) (by omega)]; omega
      refine rn [] rfl (by repeat' (first | exact trivial | exact rfl | refine And.intro ?_ ?_)) ?_
      refine ⟨fun h => ?_, fun h => ?_⟩
      · have hjl : j < want.length := by have : (j : Int) < (want.length : Int) := of_decide_eq_true h; omega
        clear h
        have e1 : (ivs want)[(j : Int).toNat * 1]? = some (.int .i64 want[j]) := by simpa using ivs_at hjl
        have b0 : (0 : Int) ≤ (j : Int) := by omega
        have b1 : (j : Int) < (want.length : Int) := by omega
        have hb : want[j] ∈ bnd held (uq want) := by rw [hbu, hmu]; exact List.getElem_mem hjl
        refine rn [(63, .ld [iT want[j]]), (66, .spec ⟨.t (.c (.b (decide (want[j] ∈ bnd held (uq want))))), [], [], []⟩)] rfl (by (repeat' (first | exact trivial | exact rfl | exact e1 | exact fun _ => e1 | first | exact b0 | exact b1 | decide | exact holds_h (l := bnd held (uq want)) (SlR.own rfl) (by omega) | refine And.intro ?_ ?_))) ?_
        refine ⟨fun h => ?_, fun h => ?_⟩
        · rw [decide_eq_true hb] at h; cases h
        · refine rn [] rfl (by repeat' (first | exact trivial | exact rfl | refine And.intro ?_ ?_)) ?_
          exact roundEnd ⟨j + 1, by omega⟩ [] (by show want.length - (j + 1) < want.length - j; omega) (by (repeat' (first | exact trivial | exact rfl | exact w3 | exact fun _ => w3 | refine And.intro ?_ ?_))) (by repeat' (first | exact trivial | exact rfl | refine And.intro ?_ ?_)) rfl
      · refine rn [] rfl (by repeat' (first | exact trivial | exact rfl | refine And.intro ?_ ?_)) (roundExit rfl ?_)
        refine rnA [] rfl (by repeat' (first | exact trivial | exact rfl | refine And.intro ?_ ?_)) ?_
        exact ret0 tysOk rfl (by repeat' (first | exact trivial | exact rfl | refine And.intro ?_ ?_)) rfl
    · have hn : mis held (uq want) ≠ -1 := by simpa using h
      obtain ⟨t, t1, t2, t3, t4, t5⟩ := hbi hw1 hn
      clear h hbi hmc
      refine rn [] rfl (by repeat' (first | exact trivial | exact rfl | refine And.intro ?_ ?_)) ?_
      refine At.loop (X := (j : Nat) ×' (j ≤ want.length)) 3 (fun s => want.length - s.1)
        (fun s => [(0, .t (.c (.nm 0))), (1, .t (.c (.nm 1))), (5, .t (.c (.nm 2))), (6, .t (.c (iT (mis held (uq want))))), (69, .t (.c (.nm 0))), (70, .t (.c (iT (want.length : Nat)))), (71, .t (.c (iT (s.1 : Nat))))])
        (fun s => [(0, some (false, .rd 1 want.length (ivs want))), (1, some (false, .rd 1 held.length (ivs held))), (2, some (true, .own 3 1 (bnd held (uq want)).length (ivs (bnd held (uq want)))))]) ⟨0, by omega⟩ [] (fun k => wf rfl rfl) (by repeat' (first | exact trivial | exact rfl | refine And.intro ?_ ?_)) (by repeat' (first | exact trivial | exact rfl | refine And.intro ?_ ?_)) rfl fun s => ?_
      obtain ⟨j, hj⟩ := s
      have w3 : IntKind.i64.wrap ((j : Int) + 1) = ((j + 1 : Nat) : Int) := by rw [wrap_sm (by omega) (by omega)]; omega
      refine rn [] rfl (by repeat' (first | exact trivial | exact rfl | refine And.intro ?_ ?_)) ?_
      refine ⟨fun h => ?_, fun h => ?_⟩
      · have hjl : j < want.length := by have : (j : Int) < (want.length : Int) := of_decide_eq_true h; omega
        clear h
        have e1 : (ivs want)[(j : Int).toNat * 1]? = some (.int .i64 want[j]) := by simpa using ivs_at hjl
        have b0 : (0 : Int) ≤ (j : Int) := by omega
        have b1 : (j : Int) < (want.length : Int) := by omega
        have hb : want[j] < mis held (uq want) → want[j] ∈ bnd held (uq want) := by
          intro q
          have q1 := (hmu want[j]).2 (List.getElem_mem hjl)
          rw [t1] at q1
          rcases List.mem_append.1 q1 with q1 | q1
          · exact q1
          · rcases List.mem_cons.1 q1 with q1 | q1
            · omega
            · rw [t1, List.pairwise_append] at hpw
              have := (List.pairwise_cons.1 hpw.2.1).1 _ q1
              omega
        refine rn [(74, .ld [iT want[j]]), (81, .spec ⟨.t (.c (.b (decide (want[j] ∈ bnd held (uq want))))), [], [], []⟩)] rfl (by (repeat' (first | exact trivial | exact rfl | exact e1 | exact fun _ => e1 | first | exact b0 | exact b1 | decide | (first | intro _ | skip; exact holds_h (l := bnd held (uq want)) (SlR.own rfl) (by omega)) | refine And.intro ?_ ?_))) ?_
        refine ⟨fun h => ?_, fun h => ?_⟩
        · obtain ⟨q1, q2⟩ := Bool.and_eq_true_iff.1 h
          rw [decide_eq_true (hb (of_decide_eq_true q1))] at q2
          cases q2
        · refine rn [] rfl (by repeat' (first | exact trivial | exact rfl | refine And.intro ?_ ?_)) ?_
          exact roundEnd ⟨j + 1, by omega⟩ [] (by show want.length - (j + 1) < want.length - j; omega) (by (repeat' (first | exact trivial | exact rfl | exact w3 | exact fun _ => w3 | refine And.intro ?_ ?_))) (by repeat' (first | exact trivial | exact rfl | refine And.intro ?_ ?_)) rfl
      · refine rn [] rfl (by repeat' (first | exact trivial | exact rfl | refine And.intro ?_ ?_)) (roundExit rfl ?_)
        clear h
        generalize hB : bnd held (uq want) = B at *
        generalize hN : mis held (uq want) = n at *
        have m1 : 0 + held.length ≤ maxLen := by simp [maxLen]; omega
        have m2 : (0 + held.length) * 8 ≤ 140737488355328 := by omega
        have m3 : held.length + 1 ≤ maxLen := by simp [maxLen]; omega
        have m4 : (held.length + 1) * 8 ≤ 140737488355328 := by omega
        have m5 : 0 + held.length + 1 ≤ maxLen := by simp [maxLen]; omega
        have m6 : (0 + held.length + 1) * 8 ≤ 140737488355328 := by omega
        have hBl : B.length ≤ (bnd (held ++ [n]) (uq want)).length := by rw [t2]; simp
        have hl1 : (held ++ [n]).length = 0 + held.length + 1 := by simp
        have hi1 : ivs (held ++ [n]) = app (app [] (ivs held)) [.int .i64 n] := by simp [app_eq, ivs]
        refine rnA [(87, .dec true), (93, .spec ⟨.tup [.c (.nm 7), .c (iT (mis (held ++ [n]) (uq want)))], [(true, .own 3 1 (bnd (held ++ [n]) (uq want)).length (ivs (bnd (held ++ [n]) (uq want))))], [], []⟩),
          (98, .spec ⟨.t (.c (.b (decide (n ∈ held)))), [], [], []⟩), (103, .spec ⟨.t (.c (.b (decide (n ∈ want)))), [], [], []⟩), (108, .spec ⟨.t (.c (.b (decide (n ∈ bnd (held ++ [n]) (uq want))))), [], [], []⟩), (116, .spec ⟨.t (.c (.b true)), [], [], []⟩)] rfl ?_ ?_
        · repeat' (first | exact trivial | exact rfl | refine And.intro ?_ ?_)
          all_goals first | intro _ | skip
          all_goals first
            | exact holds_h (l := held) (SlR.rd rfl) (by omega)
            | exact holds_h (l := want) (SlR.rd rfl) (by omega)
            | exact holds_h (l := bnd (held ++ [n]) (uq want)) (SlR.own rfl) (by omega)
            | rfl
            | exact sameInts_eq (l := B) (SlR.sub rfl hBl (by rw [Nat.mul_one, t2, ivs_append]; simp [ivs])) (SlR.own rfl) (by omega)
            | exact ⟨by omega, by omega⟩
            | exact wanted_h (want := want) (held := held ++ [n]) (SlR.rd rfl) (by rw [hl1, hi1]; exact SlR.own rfl) z1 (by simp; omega)
            | exact m1 | exact m2 | exact m5 | exact m6 | exact ivs_one held _
        · refine ret0 tysOk rfl ?_ rfl
          repeat' (first | exact trivial | exact rfl | refine And.intro ?_ ?_)
          have q1 : n ∈ bnd (held ++ [n]) (uq want) := by rw [t2]; simp
          rw [decide_eq_false t4, decide_eq_true t3, decide_eq_true q1]
          rcases t5 with q | q
          · rw [q]; rfl
          · rw [decide_eq_true q]; simp
theorem leaseBinds_true (want held : List Int) (A1 A2 : Option Addr) (c1 c2 : Nat) (w : World) (z1 : want.length ≤ 17592186043904) (z2 : held.length ≤ 17592186043904) (h1 : Vc.Rds w A1 want.length c1 1 (ivs want)) (h2 : Vc.Rds w A2 held.length c2 1 (ivs held)) :
    Calls Try.prog 5 #[.slice A1 want.length c1, .slice A2 held.length c2] w fun e w' => e = .returned (.bool true) ∧ RowKit.Below w.heap.size w w' := by
  obtain ⟨e, M, v0, v1⟩ := memr2 h1 h2
  have := fnh_law (leaseBinds_h want held z1 z2) rfl rfl M
  rw [show ([.c (.nm 0), .c (.nm 1)] : List TV).map (TV.den e) = [e.val 0, e.val 1] from rfl, v0, v1] at this
  exact this
end Cw
