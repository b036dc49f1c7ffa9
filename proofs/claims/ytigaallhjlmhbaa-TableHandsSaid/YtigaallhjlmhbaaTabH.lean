/- The law TableHands, by reckoning. -/
import Derived.Test.YtigaallhjlmhbaaTabB
namespace Cw
open Go Vc
open Go.Proofs
set_option maxRecDepth 100000
theorem lbytes_set (N : List Ls) (r : Nat) (hr : r < N.length) (x : Ls) (Z : List UInt8) : over (lbytes N ++ Z) (4 * r) (lw x) = lbytes (N.set r x) ++ Z := by
  have h1 : (lbytes (N.take r)).length = 4 * r := by rw [lbytes_length, List.length_take]; omega
  have hN : lbytes N = lbytes (N.take r) ++ (lw N[r] ++ lbytes (N.drop (r + 1))) := by
    conv => lhs; rw [← List.take_append_drop r N, List.drop_eq_getElem_cons hr, lbytes_append]
    rfl
  have hS : lbytes (N.set r x) = lbytes (N.take r) ++ (lw x ++ lbytes (N.drop (r + 1))) := by
    rw [List.set_eq_take_append_cons_drop, if_pos hr, lbytes_append]
    rfl
  rw [hN, hS]
  unfold over
  rw [List.append_assoc, List.append_assoc, List.take_left' h1, List.drop_append, h1, List.drop_of_length_le (by omega), List.nil_append, lw_length, show 4 * r + 4 - 4 * r = 4 by omega, List.append_assoc, List.drop_left' (lw_length _)]
  simp
theorem tz_set (N : List Ls) (r : Nat) (hr : r < N.length) (x : Ls) : over (tz N N.length) (4 * r) (lw x) = tz (N.set r x) N.length := by
  unfold tz
  rw [List.take_length, lbytes_set N r hr x, List.length_set, List.take_of_length_le (by simp)]
theorem secs_set (N : List Ls) (r : Nat) (h : r < N.length) (x : Ls) : (secs (tz N N.length) (nsec N.length)).set (r / 16) (S (one (sec (tz N N.length) (r / 16)) ((r % 16 * 4 : Nat), S (lw x)))) = secs (tz (N.set r x) N.length) (nsec N.length) := by
  have hn : r / 16 < nsec N.length := by unfold nsec; omega
  have hz := tz_length N N.length (Nat.le_refl _)
  apply List.ext_getElem (by simp [secs_length])
  intro j h1 h2
  rw [secs_length] at h2
  rw [List.getElem_set, secs_get, secs_get, ← tz_set N r h x, show 4 * r = 64 * (r / 16) + r % 16 * 4 by omega, sec_over hz hn (by rw [lw_length]; omega)]
  split
  · rename_i hj
    subst hj
    rw [if_pos rfl]
    simp only [one, Int.toNat_natCast, S_data]
  · rename_i hj
    rw [if_neg (fun e => hj e.symm)]
theorem setAt_lcells : ∀ (N : List Ls) (r : Nat) (_ : r < N.length) (x : Ls), setAt (lcells N) (r * 2) [.int .i64 x.1, .int .i64 x.2] = lcells (N.set r x)
  | y :: N, 0, _, x => rfl
  | y :: N, r + 1, h, x => by
    have := setAt_lcells N r (by simpa using h) x
    have e : lcells (y :: N) = [.int .i64 y.1, .int .i64 y.2] ++ lcells N := rfl
    have e2 : lcells ((y :: N).set (r + 1) x) = [.int .i64 y.1, .int .i64 y.2] ++ lcells (N.set r x) := rfl
    rw [e, e2, ← this, show (r + 1) * 2 = r * 2 + 2 by omega]
    simp [setAt]
theorem setAt_ivs (W : List Int) (j : Nat) (x : Int) (h : j < W.length) : setAt (ivs W) j [.int .i64 x] = ivs (W.set j x) := by
  rw [List.set_eq_take_append_cons_drop, if_pos h]
  simp [setAt, ivs, List.map_take, List.map_drop]
theorem repl_lcells (n : Nat) : (repl n [CV.i .i64 0, CV.i .i64 0]).map (CV.den e0) = lcells (List.replicate n (0, 0)) := by
  rw [repl_map]
  simp [lcells, CV.den]
theorem repl_ivs (n : Nat) : (repl n [CV.i .i64 0]).map (CV.den e0) = ivs (List.replicate n 0) := by
  rw [repl_map]
  simp [ivs, CV.den]
theorem held_mem {l : List Ls} {o : Int} {n : Nat} {x : Int} (h : x ∈ held l o n) : ∃ r : Nat, x = r ∧ r < n ∧ (l.getD r (0, 0)).1 = o := by
  simp only [held, List.mem_map, List.mem_filter, List.mem_range] at h
  obtain ⟨r, ⟨h1, h2⟩, rfl⟩ := h
  exact ⟨r, rfl, h1, by simpa using h2⟩
theorem held_sum (l : List Ls) (h : ∀ x ∈ l, 0 ≤ x.1 ∧ x.1 ≤ 2) : ∀ k, k ≤ l.length → (held l 0 k).length + (held l 1 k).length + (held l 2 k).length = k
  | 0, _ => rfl
  | k + 1, hk => by
    have ih := held_sum l h k (by omega)
    have hx := h l[k] (List.getElem_mem (by omega))
    have hlt : k < l.length := by omega
    rw [held_succ l 0 k hlt, held_succ l 1 k hlt, held_succ l 2 k hlt]
    rcases (by omega : l[k].1 = 0 ∨ l[k].1 = 1 ∨ l[k].1 = 2) with e | e | e <;> simp [e] <;> omega
/-- How many leases are those of the owners below o. -/
def cnt (N : List Ls) : Nat → Nat
  | 0 => 0
  | o + 1 => cnt N o + (held N o N.length).length
theorem cnt_three (N : List Ls) (h : ∀ x ∈ N, 0 ≤ x.1 ∧ x.1 ≤ 2) : cnt N 3 = N.length := by
  have := held_sum N h N.length (Nat.le_refl _)
  simp only [cnt]
  simpa using this
structure Hin (N : List Ls) (n i : Nat) : Prop where
  len : N.length = n
  ok : ∀ x ∈ N, (0 ≤ x.1 ∧ x.1 ≤ 2) ∧ 0 ≤ x.2 ∧ x.2 ≤ i
theorem Hin.all {N : List Ls} {n i : Nat} (h : Hin N n i) (hi : i ≤ 60) : N.all (fun x => tok x.1 x.2) = true := by
  rw [List.all_eq_true]
  intro x hx
  have := h.ok x hx
  simp only [tok, decide_eq_true_eq]
  omega
theorem Hin.start (n : Nat) : Hin (List.replicate n (0, 0)) n 0 := ⟨by simp, fun x hx => by rw [List.eq_of_mem_replicate hx]; simp⟩
theorem Hin.next {N : List Ls} {n i r : Nat} {o : Int} (h : Hin N n i) (hr : r < N.length) (h0 : 0 ≤ o ∧ o ≤ 2) : Hin (N.set r (o, N[r].2 + 1)) n (i + 1) := by
  refine ⟨by rw [List.length_set]; exact h.len, fun x hx => ?_⟩
  rcases List.mem_or_eq_of_mem_set hx with hx | rfl
  · have := h.ok x hx; omega
  · have := h.ok _ (List.getElem_mem hr)
    exact ⟨h0, by simp only; omega⟩
theorem among_nat (x : Int) (n : Nat) (h0 : 0 < n) (h1 : n ≤ 1000000000) : ∃ r : Nat, r < n ∧ Fn0 Try.prog 39 [.c (iT x), .c (iT (n : Nat))] (.t (.c (iT (r : Nat)))) := by
  have h := among0 x n (by omega) (by omega)
  refine ⟨(x % n).toNat, ?_, ?_⟩
  · have := Int.emod_lt_of_pos x (show (0 : Int) < n by omega)
    omega
  · rwa [Int.toNat_of_nonneg (Int.emod_nonneg x (by omega))]
set_option maxRecDepth 100000 in
set_option maxHeartbeats 4000000 in
theorem thands_h (a b c : Int) (l : List Ls) (zl : l.length ≤ 100000000000000) :
    FnH Try.prog 9 [geoT a b c, .c (.nm 0)] [(0, some (false, .rd 2 l.length (lcells l)))] 1 ⟨.t (.c (.b true)), [], [], []⟩ := by
  refine fnR (fn := Try.f9) 180 rfl rfl rfl (args' := [geoT a b c, .c (.nm 0)]) (H' := [(0, some (false, .rd 2 l.length (lcells l)))]) (nx' := 1) (fun e w M => ?_) rfl rfl rfl rfl fun w => ?_
  · obtain ⟨e', M', q1⟩ := slr1 (v := .c (.nm 0)) (SlR.rd rfl) e w M
    exact ⟨e', M', by simp [q1]; rfl⟩
  by_cases hg0 : ¬ Gok a b c
  · have hg := hg0
    refine rn [(26, .ret (.t (.c (.b true)))), (27, .dec false), (29, .ret (.t (.c (iT 0)))), (31, .dec true)] rfl (by (repeat' (first | exact trivial | exact rfl | exact tworks0 | exact fun _ => tworks0 | exact regions_no hg ▸ tregions0 a b c | refine And.intro ?_ ?_))) ?_
    exact ret0 tysOk rfl (by repeat' (first | exact trivial | exact rfl | refine And.intro ?_ ?_)) rfl
  have hg : Gok a b c := Decidable.not_not.1 hg0
  obtain ⟨n, hn⟩ : ∃ n : Nat, gregions a b c = (n : Nat) := ⟨_, regions_nat a b c⟩
  obtain ⟨hr2, hr9⟩ := regions_two hg hn
  have hnm : 1 ≤ nsec n ∧ nsec n ≤ 9 := by unfold nsec; omega
  have hreg : Fn0 Try.prog 38 [geoT a b c] (.t (.c (iT (n : Nat)))) := hn ▸ tregions0 a b c
  have hn0 : (((n : Nat) : Int) == 0) = false := by simp; omega
  have hs := Hin.start n
  refine rn [(26, .ret (.t (.c (.b true)))), (27, .dec false), (29, .ret (.t (.c (iT (n : Nat))))), (31, .dec false), (39, .spec ⟨.tup [.c (.nm 4), .c (iT 0)], [(true, .own 9 1 (nsec n) (svs (secs (tz (List.replicate n (0, 0)) n) (nsec n))))], [], []⟩), (43, .dec false)] rfl ?_ ?_
  · repeat' (first | exact trivial | exact rfl | exact tworks0 | exact hreg | exact hn0 | refine And.intro ?_ ?_)
    all_goals first | omega | (simp [maxLen]; omega) | skip
    have h39 := fun {H : HL} {nx : Nat} {v : TV} hv => tenc_h (List.replicate n (0, 0)) hg (by simp [hn]) (hs.all (by omega)) (H := H) (nx := nx) (v := v) hv
    simp only [List.length_replicate] at h39
    exact h39 (repl_lcells n ▸ SlR.own rfl)
  refine At.loop (X := (i : Nat) ×' (N : List Ls) ×' (i ≤ 60 ∧ i ≤ l.length ∧ Hin N n i)) 5 (fun x => 60 - x.1)
    (fun x => [(1, .t (.c (.nm 0))), (2, .t (.c (.p 1 0))), (5, .t (.c (iT (n : Nat)))), (6, .t (.c (.nm 2))), (7, .t (.c (.nm 3))), (8, .t (.c (.nm 4))), (10, .t (.c (iT (x.1 : Nat))))])
    (fun x => [(0, some (false, .rd 2 l.length (lcells l))), (1, some (true, .cells [iT a, iT b, iT c] 34)), (2, some (true, .own 49 2 n (lcells x.2.1))), (3, some (true, .own 3 1 n (ivs (x.2.1.map (·.2))))), (4, some (true, .own 9 1 (nsec n) (svs (secs (tz x.2.1 n) (nsec n)))))])
    ⟨0, List.replicate n (0, 0), by omega, by omega, hs⟩ [] (fun x => wf rfl rfl) (by repeat' (first | exact trivial | exact rfl | refine And.intro ?_ ?_)) ?_ rfl fun x => ?_
  · repeat' (first | exact trivial | exact rfl | refine And.intro ?_ ?_)
    · exact repl_lcells n
    · exact (repl_ivs n).trans (by simp)
  obtain ⟨i, N, hi1, hi2, hN⟩ := x
  have hNl := hN.len
  refine rn [] rfl (by repeat' (first | exact trivial | exact rfl | refine And.intro ?_ ?_)) ?_
  refine ⟨fun h => ?_, fun h => ?_⟩
  · have h1 : (i : Int) < (l.length : Int) := of_decide_eq_true (Bool.and_eq_true_iff.1 h).1
    have h2 : (i : Int) < 60 := of_decide_eq_true (Bool.and_eq_true_iff.1 h).2
    have hlt : i < l.length := by omega
    clear h
    have e1 : (lcells l)[(i : Int).toNat * 2 + 0]? = some (.int .i64 l[i].1) := by simpa using (lcells_get l i hlt).1
    have e2 : (lcells l)[(i : Int).toNat * 2 + 1]? = some (.int .i64 l[i].2) := by simpa using (lcells_get l i hlt).2
    have e3 : (i : Int).toNat * 2 < (lcells l).length := by rw [lcells_length]; omega
    obtain ⟨r, hr, A1⟩ := among_nat l[i].1 n (by omega) (by omega)
    obtain ⟨o, ho, A2⟩ := among_nat l[i].2 3 (by omega) (by omega)
    have hrl : r < N.length := by omega
    have hx := hN.ok _ (List.getElem_mem hrl)
    have e4 : (lcells N)[(r : Int).toNat * 2]? = some (.int .i64 N[r].1) := by simpa using (lcells_get N r hrl).1
    have e5 : (lcells N)[(r : Int).toNat * 2 + 1]? = some (.int .i64 N[r].2) := by simpa using (lcells_get N r hrl).2
    have hxok : tok N[r].1 N[r].2 = true := List.all_eq_true.1 (hN.all hi1) _ (List.getElem_mem hrl)
    have hyok : tok (o : Int) (N[r].2 + 1) = true := by
      simp only [tok, decide_eq_true_eq]
      omega
    have hgive := tgive0 N[r] (o : Int)
    have hge : gve N[r] (o : Int) = 0 := by
      simp only [gve, hxok, if_true]
      rw [if_neg (by omega)]
    rw [gvx, hge, if_pos rfl] at hgive
    have hput := tputOk0 hg r ((o : Int), N[r].2 + 1) (by omega) hyok
    have hq : r / 16 < nsec n := by unfold nsec; omega
    have hs64 := sec_length (z := tz N n) (m := nsec n) (by have := tz_length N N.length (Nat.le_refl _); rwa [hNl] at this) hq
    have w1 : IntKind.i64.wrap ((i : Int) + 1) = ((i + 1 : Nat) : Int) := by rw [wrap_sm (by omega) (by omega)]; omega
    have w3 : IntKind.i64.wrap (2 + (r / 16 : Nat) - 2) = ((r / 16 : Nat) : Int) := by rw [wrap_sm (by omega) (by omega)]; omega
    have w4 : IntKind.i64.wrap (N[r].2 + 1) = N[r].2 + 1 := wrap_sm (by omega) (by omega)
    have w5 : IntKind.i64.wrap (2 + (nsec n : Nat)) = 2 + (nsec n : Nat) := wrap_sm (by omega) (by omega)
    have hw0 : 0 ≤ IntKind.i64.wrap (2 + (r / 16 : Nat) - 2) := by omega
    have hw1 : IntKind.i64.wrap (2 + (r / 16 : Nat) - 2) < ((nsec n : Nat) : Int) := by omega
    have e6 : (svs (secs (tz N n) (nsec n)))[(IntKind.i64.wrap (2 + (r / 16 : Nat) - 2)).toNat * 1]? = some (.string (S (sec (tz N n) (r / 16)))) := by
      rw [w3, Int.toNat_natCast, Nat.mul_one, svs_at (by rw [secs_length]; exact hq), secs_get]
    have e7 : (ivs (N.map (·.2)))[(r : Int).toNat * 1]? = some (.int .i64 N[r].2) := by
      rw [Int.toNat_natCast, Nat.mul_one, ivs_at (by simpa using hrl)]
      simp
    have b0 : (0 : Int) ≤ (i : Int) := by omega
    have b1 : (0 : Int) ≤ (r : Int) := by omega
    have b2 : (r : Int) < (n : Int) := by omega
    have c100 : ((0 : Int) != 0 || (0 : Int) != 0 || decide (2 + ((r / 16 : Nat) : Int) < 2) || decide (IntKind.i64.wrap (2 + (nsec n : Nat)) ≤ 2 + ((r / 16 : Nat) : Int))) = false := by
      rw [w5]
      simp
      omega
    refine rn [(58, .ld [iT l[i].1]), (60, .ret (.t (.c (iT (r : Nat))))), (65, .ld [iT l[i].2]), (66, .ret (.t (.c (iT (o : Nat))))), (71, .ld [iT N[r].1, iT N[r].2]), (73, .ret (.tup [lT ((o : Int), N[r].2 + 1), .c (iT 0)])), (80, .ret (.tup [.c (iT (2 + (r / 16 : Nat))), patT ((r % 16 * 4 : Nat)) (lw ((o : Int), N[r].2 + 1)), .c (iT 0)])), (100, .dec false), (106, .ld [.s (S (sec (tz N n) (r / 16)))]), (109, .spec ⟨.tup [.c (.s (S (one (sec (tz N n) (r / 16)) ((r % 16 * 4 : Nat), S (lw ((o : Int), N[r].2 + 1)))))), .c (iT 0)], [], [], []⟩), (113, .dec false), (126, .ld [iT N[r].2])] rfl ?_ ?_
    · repeat' (first | exact trivial | exact rfl | exact e1 | exact e2 | exact e3 | exact e4 | exact e5 | exact e6 | exact e7 | exact A1 | exact A2 | exact hgive | exact hput | exact b0 | exact b1 | exact b2 | exact h1 | exact hw0 | exact hw1 | exact c100 | exact patch_lease _ hs64 r _ hyok rfl | refine And.intro ?_ ?_)
      all_goals first | decide | (simp only [svs_length, secs_length, lcells_length, ivs_length, List.length_map]; omega)
    · refine roundEnd ⟨i + 1, N.set r ((o : Int), N[r].2 + 1), by omega, by omega, hN.next hrl (by omega)⟩ [] (by show 60 - (i + 1) < 60 - i; omega) (by (repeat' (first | exact trivial | exact rfl | exact w1 | exact fun _ => w1 | refine And.intro ?_ ?_))) ?_ rfl
      repeat' (first | exact trivial | exact rfl | refine And.intro ?_ ?_)
      · rw [Int.toNat_natCast]
        exact setAt_lcells N r hrl _
      · show setAt (ivs (N.map (·.2))) ((r : Int).toNat * 1) [.int .i64 (IntKind.i64.wrap (N[r].2 + 1))] = ivs ((N.set r ((o : Int), N[r].2 + 1)).map (·.2))
        rw [Int.toNat_natCast, Nat.mul_one, w4, setAt_ivs _ _ _ (by simpa using hrl), List.map_set]
      · show setAt (svs (secs (tz N n) (nsec n))) ((IntKind.i64.wrap (2 + (r / 16 : Nat) - 2)).toNat * 1) [.string _] = svs (secs (tz (N.set r ((o : Int), N[r].2 + 1)) n) (nsec n))
        rw [w3, Int.toNat_natCast, Nat.mul_one, setAt_svs (by rw [secs_length]; exact hq)]
        have := secs_set N r hrl ((o : Int), N[r].2 + 1)
        rw [hNl] at this
        rw [this]
  · refine rn [] rfl (by repeat' (first | exact trivial | exact rfl | refine And.intro ?_ ?_)) (roundExit rfl ?_)
    have hall := hN.all hi1
    have hTd := tdok_back N hall
    have hb := dl_back N hall
    rw [hNl] at hTd hb
    have zN : N.length ≤ 100000000000000 := by omega
    refine rnA [(132, .spec ⟨.tup [.c (.nm 5), .c (iT 0)], [(true, .own 49 2 n (lcells N))], [], []⟩), (140, .spec ⟨.t (.c (.b (decide (N = N)))), [], [], []⟩), (142, .dec false)] rfl ?_ ?_
    · repeat' (first | exact trivial | exact rfl | refine And.intro ?_ ?_)
      all_goals first | (simp [polB]; done) | skip
      · first | intro _ | skip
        exact lsame_h (by rw [hNl]; exact SlR.own rfl) (by rw [hNl]; exact SlR.own rfl) zN
      · have h132 := fun {H : HL} {nx : Nat} {v : TV} hv => tdec_h (secs (tz N n) (nsec n)) hg hn (secs_length _ _) hTd (H := H) (nx := nx) (v := v) hv
        simp only [hb] at h132
        exact h132 (by rw [secs_length]; exact SlR.own rfl)
    have hcb : ∀ o, o ≤ 3 → cnt N o ≤ 1000 := by
      have h0 := held_le N 0 N.length
      have h1 := held_le N 1 N.length
      have h2 := held_le N 2 N.length
      intro o ho
      match o, ho with
      | 0, _ => simp [cnt]
      | 1, _ => simp [cnt]; omega
      | 2, _ => simp [cnt]; omega
      | 3, _ => simp [cnt]; omega
    refine At.loop (X := (o : Nat) ×' (o ≤ 3)) 6 (fun x => 3 - x.1)
      (fun x => [(5, .t (.c (iT (n : Nat)))), (7, .t (.c (.nm 3))), (20, .t (.c (.nm 5))), (22, .t (.c (iT (cnt N x.1 : Nat)))), (143, .t (.c (iT (x.1 : Nat))))])
      (fun x => [(3, some (true, .own 3 1 n (ivs (N.map (·.2))))), (5, some (true, .own 49 2 n (lcells N)))])
      ⟨0, by omega⟩ [] (fun x => wf rfl rfl) (by repeat' (first | exact trivial | exact rfl | refine And.intro ?_ ?_)) (by repeat' (first | exact trivial | exact rfl | refine And.intro ?_ ?_)) rfl fun x => ?_
    obtain ⟨o, ho⟩ := x
    refine rn [] rfl (by repeat' (first | exact trivial | exact rfl | refine And.intro ?_ ?_)) ?_
    refine ⟨fun h => ?_, fun h => ?_⟩
    · have ho3 : o < 3 := by have : (o : Int) < 3 := of_decide_eq_true h; omega
      clear h
      have hheld := fun {H : HL} {nx : Nat} {v : TV} hv => theld_h N (o : Int) (by omega) (H := H) (nx := nx) (v := v) hv
      have hhl := held_le N (o : Int) N.length
      rw [hNl] at hhl
      have hcn := hcb o ho
      have wo : IntKind.i64.wrap ((o : Int) + 1) = ((o + 1 : Nat) : Int) := by rw [wrap_sm (by omega) (by omega)]; omega
      simp only [hNl] at hheld
      refine rn [(148, .spec ⟨.t (.c (.nm 6)), [(true, .own 3 1 (held N o n).length (ivs (held N o n)))], [], []⟩)] rfl ?_ ?_
      · repeat' (first | exact trivial | exact rfl | exact hheld (SlR.own rfl) | refine And.intro ?_ ?_)
      refine At.loop (X := (k : Nat) ×' (k ≤ (held N o n).length)) 7 (fun x => (held N o n).length - x.1)
        (fun x => [(5, .t (.c (iT (n : Nat)))), (7, .t (.c (.nm 3))), (20, .t (.c (.nm 5))), (22, .t (.c (iT ((cnt N o + x.1 : Nat)))) ), (23, .t (.c (iT (o : Nat)))), (143, .t (.c (iT (o : Nat)))), (148, .t (.c (.nm 6))), (149, .t (.c (iT ((held N o n).length : Nat)))), (150, .t (.c (iT (x.1 : Nat))))])
        (fun x => [(3, some (true, .own 3 1 n (ivs (N.map (·.2))))), (5, some (true, .own 49 2 n (lcells N))), (6, some (true, .own 3 1 (held N o n).length (ivs (held N o n))))])
        ⟨0, by omega⟩ [] (fun x => wf rfl rfl) (by repeat' (first | exact trivial | exact rfl | refine And.intro ?_ ?_)) (by repeat' (first | exact trivial | exact rfl | refine And.intro ?_ ?_)) rfl fun x => ?_
      obtain ⟨k, hk⟩ := x
      refine rn [] rfl (by repeat' (first | exact trivial | exact rfl | refine And.intro ?_ ?_)) ?_
      refine ⟨fun h => ?_, fun h => ?_⟩
      · have hlt : k < (held N o n).length := by have : (k : Int) < (((held N o n).length : Nat) : Int) := of_decide_eq_true h; omega
        obtain ⟨r, hrx, hr, hro⟩ := held_mem (List.getElem_mem hlt)
        have hrl : r < N.length := by omega
        have hro : N[r].1 = o := by rwa [show N.getD r (0, 0) = N[r] by simp [List.getD_eq_getElem?_getD, hrl]] at hro
        have f1 : (ivs (held N o n))[(k : Int).toNat * 1]? = some (.int .i64 (r : Int)) := by
          rw [Int.toNat_natCast, Nat.mul_one, ivs_at hlt, hrx]
        have f2 : (lcells N)[(r : Int).toNat * 2 + 0]? = some (.int .i64 N[r].1) := by simpa using (lcells_get N r hrl).1
        have f3 : (lcells N)[(r : Int).toNat * 2 + 1]? = some (.int .i64 N[r].2) := by simpa using (lcells_get N r hrl).2
        have f4 : (r : Int).toNat * 2 < (lcells N).length := by rw [lcells_length]; omega
        have f5 : (ivs (N.map (·.2)))[(r : Int).toNat * 1]? = some (.int .i64 N[r].2) := by
          rw [Int.toNat_natCast, Nat.mul_one, ivs_at (by simpa using hrl)]
          simp
        have b0 : (0 : Int) ≤ (k : Int) := by omega
        have b1 : (k : Int) < (((held N o n).length : Nat) : Int) := by omega
        have b2 : (0 : Int) ≤ (r : Int) := by omega
        have b3 : (r : Int) < (n : Int) := by omega
        have wk : IntKind.i64.wrap ((k : Int) + 1) = ((k + 1 : Nat) : Int) := by rw [wrap_sm (by omega) (by omega)]; omega
        have wc : IntKind.i64.wrap (((cnt N o + k : Nat) : Int) + 1) = ((cnt N o + (k + 1) : Nat) : Int) := by rw [wrap_sm (by omega) (by omega)]; omega
        have c172 : (N[r].1 != (o : Int) || N[r].2 != N[r].2) = false := by simp [hro]
        refine rn [(153, .ld [iT (r : Nat)]), (158, .ld [iT N[r].1]), (166, .ld [iT N[r].2]), (170, .ld [iT N[r].2]), (172, .dec false)] rfl ?_ ?_
        · repeat' (first | exact trivial | exact rfl | exact f1 | exact f2 | exact f3 | exact f4 | exact f5 | exact b0 | exact b1 | exact b2 | exact b3 | exact c172 | exact fun _ => f3 | exact fun _ => f4 | exact fun _ => f5 | exact fun _ => b2 | exact fun _ => b3 | refine And.intro ?_ ?_ | intro _)
          all_goals first | decide | (simp only [lcells_length, ivs_length, List.length_map]; omega)
        · exact roundEnd ⟨k + 1, by omega⟩ [] (by show (held N o n).length - (k + 1) < (held N o n).length - k; omega) (by (repeat' (first | exact trivial | exact rfl | exact wk | exact fun _ => wk | exact wc | refine And.intro ?_ ?_))) (by repeat' (first | exact trivial | exact rfl | refine And.intro ?_ ?_)) rfl
      · have hlt : k = (held N o n).length := by have : ¬ (k : Int) < (((held N o n).length : Nat) : Int) := of_decide_eq_false h; omega
        subst hlt
        refine rn [] rfl (by repeat' (first | exact trivial | exact rfl | refine And.intro ?_ ?_)) (roundExit rfl ?_)
        refine rnA [] rfl (by repeat' (first | exact trivial | exact rfl | refine And.intro ?_ ?_)) ?_
        exact roundEnd ⟨o + 1, by omega⟩ [] (by show 3 - (o + 1) < 3 - o; omega) (by (repeat' (first | exact trivial | exact rfl | exact wo | exact fun _ => wo | (rw [cnt, hNl]) | refine And.intro ?_ ?_))) (by repeat' (first | exact trivial | exact rfl | refine And.intro ?_ ?_)) rfl
    · have ho3 : o = 3 := by have : ¬ (o : Int) < 3 := of_decide_eq_false h; omega
      subst ho3
      have hc := cnt_three N (fun x hx => (hN.ok x hx).1)
      refine rn [] rfl (by repeat' (first | exact trivial | exact rfl | refine And.intro ?_ ?_)) (roundExit rfl ?_)
      refine rnA [] rfl (by repeat' (first | exact trivial | exact rfl | refine And.intro ?_ ?_)) ?_
      refine ret0 tysOk rfl ⟨?_, trivial⟩ rfl
      show (((cnt N 3 : Nat) : Int) == (n : Int)) = true
      rw [hc, hNl]
      simp
theorem tableHands_true (a b c : Int) (l : List Ls) (A1 : Option Addr) (c1 : Nat) (w : World) (zl : l.length ≤ 100000000000000) (h1 : Vc.Rds w A1 l.length c1 2 (lcells l)) :
    Calls Try.prog 9 #[geo a b c, .slice A1 l.length c1] w fun e w' => e = .returned (.bool true) ∧ RowKit.Below w.heap.size w w' := by
  obtain ⟨e, M, v0⟩ := memr1 h1
  have := fnh_law (thands_h a b c l zl) rfl rfl M
  rw [show ([geoT a b c, .c (.nm 0)] : List TV).map (TV.den e) = [geo a b c, e.val 0] from rfl, v0] at this
  exact this
end Cw
