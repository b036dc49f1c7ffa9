/- The law TableBack, by reckoning. -/
import Derived.Test.YtigaallhjlmhbaaTabV3
namespace Cw
open Go Vc
open Go.Proofs
set_option maxRecDepth 100000
theorem lbytes_drop : ∀ (l : List Ls) (r : Nat), (lbytes l).drop (4 * r) = lbytes (l.drop r)
  | l, 0 => by simp
  | [], r + 1 => by simp [lbytes]
  | x :: l, r + 1 => by
    rw [List.drop_succ_cons, ← lbytes_drop l r]
    have : lbytes (x :: l) = lw x ++ lbytes l := rfl
    rw [this, show 4 * (r + 1) = 4 + 4 * r by omega, ← List.drop_drop, List.drop_left' (lw_length x)]
theorem lv_parts {x : Ls} (h : tok x.1 x.2 = true) : (((lv x.1 x.2 % 256 : Nat) : Int), ((lv x.1 x.2 / 256 : Nat) : Int)) = x := by
  obtain ⟨o, s⟩ := x
  have := tok_iff h
  simp only [lv] at *
  refine Prod.ext ?_ ?_
  · show (((o.toNat + 256 * s.toNat) % 256 : Nat) : Int) = o
    omega
  · show (((o.toNat + 256 * s.toNat) / 256 : Nat) : Int) = s
    omega
theorem dle_back (l : List Ls) (hl : l.all (fun x => tok x.1 x.2) = true) (r : Nat) (hr : r < l.length) : dle ((secs (tz l l.length) (nsec l.length)).getD (r / 16) ⟨#[]⟩) (r % 16 * 4) = l[r] := by
  have hq : r / 16 < nsec l.length := by unfold nsec; omega
  have hok : tok l[r].1 l[r].2 = true := List.all_eq_true.1 hl _ (List.getElem_mem hr)
  rw [getD_at (by rw [secs_length]; exact hq), secs_get]
  have hn : numAt (S (sec (tz l l.length) (r / 16))) (r % 16 * 4) 4 = lv l[r].1 l[r].2 := by
    unfold numAt
    rw [S_data]
    unfold sec
    rw [List.drop_take, List.take_take, Nat.min_eq_left (by omega), List.drop_drop, show 64 * (r / 16) + r % 16 * 4 = 4 * r by omega]
    unfold tz
    rw [List.take_length, List.drop_append_of_le_length (by rw [lbytes_length]; omega), lbytes_drop, List.drop_eq_getElem_cons hr]
    have : lbytes (l[r] :: l.drop (r + 1)) = lw l[r] ++ lbytes (l.drop (r + 1)) := rfl
    rw [this, List.append_assoc, List.take_left' (lw_length _)]
    exact num_le 4 _ (lv_lt hok)
  unfold dle
  rw [hn]
  exact lv_parts hok
theorem dl_back (l : List Ls) (hl : l.all (fun x => tok x.1 x.2) = true) : dl (secs (tz l l.length) (nsec l.length)) l.length = l := by
  apply List.ext_getElem (dl_length _ _)
  intro r h1 h2
  simp only [dl, List.getElem_map, List.getElem_range]
  exact dle_back l hl r h2
theorem tdok_back (l : List Ls) (hl : l.all (fun x => tok x.1 x.2) = true) : Tdok (secs (tz l l.length) (nsec l.length)) l.length := by
  have hb := dl_back l hl
  refine ⟨fun s hs => ?_, by rw [hb]; exact hl, by rw [hb]⟩
  simp only [secs, List.mem_map, List.mem_range] at hs
  obtain ⟨j, hj, rfl⟩ := hs
  rw [S_size, sec_length (tz_length l l.length (Nat.le_refl _)) hj]
theorem lsame_h {v1 v2 : TV} {l1 l2 : List Ls} {H : HL} {nx : Nat} (h1 : SlR H v1 l1.length 2 (lcells l1)) (h2 : SlR H v2 l2.length 2 (lcells l2)) (z : l1.length ≤ 100000000000000) :
    FnH Try.prog 22 [v1, v2] H nx ⟨.t (.c (.b (decide (l1 = l2)))), [], [], []⟩ := by
  refine fnR (fn := Try.f22) 26 rfl rfl rfl (args' := [.c (.nm 0), .c (.nm 1)]) (H' := [(0, some (false, .rd 2 l1.length (lcells l1))), (1, some (false, .rd 2 l2.length (lcells l2)))]) (nx' := 2) (fun e w M => ?_) rfl rfl rfl rfl fun w => ?_
  · obtain ⟨e', M', q1, q2⟩ := slr2 h1 h2 e w M
    exact ⟨e', M', by simp [q1, q2]⟩
  refine rn [] rfl (by repeat' (first | exact trivial | exact rfl | refine And.intro ?_ ?_)) ?_
  refine ⟨fun h => ?_, fun h => ?_⟩
  · have hne : l1 ≠ l2 := fun e => by subst e; simp at h
    refine rn [] rfl (by repeat' (first | exact trivial | exact rfl | refine And.intro ?_ ?_)) ?_
    rw [decide_eq_false hne]
    exact ret0 tysOk rfl (by repeat' (first | exact trivial | exact rfl | refine And.intro ?_ ?_)) rfl
  have hl : l1.length = l2.length := by simp at h; omega
  clear h
  refine rn [] rfl (by repeat' (first | exact trivial | exact rfl | refine And.intro ?_ ?_)) ?_
  refine At.loop (X := (k : Nat) ×' (k ≤ l1.length ∧ l1.take k = l2.take k)) 2 (fun k => l1.length - k.1)
    (fun k => [(0, .t (.c (.nm 0))), (1, .t (.c (.nm 1))), (5, .t (.c (iT (k.1 : Nat))))])
    (fun _ => [(0, some (false, .rd 2 l1.length (lcells l1))), (1, some (false, .rd 2 l2.length (lcells l2)))]) ⟨0, by omega, rfl⟩ [] (fun k => wf rfl rfl) (by repeat' (first | exact trivial | exact rfl | refine And.intro ?_ ?_)) (by repeat' (first | exact trivial | exact rfl | refine And.intro ?_ ?_)) rfl fun k => ?_
  obtain ⟨k, hk1, hk2⟩ := k
  have w2 : IntKind.i64.wrap ((k : Int) + 1) = ((k + 1 : Nat) : Int) := by rw [wrap_sm (by omega) (by omega)]; omega
  refine rn [] rfl (by repeat' (first | exact trivial | exact rfl | refine And.intro ?_ ?_)) ?_
  refine ⟨fun h => ?_, fun h => ?_⟩
  · have hlt : k < l1.length := by have : (k : Int) < (l1.length : Int) := of_decide_eq_true h; omega
    have hlt2 : k < l2.length := by omega
    have e1 : (lcells l1)[(k : Int).toNat * 2]? = some (.int .i64 l1[k].1) := by simpa using (lcells_get l1 k hlt).1
    have e2 : (lcells l2)[(k : Int).toNat * 2]? = some (.int .i64 l2[k].1) := by simpa using (lcells_get l2 k hlt2).1
    have e3 : (lcells l1)[(k : Int).toNat * 2 + 1]? = some (.int .i64 l1[k].2) := by simpa using (lcells_get l1 k hlt).2
    have e4 : (lcells l2)[(k : Int).toNat * 2 + 1]? = some (.int .i64 l2[k].2) := by simpa using (lcells_get l2 k hlt2).2
    have b0 : (0 : Int) ≤ (k : Int) := by omega
    have b1 : (k : Int) < (l1.length : Int) := by omega
    have b2 : (k : Int) < (l2.length : Int) := by omega
    refine rn [(20, .ld [iT l1[k].1, iT l1[k].2]), (24, .ld [iT l2[k].1, iT l2[k].2])] rfl (by (repeat' (first | exact trivial | exact rfl | exact e1 | exact fun _ => e1 | first | exact e2 | exact e3 | exact e4 | exact b0 | exact b1 | exact b2 | decide | refine And.intro ?_ ?_))) ?_
    refine ⟨fun h => ?_, fun h => ?_⟩
    · have hne : l1 ≠ l2 := fun e => by subst e; simp [polB] at h
      refine rn [] rfl (by repeat' (first | exact trivial | exact rfl | refine And.intro ?_ ?_)) (roundRet ?_)
      rw [decide_eq_false hne]
      exact ret0 tysOk rfl (by repeat' (first | exact trivial | exact rfl | refine And.intro ?_ ?_)) rfl
    · have he : l1[k] = l2[k] := by simp [polB] at h; exact Prod.ext h.1 h.2
      refine rn [] rfl (by repeat' (first | exact trivial | exact rfl | refine And.intro ?_ ?_)) ?_
      refine roundEnd ⟨k + 1, by omega, by rw [List.take_succ_eq_append_getElem hlt, List.take_succ_eq_append_getElem hlt2, hk2, he]⟩ [] (by show l1.length - (k + 1) < l1.length - k; omega) (by (repeat' (first | exact trivial | exact rfl | exact w2 | exact fun _ => w2 | refine And.intro ?_ ?_))) (by repeat' (first | exact trivial | exact rfl | refine And.intro ?_ ?_)) rfl
  · have hlt : k = l1.length := by have : ¬ (k : Int) < (l1.length : Int) := of_decide_eq_false h; omega
    have he : l1 = l2 := by
      rw [hlt, List.take_length] at hk2
      rw [hl, List.take_length] at hk2
      exact hk2
    refine rn [] rfl (by repeat' (first | exact trivial | exact rfl | refine And.intro ?_ ?_)) (roundExit rfl ?_)
    refine rnA [] rfl (by repeat' (first | exact trivial | exact rfl | refine And.intro ?_ ?_)) ?_
    rw [decide_eq_true he]
    exact ret0 tysOk rfl (by repeat' (first | exact trivial | exact rfl | refine And.intro ?_ ?_)) rfl
theorem regions_nat (a b c : Int) : gregions a b c = ((gregions a b c).toNat : Nat) := by have := regions_bd a b c; omega
theorem regions_no {a b c : Int} (h : ¬ Gok a b c) : gregions a b c = 0 := by rw [gregions, if_neg h]
/-- What Encode does with leases; what Decode does with sectors. -/
theorem tenc_all (a b c : Int) (l : List Ls) : (Gok a b c ∧ gregions a b c = (l.length : Nat) ∧ l.all (fun x => tok x.1 x.2) = true) ∨
    ∃ k : Int, k ≠ 0 ∧ ((k = 4 ∧ ¬ (Gok a b c ∧ gregions a b c = (l.length : Nat))) ∨ (k = 80 ∧ Gok a b c ∧ gregions a b c = (l.length : Nat) ∧ l.all (fun x => tok x.1 x.2) = false)) ∧ ∀ {H : HL} {nx : Nat} {v : TV}, SlR H v l.length 2 (lcells l) → FnH Try.prog 19 [geoT a b c, v] H nx ⟨.tup [.c .nsl, .c (iT k)], [], [], []⟩ := by
  by_cases hg : Gok a b c ∧ gregions a b c = (l.length : Nat)
  · obtain ⟨hg, hn⟩ := hg
    cases h : l.all fun x => tok x.1 x.2
    · exact .inr ⟨80, by decide, .inr ⟨rfl, hg, hn, rfl⟩, fun hv => tenc_no80 l hg hn h hv⟩
    · exact .inl ⟨hg, hn, rfl⟩
  · refine .inr ⟨4, by decide, .inl ⟨rfl, hg⟩, fun hv => tenc_no4 l ?_ hv⟩
    by_cases h : Gok a b c
    · exact .inr fun e => hg ⟨h, e⟩
    · exact .inl (regions_no h)
theorem tdec_all (a b c : Int) (T : List ByteArray) (hz : ∀ s ∈ T, s.size ≤ 9223372036854775807) : (∃ n : Nat, Gok a b c ∧ gregions a b c = (n : Nat) ∧ T.length = nsec n ∧ Tdok T n) ∨
    ∃ k : Int, k ≠ 0 ∧ ((k = 4 ∧ ¬ (Gok a b c ∧ T.length = nsec (gregions a b c).toNat)) ∨ (k = 80 ∧ Gok a b c ∧ T.length = nsec (gregions a b c).toNat ∧ ¬ Tdok T (gregions a b c).toNat)) ∧ ∀ {H : HL} {nx : Nat} {v : TV}, SlR H v T.length 1 (svs T) → FnH Try.prog 36 [geoT a b c, v] H nx ⟨.tup [.c .nsl, .c (iT k)], [], [], []⟩ := by
  have hn := regions_nat a b c
  generalize hk : (gregions a b c).toNat = n at *
  by_cases hg : Gok a b c ∧ T.length = nsec n
  · obtain ⟨hg, hT⟩ := hg
    by_cases h : Tdok T n
    · exact .inl ⟨n, hg, hn, hT, h⟩
    · exact .inr ⟨80, by decide, .inr ⟨rfl, hg, hT, h⟩, fun hv => tdec_no80 T hg hn hT h hz hv⟩
  · refine .inr ⟨4, by decide, .inl ⟨rfl, hg⟩, fun hv => tdec_no4 T hn ?_ hv⟩
    by_cases h : Gok a b c
    · exact .inr fun e => hg ⟨h, e⟩
    · left
      have := regions_no h
      unfold nsec
      omega
theorem tworks0 : Fn0 Try.prog 23 [] (.t (.c (.b true))) := ⟨fun w => tworks_any w⟩
set_option maxRecDepth 100000 in
set_option maxHeartbeats 2000000 in
theorem tback_h (a b c : Int) (l : List Ls) (T : List ByteArray) (hz : ∀ s ∈ T, s.size ≤ 9223372036854775807) (zl : l.length ≤ 100000000000000) (zT : T.length ≤ 100000000000000) :
    FnH Try.prog 8 [geoT a b c, .c (.nm 0), .c (.nm 1)] [(0, some (false, .rd 2 l.length (lcells l))), (1, some (false, .rd 1 T.length (svs T)))] 2 ⟨.t (.c (.b true)), [], [], []⟩ := by
  refine fnR (fn := Try.f8) 63 rfl rfl rfl (args' := [geoT a b c, .c (.nm 0), .c (.nm 1)]) (H' := [(0, some (false, .rd 2 l.length (lcells l))), (1, some (false, .rd 1 T.length (svs T)))]) (nx' := 2) (fun e w M => ?_) rfl rfl rfl rfl fun w => ?_
  · obtain ⟨e', M', q1, q2⟩ := slr2 (v1 := .c (.nm 0)) (v2 := .c (.nm 1)) (SlR.rd rfl) (SlR.rd rfl) e w M
    exact ⟨e', M', by simp [q1, q2]; rfl⟩
  rcases tenc_all a b c l with ⟨hg, hn, hall⟩ | ⟨k, hk, _, henc⟩
  · have hb := dl_back l hall
    have hTd := tdok_back l hall
    have hl9 := (regions_two hg hn).2
    refine rn [(15, .ret (.t (.c (.b true)))), (16, .dec false), (20, .spec ⟨.tup [.c (.nm 3), .c (iT 0)], [(true, .own 9 1 (nsec l.length) (svs (secs (tz l l.length) (nsec l.length))))], [], []⟩), (24, .dec true), (28, .spec ⟨.tup [.c (.nm 4), .c (iT 0)], [(true, .own 49 2 l.length (lcells l))], [], []⟩), (36, .spec ⟨.t (.c (.b (decide (l = l)))), [], [], []⟩)] rfl ?_ ?_
    · repeat' (first | exact trivial | exact rfl | exact tworks0 | exact tenc_h l hg hn hall (SlR.rd rfl) | refine And.intro ?_ ?_)
      all_goals first | (simp [polB]; done) | skip
      · first | intro _ | skip
        exact lsame_h (SlR.own rfl) (SlR.rd rfl) zl
      · have h28 := fun {H : HL} {nx : Nat} {v : TV} hv => tdec_h (secs (tz l l.length) (nsec l.length)) hg hn (secs_length _ _) hTd (H := H) (nx := nx) (v := v) hv
        simp only [hb] at h28
        exact h28 (by rw [secs_length]; exact SlR.own rfl)
    refine ⟨fun h => absurd h (by simp [polB]), fun _ => ?_⟩
    rcases tdec_all a b c T hz with ⟨n, hg2, hn2, hT, hd⟩ | ⟨k2, hk2, _, hdec⟩
    · have hd' := hd
      obtain ⟨hd1, hd2, hd3⟩ := hd'
      have hl := dl_length T n
      refine rn [(42, .spec ⟨.tup [.c (.nm 5), .c (iT 0)], [(true, .own 49 2 n (lcells (dl T n)))], [], []⟩), (46, .dec false), (53, .spec ⟨.tup [.c (.nm 6), .c (iT 0)], [(true, .own 9 1 (nsec n) (svs T))], [], []⟩), (61, .spec ⟨.t (.c (.b (decide (T = T)))), [], [], []⟩)] rfl ?_ ?_
      · repeat' (first | exact trivial | exact rfl | exact tdec_h T hg2 hn2 hT hd (SlR.rd rfl) | refine And.intro ?_ ?_)
        · first | intro _ | skip
          exact sameTexts_h (l1 := T) (l2 := T) (by rw [hT]; exact SlR.own rfl) (SlR.rd rfl) zT
        · have h53 := fun {H : HL} {nx : Nat} {v : TV} hv => tenc_h (dl T n) hg2 (by rw [hl]; exact hn2) hd2 (H := H) (nx := nx) (v := v) hv
          simp only [hl, hd3] at h53
          exact h53 (SlR.own rfl)
      · refine ret0 tysOk rfl ⟨?_, trivial⟩ rfl
        simp [polB]
    · refine rn [(42, .spec ⟨.tup [.c .nsl, .c (iT k2)], [], [], []⟩), (46, .dec true)] rfl ?_ ?_
      · repeat' (first | exact trivial | exact rfl | exact hdec (SlR.rd rfl) | refine And.intro ?_ ?_)
        simpa using hk2
      · exact ret0 tysOk rfl (by repeat' (first | exact trivial | exact rfl | refine And.intro ?_ ?_)) rfl
  · refine rn [(15, .ret (.t (.c (.b true)))), (16, .dec false), (20, .spec ⟨.tup [.c .nsl, .c (iT k)], [], [], []⟩)] rfl ?_ ?_
    · repeat' (first | exact trivial | exact rfl | exact tworks0 | exact henc (SlR.rd rfl) | refine And.intro ?_ ?_)
    refine ⟨fun h => absurd (by simpa using h) hk, fun _ => ?_⟩
    rcases tdec_all a b c T hz with ⟨n, hg2, hn2, hT, hd⟩ | ⟨k2, hk2, _, hdec⟩
    · have hd' := hd
      obtain ⟨hd1, hd2, hd3⟩ := hd'
      have hl := dl_length T n
      refine rn [(42, .spec ⟨.tup [.c (.nm 3), .c (iT 0)], [(true, .own 49 2 n (lcells (dl T n)))], [], []⟩), (46, .dec false), (53, .spec ⟨.tup [.c (.nm 4), .c (iT 0)], [(true, .own 9 1 (nsec n) (svs T))], [], []⟩), (61, .spec ⟨.t (.c (.b (decide (T = T)))), [], [], []⟩)] rfl ?_ ?_
      · repeat' (first | exact trivial | exact rfl | exact tdec_h T hg2 hn2 hT hd (SlR.rd rfl) | refine And.intro ?_ ?_)
        · first | intro _ | skip
          exact sameTexts_h (l1 := T) (l2 := T) (by rw [hT]; exact SlR.own rfl) (SlR.rd rfl) zT
        · have h53 := fun {H : HL} {nx : Nat} {v : TV} hv => tenc_h (dl T n) hg2 (by rw [hl]; exact hn2) hd2 (H := H) (nx := nx) (v := v) hv
          simp only [hl, hd3] at h53
          exact h53 (SlR.own rfl)
      · refine ret0 tysOk rfl ⟨?_, trivial⟩ rfl
        simp [polB]
    · refine rn [(42, .spec ⟨.tup [.c .nsl, .c (iT k2)], [], [], []⟩), (46, .dec true)] rfl ?_ ?_
      · repeat' (first | exact trivial | exact rfl | exact hdec (SlR.rd rfl) | refine And.intro ?_ ?_)
        simpa using hk2
      · exact ret0 tysOk rfl (by repeat' (first | exact trivial | exact rfl | refine And.intro ?_ ?_)) rfl
theorem tableBack_true (a b c : Int) (l : List Ls) (T : List ByteArray) (A1 A2 : Option Addr) (c1 c2 : Nat) (w : World) (hz : ∀ s ∈ T, s.size ≤ 9223372036854775807) (zl : l.length ≤ 100000000000000) (zT : T.length ≤ 100000000000000) (h1 : Vc.Rds w A1 l.length c1 2 (lcells l)) (h2 : Vc.Rds w A2 T.length c2 1 (svs T)) :
    Calls Try.prog 8 #[geo a b c, .slice A1 l.length c1, .slice A2 T.length c2] w fun e w' => e = .returned (.bool true) ∧ RowKit.Below w.heap.size w w' := by
  obtain ⟨e, M, v0, v1⟩ := memr2 h1 h2
  have := fnh_law (tback_h a b c l T hz zl zT) rfl rfl M
  rw [show ([geoT a b c, .c (.nm 0), .c (.nm 1)] : List TV).map (TV.den e) = [geo a b c, e.val 0, e.val 1] from rfl, v0, v1] at this
  exact this
end Cw
