/- The document's answer for the package table, by reckoning: Sectors, Encode. -/
import Derived.Test.YtigaallhjlmhbaaTabR
namespace Cw
open Go Vc
open Go.Proofs
set_option maxRecDepth 100000
theorem chunk_succ (l : List Ls) (j d : Nat) (h : 16 * j + d < l.length) : lbytes ((l.drop (16 * j)).take (d + 1)) = lbytes ((l.drop (16 * j)).take d) ++ lw l[16 * j + d] := by
  rw [List.take_succ_eq_append_getElem (by simp; omega), lbytes_append]
  simp [lbytes]
theorem svs_append (a b : List ByteArray) : svs (a ++ b) = svs a ++ svs b := by simp [svs]
theorem repl_zeros (n : Nat) : (repl n [CV.i .u8 0]).map (CV.den e0) = (S (List.replicate n 0)).data.toList.map (fun c : UInt8 => Value.int .u8 c.toNat) := by
  rw [repl_map, S_data]
  simp [CV.den]
set_option maxRecDepth 100000 in
set_option maxHeartbeats 4000000 in
theorem rsecs_h (l : List Ls) (hall : l.all (fun x => tok x.1 x.2) = true) (hz : l.length ≤ 1000000) {H : HL} {nx : Nat} {v : TV} (hv : SlR H v l.length 2 (lcells l)) :
    FnH Try.prog 57 [v] H nx ⟨.t (.c (.nm nx)), [(true, .own 9 1 (nsec l.length) (svs (secs (tz l l.length) (nsec l.length))))], [], []⟩ := by
  refine fnN (fn := Try.f57) 44 rfl rfl rfl (args' := [.c (.nm 0)]) (H' := [(0, some (false, .rd 2 l.length (lcells l)))]) (nx' := 1) (fun e w M => ?_) rfl rfl rfl (inR_one nx) rfl fun w => ?_
  · obtain ⟨e', M', q1⟩ := slr1 hv e w M
    exact ⟨e', M', by simp [q1]⟩
  have hsl := secs_length (tz l l.length) (nsec l.length)
  have hns : nsec l.length ≤ 1000000 := by unfold nsec; omega
  refine rn [] rfl (by repeat' (first | exact trivial | exact rfl | refine And.intro ?_ ?_)) ?_
  refine At.nil 3 9 1 rfl ?_
  refine At.loop (X := (j : Nat) ×' (j ≤ nsec l.length)) 2 (fun j => nsec l.length - j.1)
    (fun j => [(0, .t (.c (.nm 0))), (3, .t (.c (.nm 1))), (4, .t (.c (iT (16 * j.1 : Nat))))])
    (fun j => [(0, some (false, .rd 2 l.length (lcells l))), (1, some (true, .own 9 1 j.1 (svs ((secs (tz l l.length) (nsec l.length)).take j.1))))]) ⟨0, by omega⟩ [] (fun k => wf rfl rfl) (by repeat' (first | exact trivial | exact rfl | refine And.intro ?_ ?_)) (by repeat' (first | exact trivial | exact rfl | refine And.intro ?_ ?_)) rfl fun j => ?_
  obtain ⟨j, hj⟩ := j
  refine rn [] rfl (by repeat' (first | exact trivial | exact rfl | refine And.intro ?_ ?_)) ?_
  refine ⟨fun h => ?_, fun h => ?_⟩
  · have hlt : 16 * j < l.length := by have : ((16 * j : Nat) : Int) < ((l.length : Nat) : Int) := of_decide_eq_true h; omega
    have hjn : j < nsec l.length := by unfold nsec; omega
    refine rn [] rfl (by repeat' (first | exact trivial | exact rfl | refine And.intro ?_ ?_)) ?_
    refine At.loop (X := (d : Nat) ×' (d ≤ min 16 (l.length - 16 * j))) 2 (fun d => 16 - d.1)
      (fun d => [(0, .t (.c (.nm 0))), (3, .t (.c (.nm 1))), (4, .t (.c (iT (16 * j : Nat)))), (5, .t (.c (.s (S (lbytes ((l.drop (16 * j)).take d.1)))))), (6, .t (.c (iT (16 * j + d.1 : Nat))))])
      (fun d => [(0, some (false, .rd 2 l.length (lcells l))), (1, some (true, .own 9 1 j (svs ((secs (tz l l.length) (nsec l.length)).take j))))]) ⟨0, by omega⟩ [] (fun k => wf rfl rfl) (by repeat' (first | exact trivial | exact rfl | refine And.intro ?_ ?_)) (by repeat' (first | exact trivial | exact rfl | refine And.intro ?_ ?_)) rfl fun d => ?_
    obtain ⟨d, hd⟩ := d
    have w16 : IntKind.i64.wrap (((16 * j : Nat) : Int) + 16) = ((16 * j + 16 : Nat) : Int) := by rw [wrap_sm (by omega) (by omega)]; omega
    refine rn [] rfl (by repeat' (first | exact trivial | exact rfl | refine And.intro ?_ ?_)) ?_
    refine ⟨fun h => ?_, fun h => ?_⟩
    · have h1 : ((16 * j + d : Nat) : Int) < IntKind.i64.wrap (((16 * j : Nat) : Int) + 16) := of_decide_eq_true (Bool.and_eq_true_iff.1 h).1
      have h2 : ((16 * j + d : Nat) : Int) < ((l.length : Nat) : Int) := of_decide_eq_true (Bool.and_eq_true_iff.1 h).2
      rw [w16] at h1
      have hd1 : d < 16 := by omega
      have hlk : 16 * j + d < l.length := by omega
      have hok : tok l[16 * j + d].1 l[16 * j + d].2 = true := List.all_eq_true.1 hall _ (List.getElem_mem hlk)
      have e1 : (lcells l)[((16 * j + d : Nat) : Int).toNat * 2]? = some (.int .i64 l[16 * j + d].1) := (lcells_get l _ hlk).1
      have e2 : (lcells l)[((16 * j + d : Nat) : Int).toNat * 2 + 1]? = some (.int .i64 l[16 * j + d].2) := (lcells_get l _ hlk).2
      have b0 : (0 : Int) ≤ ((16 * j + d : Nat) : Int) := by omega
      have w1 : IntKind.i64.wrap (((16 * j + d : Nat) : Int) + 1) = ((16 * j + (d + 1) : Nat) : Int) := by rw [wrap_sm (by omega) (by omega)]; omega
      have hsz : (S (lbytes ((l.drop (16 * j)).take d))).size + (S (lw l[16 * j + d])).size ≤ 9223372036854775807 := by
        rw [S_size, S_size, lbytes_length, lw_length, List.length_take]
        omega
      refine rn [(30, .ld [iT l[16 * j + d].1, iT l[16 * j + d].2]), (31, .ret (.t (.c (.s (S (lw l[16 * j + d]))))))] rfl (by (repeat' (first | exact trivial | exact rfl | exact e1 | exact fun _ => e1 | first | exact e2 | exact b0 | exact h2 | exact rtext0 _ hok | exact hsz | decide | refine And.intro ?_ ?_))) ?_
      refine roundEnd ⟨d + 1, by omega⟩ [] (by show 16 - (d + 1) < 16 - d; omega) ?_ (by repeat' (first | exact trivial | exact rfl | refine And.intro ?_ ?_)) rfl
      (repeat' (first | exact trivial | exact rfl | exact w1 | exact fun _ => w1 | refine And.intro ?_ ?_))
      show S _ ++ S _ = S (lbytes ((l.drop (16 * j)).take (d + 1)))
      rw [chunk_succ l j d hlk, S_append]
    · have hdd : d = min 16 (l.length - 16 * j) := by
        have h' : ¬ (((16 * j + d : Nat) : Int) < IntKind.i64.wrap (((16 * j : Nat) : Int) + 16) ∧ ((16 * j + d : Nat) : Int) < ((l.length : Nat) : Int)) := fun hh => by
          have : (decide (((16 * j + d : Nat) : Int) < IntKind.i64.wrap (((16 * j : Nat) : Int) + 16)) && decide (((16 * j + d : Nat) : Int) < ((l.length : Nat) : Int))) = false := h
          rw [decide_eq_true hh.1, decide_eq_true hh.2] at this
          cases this
        rw [w16] at h'
        omega
      have hcl : (S (lbytes ((l.drop (16 * j)).take d))).size = 4 * d := by rw [S_size, lbytes_length, List.length_take, List.length_drop]; omega
      have w64 : IntKind.i64.wrap (64 - ((S (lbytes ((l.drop (16 * j)).take d))).size : Int)) = ((64 - 4 * d : Nat) : Int) := by rw [hcl, wrap_sm (by omega) (by omega)]; omega
      have hrz := repl_zeros (64 - 4 * d)
      have hsz2 : (S (List.replicate (64 - 4 * d) 0)).size = 64 - 4 * d := by rw [S_size, List.length_replicate]
      have w2 : IntKind.i64.wrap (((16 * j : Nat) : Int) + 16) = ((16 * (j + 1) : Nat) : Int) := by rw [w16]; omega
      refine rn [] rfl (by repeat' (first | exact trivial | exact rfl | refine And.intro ?_ ?_)) (roundExit rfl ?_)
      refine rnA [(39, .ret (.t (.c (.s (S (List.replicate (64 - 4 * d) 0))))))] rfl ?_ ?_
      · repeat' (first | exact trivial | exact rfl | refine And.intro ?_ ?_)
        all_goals first
          | (show (repl (IntKind.i64.wrap (64 - ((S (lbytes ((l.drop (16 * j)).take d))).size : Int))).toNat [CV.i .u8 0]).map (CV.den e0) = _; rw [w64]; exact hrz)
          | (show (IntKind.i64.wrap (64 - ((S (lbytes ((l.drop (16 * j)).take d))).size : Int))).toNat = _; rw [w64, hsz2]; rfl)
          | (show (S (lbytes ((l.drop (16 * j)).take d))).size + (S (List.replicate (64 - 4 * d) 0)).size ≤ _; rw [hcl, hsz2]; omega)
          | (rw [w64]; first | omega | (simp [maxLen]; omega) | simp)
          | (simp only [maxLen]; omega)
          | omega
          | decide
      · refine roundEnd ⟨j + 1, by omega⟩ [(1, 4)] (by show nsec l.length - (j + 1) < nsec l.length - j; omega) (by (repeat' (first | exact trivial | exact rfl | exact w2 | exact fun _ => w2 | refine And.intro ?_ ?_))) ?_ rfl
        repeat' (first | exact trivial | exact rfl | refine And.intro ?_ ?_)
        rw [app_eq, List.take_succ_eq_append_getElem (by rw [hsl]; exact hjn), secs_get, svs_append, sec_chunk l j d hlt hdd, ← S_append]
        rfl
  · have hjj : j = nsec l.length := by
      have : ¬ ((16 * j : Nat) : Int) < ((l.length : Nat) : Int) := of_decide_eq_false h
      unfold nsec at *
      omega
    subst hjj
    refine rn [] rfl (by repeat' (first | exact trivial | exact rfl | refine And.intro ?_ ?_)) (roundExit rfl ?_)
    refine rnA [] rfl (by repeat' (first | exact trivial | exact rfl | refine And.intro ?_ ?_)) ?_
    exact retN tysOk [(nx, 1)] rfl (by simp only [retS, SV.eqs, eqsT, TV.eqs, CV.eqs, ren_one]; repeat' (first | exact trivial | exact rfl | refine And.intro ?_ ?_)) (by simp only [newsH, subH, ren_one]; rw [List.take_of_length_le (by rw [hsl]; exact Nat.le_refl _)]; repeat' (first | exact trivial | exact rfl | refine And.intro ?_ ?_)) (by simp [injK, keysH, newsH, inL]) rfl
theorem renc_no4 {a b c : Int} (l : List Ls) (hn : ¬ (Gok a b c ∧ gregions a b c = (l.length : Nat))) {H : HL} {nx : Nat} {v : TV} (hv : SlR H v l.length 2 (lcells l)) :
    FnH Try.prog 20 [geoT a b c, v] H nx ⟨.tup [.c .nsl, .c (iT 4)], [], [], []⟩ := by
  refine fnR (fn := Try.f20) 31 rfl rfl rfl (args' := [geoT a b c, .c (.nm 0)]) (H' := [(0, some (false, .rd 2 l.length (lcells l)))]) (nx' := 1) (fun e w M => ?_) rfl rfl rfl rfl fun w => ?_
  · obtain ⟨e', M', q1⟩ := slr1 hv e w M
    exact ⟨e', M', by simp [q1]; rfl⟩
  have hs : (gcheck a b c != 0 || ((l.length : Nat) : Int) != gregions a b c) = true := by
    by_cases hg : Gok a b c
    · have : ((l.length : Nat) : Int) ≠ gregions a b c := fun e => hn ⟨hg, e.symm⟩
      simp [this]
    · simp [gcheck, hg]
  refine rn [(8, .ret (.t (.c (iT (gcheck a b c))))), (14, .ret (.t (.c (iT (gregions a b c))))), (16, .dec true)] rfl (by (repeat' (first | exact trivial | exact rfl | exact rcheckT0 a b c | exact fun _ => rcheckT0 a b c | first | exact hs | exact fun _ => rregions0 a b c | refine And.intro ?_ ?_))) ?_
  exact ret0 tysOk rfl (by repeat' (first | exact trivial | exact rfl | refine And.intro ?_ ?_)) rfl
theorem renc_no80 {a b c : Int} (l : List Ls) (hg : Gok a b c) (hn : gregions a b c = (l.length : Nat)) (hall : l.all (fun x => tok x.1 x.2) = false) {H : HL} {nx : Nat} {v : TV} (hv : SlR H v l.length 2 (lcells l)) :
    FnH Try.prog 20 [geoT a b c, v] H nx ⟨.tup [.c .nsl, .c (iT 80)], [], [], []⟩ := by
  have hr := regions_two hg hn
  refine fnR (fn := Try.f20) 31 rfl rfl rfl (args' := [geoT a b c, .c (.nm 0)]) (H' := [(0, some (false, .rd 2 l.length (lcells l)))]) (nx' := 1) (fun e w M => ?_) rfl rfl rfl rfl fun w => ?_
  · obtain ⟨e', M', q1⟩ := slr1 hv e w M
    exact ⟨e', M', by simp [q1]; rfl⟩
  have hs : ((0 : Int) != 0 || ((l.length : Nat) : Int) != (l.length : Nat)) = false := by simp
  have hc : gcheck a b c = 0 := by simp [gcheck, hg]
  refine rn [(8, .ret (.t (.c (iT 0)))), (14, .ret (.t (.c (iT (l.length : Nat))))), (16, .dec false)] rfl (by (repeat' (first | exact trivial | exact rfl | exact hc ▸ rcheckT0 a b c | exact fun _ => hc ▸ rcheckT0 a b c | first | exact hs | exact fun _ => hn ▸ rregions0 a b c | refine And.intro ?_ ?_))) ?_
  refine At.loop (X := (r : Nat) ×' (r ≤ l.length ∧ (l.take r).all (fun x => tok x.1 x.2) = true)) 2 (fun r => l.length - r.1)
    (fun r => [(1, .t (.c (.nm 0))), (6, .t (.c (iT (r.1 : Nat))))])
    (fun r => [(0, some (false, .rd 2 l.length (lcells l)))]) ⟨0, by omega, rfl⟩ [] (fun r => wf rfl rfl) (by repeat' (first | exact trivial | exact rfl | refine And.intro ?_ ?_)) (by repeat' (first | exact trivial | exact rfl | refine And.intro ?_ ?_)) rfl fun r => ?_
  obtain ⟨r, hr, htk⟩ := r
  refine rn [] rfl (by repeat' (first | exact trivial | exact rfl | refine And.intro ?_ ?_)) ?_
  refine ⟨fun h => ?_, fun h => ?_⟩
  · have hlt : r < l.length := by have : (r : Int) < ((l.length : Nat) : Int) := of_decide_eq_true h; omega
    have e2 : (lcells l)[(r : Int).toNat * 2]? = some (.int .i64 l[r].1) := by simpa using (lcells_get l r hlt).1
    have e3 : (lcells l)[(r : Int).toNat * 2 + 1]? = some (.int .i64 l[r].2) := by simpa using (lcells_get l r hlt).2
    have h0r : (0 : Int) ≤ (r : Int) := by omega
    have h1r : (r : Int) < ((l.length : Nat) : Int) := by omega
    have w1 : IntKind.i64.wrap ((r : Int) + 1) = ((r + 1 : Nat) : Int) := by rw [wrap_sm (by omega) (by omega)]; omega
    refine rn [(26, .ld [iT l[r].1, iT l[r].2]), (27, .ret (.t (.c (.b (tok l[r].1 l[r].2)))))] rfl (by (repeat' (first | exact trivial | exact rfl | exact e2 | exact fun _ => e2 | first | exact e3 | exact rmay0 l[r] | exact h0r | exact h1r | decide | refine And.intro ?_ ?_))) ?_
    refine ⟨fun h => ?_, fun h => ?_⟩
    · refine rn [] rfl (by repeat' (first | exact trivial | exact rfl | refine And.intro ?_ ?_)) (roundRet ?_)
      exact ret0 tysOk rfl (by repeat' (first | exact trivial | exact rfl | refine And.intro ?_ ?_)) rfl
    · have hok : tok l[r].1 l[r].2 = true := by simpa using h
      refine rn [] rfl (by repeat' (first | exact trivial | exact rfl | refine And.intro ?_ ?_)) ?_
      exact roundEnd ⟨r + 1, by omega, by rw [List.take_succ_eq_append_getElem hlt, List.all_append, htk]; simp [hok]⟩ [] (by show l.length - (r + 1) < l.length - r; omega) (by (repeat' (first | exact trivial | exact rfl | exact w1 | exact fun _ => w1 | refine And.intro ?_ ?_))) (by repeat' (first | exact trivial | exact rfl | refine And.intro ?_ ?_)) rfl
  · have hlt : r = l.length := by have : ¬ (r : Int) < ((l.length : Nat) : Int) := of_decide_eq_false h; omega
    subst hlt
    rw [List.take_length, hall] at htk
    cases htk
theorem renc_h {a b c : Int} (l : List Ls) (hg : Gok a b c) (hn : gregions a b c = (l.length : Nat)) (hall : l.all (fun x => tok x.1 x.2) = true) {H : HL} {nx : Nat} {v : TV} (hv : SlR H v l.length 2 (lcells l)) :
    FnH Try.prog 20 [geoT a b c, v] H nx ⟨.tup [.c (.nm nx), .c (iT 0)], [(true, .own 9 1 (nsec l.length) (svs (secs (tz l l.length) (nsec l.length))))], [], []⟩ := by
  have hr := regions_two hg hn
  refine fnN (fn := Try.f20) 31 rfl rfl rfl (args' := [geoT a b c, .c (.nm 0)]) (H' := [(0, some (false, .rd 2 l.length (lcells l)))]) (nx' := 1) (fun e w M => ?_) rfl rfl rfl (inR_one nx) rfl fun w => ?_
  · obtain ⟨e', M', q1⟩ := slr1 hv e w M
    exact ⟨e', M', by simp [q1]; rfl⟩
  have hs : ((0 : Int) != 0 || ((l.length : Nat) : Int) != (l.length : Nat)) = false := by simp
  have hc : gcheck a b c = 0 := by simp [gcheck, hg]
  refine rn [(8, .ret (.t (.c (iT 0)))), (14, .ret (.t (.c (iT (l.length : Nat))))), (16, .dec false)] rfl (by (repeat' (first | exact trivial | exact rfl | exact hc ▸ rcheckT0 a b c | exact fun _ => hc ▸ rcheckT0 a b c | first | exact hs | exact fun _ => hn ▸ rregions0 a b c | refine And.intro ?_ ?_))) ?_
  refine At.loop (X := (r : Nat) ×' (r ≤ l.length)) 2 (fun r => l.length - r.1)
    (fun r => [(1, .t (.c (.nm 0))), (6, .t (.c (iT (r.1 : Nat))))])
    (fun r => [(0, some (false, .rd 2 l.length (lcells l)))]) ⟨0, by omega⟩ [] (fun r => wf rfl rfl) (by repeat' (first | exact trivial | exact rfl | refine And.intro ?_ ?_)) (by repeat' (first | exact trivial | exact rfl | refine And.intro ?_ ?_)) rfl fun r => ?_
  obtain ⟨r, hr⟩ := r
  refine rn [] rfl (by repeat' (first | exact trivial | exact rfl | refine And.intro ?_ ?_)) ?_
  refine ⟨fun h => ?_, fun h => ?_⟩
  · have hlt : r < l.length := by have : (r : Int) < ((l.length : Nat) : Int) := of_decide_eq_true h; omega
    have e2 : (lcells l)[(r : Int).toNat * 2]? = some (.int .i64 l[r].1) := by simpa using (lcells_get l r hlt).1
    have e3 : (lcells l)[(r : Int).toNat * 2 + 1]? = some (.int .i64 l[r].2) := by simpa using (lcells_get l r hlt).2
    have hok : tok l[r].1 l[r].2 = true := List.all_eq_true.1 hall _ (List.getElem_mem hlt)
    have h0r : (0 : Int) ≤ (r : Int) := by omega
    have h1r : (r : Int) < ((l.length : Nat) : Int) := by omega
    have w1 : IntKind.i64.wrap ((r : Int) + 1) = ((r + 1 : Nat) : Int) := by rw [wrap_sm (by omega) (by omega)]; omega
    refine rn [(26, .ld [iT l[r].1, iT l[r].2]), (27, .ret (.t (.c (.b true)))), (28, .dec false)] rfl (by (repeat' (first | exact trivial | exact rfl | exact e2 | exact fun _ => e2 | first | exact e3 | exact hok ▸ rmay0 l[r] | exact h0r | exact h1r | decide | refine And.intro ?_ ?_))) ?_
    exact roundEnd ⟨r + 1, by omega⟩ [] (by show l.length - (r + 1) < l.length - r; omega) (by (repeat' (first | exact trivial | exact rfl | exact w1 | exact fun _ => w1 | refine And.intro ?_ ?_))) (by repeat' (first | exact trivial | exact rfl | refine And.intro ?_ ?_)) rfl
  · have hlt : r = l.length := by have : ¬ (r : Int) < ((l.length : Nat) : Int) := of_decide_eq_false h; omega
    subst hlt
    refine rn [] rfl (by repeat' (first | exact trivial | exact rfl | refine And.intro ?_ ?_)) (roundExit rfl ?_)
    refine rnA [(30, .spec ⟨.t (.c (.nm 2)), [(true, .own 9 1 (nsec l.length) (svs (secs (tz l l.length) (nsec l.length))))], [], []⟩)] rfl ?_ ?_
    · repeat' (first | exact trivial | exact rfl | exact rsecs_h l hall (by omega) (SlR.rd rfl) | refine And.intro ?_ ?_)
    exact retN tysOk [(nx, 2)] rfl (by simp only [retS, SV.eqs, eqsT, TV.eqs, CV.eqs, ren_one]; repeat' (first | exact trivial | exact rfl | refine And.intro ?_ ?_)) (by simp only [newsH, subH, ren_one]; repeat' (first | exact trivial | exact rfl | refine And.intro ?_ ?_)) (by simp [injK, keysH, newsH, inL]) rfl
end Cw
