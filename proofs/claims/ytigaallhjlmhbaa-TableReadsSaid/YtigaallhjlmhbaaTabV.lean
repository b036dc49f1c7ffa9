/- The package table by reckoning: may, sectors, Put, Give, Encode. -/
import Derived.Test.YtigaallhjlmhbaaTabL
import Derived.Test.YtigaallhjlmhbaaTableW2
namespace Cw
open Go Vc
open Go.Proofs
set_option maxRecDepth 100000
def lT (x : Ls) : TV := .agg [iT x.1, iT x.2]
theorem tmay0 (x : Ls) : Fn0 Try.prog 59 [lT x] (.t (.c (.b (tok x.1 x.2)))) := ⟨fun w => tmay_any x.1 x.2 w⟩
theorem tregions0 (a b c : Int) : Fn0 Try.prog 38 [geoT a b c] (.t (.c (iT (gregions a b c)))) := ⟨fun w => regions_any a b c w⟩
theorem tsectors0 (a b c : Int) : Fn0 Try.prog 53 [geoT a b c] (.t (.c (iT ((gregions a b c + 15) / 16)))) := by
  refine fn0 (fn := Try.f53) 8 rfl rfl rfl rfl rfl fun w => ?_
  refine rn [(4, .ret (.t (.c (iT (gregions a b c)))))] rfl (by (repeat' (first | exact trivial | exact rfl | exact tregions0 a b c | exact fun _ => tregions0 a b c | decide | refine And.intro ?_ ?_))) ?_
  refine ret0 tysOk rfl ⟨?_, trivial⟩ rfl
  have := regions_bd a b c
  rw [wrap_sm (x := gregions a b c + 16) (by omega) (by omega), wrap_sm (x := gregions a b c + 16 - 1) (by omega) (by omega), Int.tdiv_eq_ediv_of_nonneg (by omega), show gregions a b c + 16 - 1 = gregions a b c + 15 by omega]
  exact wrap_sm (by omega) (by omega)
theorem tput0 (a b c r : Int) (x : Ls) : Fn0 Try.prog 27 [geoT a b c, .c (iT r), lT x] (.tup [.c (iT (tps a b c r x.1 x.2)), .agg [iT (tpp a b c r x.1 x.2).1, .s (tpp a b c r x.1 x.2).2], .c (iT (tpe a b c r x.1 x.2))]) := ⟨fun w => tput_any a b c r x.1 x.2 w⟩
theorem te_in {a b c : Int} (hg : Gok a b c) (r : Nat) (hr : (r : Int) < gregions a b c) : te a b c r = 0 := within_zero hg (by omega) hr
theorem tputOk0 {a b c : Int} (hg : Gok a b c) (r : Nat) (x : Ls) (hr : (r : Int) < gregions a b c) (hx : tok x.1 x.2 = true) : Fn0 Try.prog 27 [geoT a b c, .c (iT r), lT x] (.tup [.c (iT (2 + (r / 16 : Nat))), patT ((r % 16 * 4 : Nat)) (lw x), .c (iT 0)]) := by
  have he := te_in hg r hr
  have h := tput0 a b c r x
  obtain ⟨_, _, _, h1, h2, _⟩ := te_ok he
  have h3 : tpe a b c r x.1 x.2 = 0 := by rw [tpe, if_neg (by omega), if_pos hx]
  rw [h3, tps, if_pos h3, tpp, if_pos h3, h1, h2] at h
  exact h
theorem tputNo0 {a b c : Int} (hg : Gok a b c) (r : Nat) (x : Ls) (hr : (r : Int) < gregions a b c) (hx : tok x.1 x.2 = false) : Fn0 Try.prog 27 [geoT a b c, .c (iT r), lT x] (.tup [.c (iT 0), .agg [iT 0, .s ⟨#[]⟩], .c (iT 80)]) := by
  have he := te_in hg r hr
  have h := tput0 a b c r x
  have h3 : tpe a b c r x.1 x.2 = 80 := by rw [tpe, if_neg (by omega), if_neg (by simp [hx])]
  rw [h3, tps, if_neg (by omega), tpp, if_neg (by omega)] at h
  exact h
theorem patch_lease (z : List UInt8) (hz : z.length = 64) (r : Nat) (x : Ls) (hx : tok x.1 x.2 = true) {H : HL} {nx k : Nat} {b : Bool} {T : TypeId} (hk : lookH H k = some (b, .cells [iT ((r % 16 * 4 : Nat)), .s (S (lw x))] T)) :
    FnH Try.prog 40 [.c (.s (S z)), .c (.sl k 0 1 1)] H nx ⟨.tup [.c (.s (S (one z ((r % 16 * 4 : Nat), S (lw x))))), .c (iT 0)], [], [], []⟩ := by
  have hl := lw_length x
  have hok : okp ((r % 16 * 4 : Nat), S (lw x)) = true := by
    simp only [okp, finside, S_size, hl]
    simp
    omega
  obtain ⟨e1, e2⟩ := pt_ok (S z) [((r % 16 * 4 : Nat), S (lw x))] (by rw [S_size, hz]) (by simp) (by rw [List.all_cons, hok]; rfl)
  have h := patched_lit (S z) [(((r % 16 * 4 : Nat) : Int), S (lw x))] (by intro p hp; rw [List.mem_singleton.1 hp]; rw [S_size, hl]; decide) (by rw [S_size, hz]; decide) (by simp [maxLen]) (nx := nx) (m := 1) hk rfl (fun e => rfl)
  rw [e1, e2] at h
  rw [S_data] at h
  exact h
theorem repl_svs (m : Nat) : (repl m [CV.s ⟨#[]⟩]).map (CV.den e0) = svs (List.replicate 0 B0 ++ List.replicate (m - 0) ⟨#[]⟩) := by
  rw [repl_map]
  simp [svs, CV.den]
theorem setAt_svs {l : List ByteArray} {k : Nat} (h : k < l.length) (b : ByteArray) : setAt (svs l) k [.string b] = svs (l.set k b) := by
  rw [List.set_eq_take_append_cons_drop, if_pos h]
  simp [setAt, svs, List.map_take, List.map_drop]
theorem fill_svs {m k : Nat} (h : k < m) : setAt (svs (List.replicate k B0 ++ List.replicate (m - k) ⟨#[]⟩)) ((k : Int).toNat * 1) [Value.string B0] = svs (List.replicate (k + 1) B0 ++ List.replicate (m - (k + 1)) ⟨#[]⟩) := by
  rw [Int.toNat_natCast, Nat.mul_one, setAt_svs (by simp; omega)]
  congr 1
  obtain ⟨d, hd⟩ : ∃ d, m - k = d + 1 := ⟨m - k - 1, by omega⟩
  rw [hd, show m - (k + 1) = d by omega, List.set_append_right _ _ (by simp), List.length_replicate, Nat.sub_self, List.replicate_succ, List.set_cons_zero, List.replicate_succ', List.append_assoc]
  rfl
theorem secs_blank (l : List Ls) : List.replicate (nsec l.length) B0 ++ List.replicate (nsec l.length - nsec l.length) ⟨#[]⟩ = secs (tz l 0) (nsec l.length) := by
  rw [Nat.sub_self, List.replicate_zero, List.append_nil]
  apply List.ext_getElem (by simp [secs_length])
  intro j h1 h2
  rw [secs_get, List.getElem_replicate, tz_zero]
  rw [secs_length] at h2
  have : sec (List.replicate (64 * nsec l.length) 0) j = List.replicate 64 0 := by
    simp only [sec, List.drop_replicate, List.take_replicate]
    congr 1
    omega
  rw [this]
  rfl
theorem round_svs {l : List Ls} {r : Nat} (h : r < l.length) {i : Int} (hi : i = (r / 16 : Nat)) : setAt (svs (secs (tz l r) (nsec l.length))) (i.toNat * 1) [Value.string (S (one (sec (tz l r) (r / 16)) ((r % 16 * 4 : Nat), S (lw l[r]))))] = svs (secs (tz l (r + 1)) (nsec l.length)) := by
  have hq : r / 16 < nsec l.length := by unfold nsec; omega
  subst hi
  rw [Int.toNat_natCast, Nat.mul_one, setAt_svs (by rw [secs_length]; exact hq), secs_succ l r h]
set_option maxRecDepth 100000 in
set_option maxHeartbeats 2000000 in
theorem tenc_h {a b c : Int} (l : List Ls) (hg : Gok a b c) (hn : gregions a b c = (l.length : Nat)) (hall : l.all (fun x => tok x.1 x.2) = true) {H : HL} {nx : Nat} {v : TV} (hv : SlR H v l.length 2 (lcells l)) :
    FnH Try.prog 19 [geoT a b c, v] H nx ⟨.tup [.c (.nm nx), .c (iT 0)], [(true, .own 9 1 (nsec l.length) (svs (secs (tz l l.length) (nsec l.length))))], [], []⟩ := by
  have hrb := regions_bd a b c
  have hr2 : 2 ≤ l.length := by
    have h := hn
    rw [gregions, if_pos hg] at h
    have := ab_bd hg
    have := hg.1
    omega
  have hgr : gregions a b c = (l.length : Nat) := hn
  have hnm : nsec l.length ≤ 9 := by unfold nsec; omega
  have hshape : (((l.length : Nat) : Int) == 0 || ((l.length : Nat) : Int) != (l.length : Nat)) = false := by
    have : ((l.length : Nat) : Int) ≠ 0 := by omega
    rw [Bool.or_eq_false_iff]
    exact ⟨by simpa using this, by simp⟩
  have hsec : Fn0 Try.prog 53 [geoT a b c] (.t (.c (iT (nsec l.length : Nat)))) := by
    have := tsectors0 a b c
    rw [hn] at this
    rwa [show (((l.length : Nat) : Int) + 15) / 16 = (nsec l.length : Nat) by unfold nsec; omega] at this
  refine fnN (fn := Try.f19) 72 rfl rfl rfl (args' := [geoT a b c, .c (.nm 0)]) (H' := [(0, some (false, .rd 2 l.length (lcells l)))]) (nx' := 1) (fun e w M => ?_) rfl rfl rfl (inR_one nx) rfl fun w => ?_
  · obtain ⟨e', M', q1⟩ := slr1 hv e w M
    exact ⟨e', M', by simp [q1]; rfl⟩
  refine rn [(15, .ret (.t (.c (iT (l.length : Nat))))), (23, .dec false), (25, .ret (.t (.c (iT (nsec l.length : Nat)))))] rfl ?_ ?_
  · (repeat' (first | exact trivial | exact rfl | exact hgr ▸ tregions0 a b c | exact fun _ => hgr ▸ tregions0 a b c | first | exact hsec | exact hshape | (simp; omega) | (simp [maxLen]; omega) | omega | refine And.intro ?_ ?_))
  refine At.loop (X := (k : Nat) ×' (k ≤ nsec l.length)) 3 (fun k => nsec l.length - k.1)
    (fun k => [(1, .t (.c (.nm 0))), (2, .t (.c (.p 1 0))), (7, .t (.c (.nm 2))), (28, .t (.c (iT (nsec l.length : Nat)))), (29, .t (.c (iT (k.1 : Nat))))])
    (fun k => [(0, some (false, .rd 2 l.length (lcells l))), (1, some (true, .cells [iT a, iT b, iT c] 34)), (2, some (true, .own 9 1 (nsec l.length) (svs (List.replicate k.1 B0 ++ List.replicate (nsec l.length - k.1) ⟨#[]⟩))))]) ⟨0, by omega⟩ [] (fun k => wf rfl rfl) (by repeat' (first | exact trivial | exact rfl | refine And.intro ?_ ?_)) ?_ rfl fun k => ?_
  · repeat' (first | exact trivial | exact rfl | refine And.intro ?_ ?_)
    exact repl_svs _
  · obtain ⟨k, hk⟩ := k
    refine rn [] rfl (by repeat' (first | exact trivial | exact rfl | refine And.intro ?_ ?_)) ?_
    refine ⟨fun h => ?_, fun h => ?_⟩
    · have hlt : k < nsec l.length := by have : (k : Int) < ((nsec l.length : Nat) : Int) := of_decide_eq_true h; omega
      have w2 : IntKind.i64.wrap ((k : Int) + 1) = ((k + 1 : Nat) : Int) := by rw [wrap_sm (by omega) (by omega)]; omega
      refine rn [(34, .ret (.t (.c (.s B0))))] rfl (by (repeat' (first | exact trivial | exact rfl | exact blank0 | exact fun _ => blank0 | first | omega | decide | (simp only [svs_length, List.length_append, List.length_replicate, Int.toNat_natCast]; omega) | refine And.intro ?_ ?_))) ?_
      refine roundEnd ⟨k + 1, by omega⟩ [] (by show nsec l.length - (k + 1) < nsec l.length - k; omega) (by (repeat' (first | exact trivial | exact rfl | exact w2 | exact fun _ => w2 | refine And.intro ?_ ?_))) ?_ rfl
      repeat' (first | exact trivial | exact rfl | refine And.intro ?_ ?_)
      exact fill_svs hlt
    have hlt : k = nsec l.length := by have : ¬ (k : Int) < ((nsec l.length : Nat) : Int) := of_decide_eq_false h; omega
    subst hlt
    refine rn [] rfl (by repeat' (first | exact trivial | exact rfl | refine And.intro ?_ ?_)) (roundExit rfl ?_)
    refine rnA [] rfl (by repeat' (first | exact trivial | exact rfl | refine And.intro ?_ ?_)) ?_
    refine At.loop (X := (r : Nat) ×' (r ≤ l.length)) 3 (fun r => l.length - r.1)
      (fun r => [(1, .t (.c (.nm 0))), (2, .t (.c (.p 1 0))), (7, .t (.c (.nm 2))), (37, .t (.c (.nm 0))), (38, .t (.c (iT (l.length : Nat)))), (39, .t (.c (iT (r.1 : Nat))))])
      (fun r => [(0, some (false, .rd 2 l.length (lcells l))), (1, some (true, .cells [iT a, iT b, iT c] 34)), (2, some (true, .own 9 1 (nsec l.length) (svs (secs (tz l r.1) (nsec l.length)))))]) ⟨0, by omega⟩ [] (fun r => wf rfl rfl) (by repeat' (first | exact trivial | exact rfl | refine And.intro ?_ ?_)) ?_ rfl fun r => ?_
    · repeat' (first | exact trivial | exact rfl | refine And.intro ?_ ?_)
      rw [secs_blank]
    obtain ⟨r, hr⟩ := r
    refine rn [] rfl (by repeat' (first | exact trivial | exact rfl | refine And.intro ?_ ?_)) ?_
    refine ⟨fun h => ?_, fun h => ?_⟩
    · have hlt : r < l.length := by have : (r : Int) < ((l.length : Nat) : Int) := of_decide_eq_true h; omega
      have hok : tok l[r].1 l[r].2 = true := List.all_eq_true.1 hall _ (List.getElem_mem hlt)
      have e1 := lcells_get l r hlt
      have e2 : (lcells l)[(r : Int).toNat * 2]? = some (.int .i64 l[r].1) := by simpa using e1.1
      have e3 : (lcells l)[(r : Int).toNat * 2 + 1]? = some (.int .i64 l[r].2) := by simpa using e1.2
      have hq : r / 16 < nsec l.length := by unfold nsec; omega
      have w2 : IntKind.i64.wrap ((r : Int) + 1) = ((r + 1 : Nat) : Int) := by rw [wrap_sm (by omega) (by omega)]; omega
      have w3 : IntKind.i64.wrap (2 + (r / 16 : Nat) - 2) = ((r / 16 : Nat) : Int) := by rw [wrap_sm (by omega) (by omega)]; omega
      have hw0 : 0 ≤ IntKind.i64.wrap (2 + (r / 16 : Nat) - 2) := by omega
      have hw1 : IntKind.i64.wrap (2 + (r / 16 : Nat) - 2) < ((nsec l.length : Nat) : Int) := by omega
      have hput := tputOk0 hg r l[r] (by omega) hok
      have hs64 := sec_length (tz_length l r (by omega)) hq
      have e4 : (svs (secs (tz l r) (nsec l.length)))[(IntKind.i64.wrap (2 + (r / 16 : Nat) - 2)).toNat * 1]? = some (.string (S (sec (tz l r) (r / 16)))) := by
        rw [w3, Int.toNat_natCast, Nat.mul_one, svs_at (by rw [secs_length]; exact hq), secs_get]
      refine rn [(43, .ld [iT l[r].1, iT l[r].2]), (48, .ret (.tup [.c (iT (2 + (r / 16 : Nat))), patT ((r % 16 * 4 : Nat)) (lw l[r]), .c (iT 0)])), (53, .dec false), (63, .ld [.s (S (sec (tz l r) (r / 16)))]), (66, .spec ⟨.tup [.c (.s (S (one (sec (tz l r) (r / 16)) ((r % 16 * 4 : Nat), S (lw l[r]))))), .c (iT 0)], [], [], []⟩)] rfl ?_ ?_
      · repeat' (first | exact trivial | exact rfl | exact e2 | exact e3 | exact e4 | exact hput | exact patch_lease (sec (tz l r) (r / 16)) hs64 r l[r] hok rfl | exact hw0 | exact hw1 | refine And.intro ?_ ?_)
        all_goals first | omega | decide | (simp only [svs_length, secs_length]; omega)
      · refine roundEnd ⟨r + 1, by omega⟩ [] (by show l.length - (r + 1) < l.length - r; omega) (by (repeat' (first | exact trivial | exact rfl | exact w2 | exact fun _ => w2 | refine And.intro ?_ ?_))) (by (repeat' (first | exact trivial | exact rfl | exact round_svs hlt w3 | exact fun _ => round_svs hlt w3 | refine And.intro ?_ ?_))) rfl
    · have hlt : r = l.length := by have : ¬ (r : Int) < ((l.length : Nat) : Int) := of_decide_eq_false h; omega
      subst hlt
      refine rn [] rfl (by repeat' (first | exact trivial | exact rfl | refine And.intro ?_ ?_)) (roundExit rfl ?_)
      refine rnA [] rfl (by repeat' (first | exact trivial | exact rfl | refine And.intro ?_ ?_)) ?_
      exact retN tysOk [(nx, 2)] rfl (by simp only [retS, SV.eqs, eqsT, TV.eqs, CV.eqs, ren_one]; repeat' (first | exact trivial | exact rfl | refine And.intro ?_ ?_)) (by simp only [newsH, subH, ren_one]; repeat' (first | exact trivial | exact rfl | refine And.intro ?_ ?_)) (by simp [injK, keysH, newsH, inL]) rfl
end Cw
