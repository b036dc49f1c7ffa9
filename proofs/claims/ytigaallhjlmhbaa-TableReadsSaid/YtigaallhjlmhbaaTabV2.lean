/- The package table by reckoning: what Encode refuses; Give, Held; Decode. -/
import Derived.Test.YtigaallhjlmhbaaTabV
namespace Cw
open Go Vc
open Go.Proofs
set_option maxRecDepth 100000
theorem tenc_no4 {a b c : Int} (l : List Ls) (hn : gregions a b c = 0 ∨ gregions a b c ≠ (l.length : Nat)) {H : HL} {nx : Nat} {v : TV} (hv : SlR H v l.length 2 (lcells l)) :
    FnH Try.prog 19 [geoT a b c, v] H nx ⟨.tup [.c .nsl, .c (iT 4)], [], [], []⟩ := by
  refine fnR (fn := Try.f19) 72 rfl rfl rfl (args' := [geoT a b c, .c (.nm 0)]) (H' := [(0, some (false, .rd 2 l.length (lcells l)))]) (nx' := 1) (fun e w M => ?_) rfl rfl rfl rfl fun w => ?_
  · obtain ⟨e', M', q1⟩ := slr1 hv e w M
    exact ⟨e', M', by simp [q1]; rfl⟩
  have hs : (gregions a b c == 0 || ((l.length : Nat) : Int) != gregions a b c) = true := by
    rcases hn with h | h
    · simp [h]
    · have : ((l.length : Nat) : Int) ≠ gregions a b c := fun e => h e.symm
      simp [this]
  refine rn [(15, .ret (.t (.c (iT (gregions a b c))))), (23, .dec true)] rfl (by (repeat' (first | exact trivial | exact rfl | exact tregions0 a b c | exact fun _ => tregions0 a b c | exact hs | refine And.intro ?_ ?_))) ?_
  exact ret0 tysOk rfl (by repeat' (first | exact trivial | exact rfl | refine And.intro ?_ ?_)) rfl
set_option maxRecDepth 100000 in
set_option maxHeartbeats 2000000 in
theorem tenc_no80 {a b c : Int} (l : List Ls) (hg : Gok a b c) (hn : gregions a b c = (l.length : Nat)) (hall : l.all (fun x => tok x.1 x.2) = false) {H : HL} {nx : Nat} {v : TV} (hv : SlR H v l.length 2 (lcells l)) :
    FnH Try.prog 19 [geoT a b c, v] H nx ⟨.tup [.c .nsl, .c (iT 80)], [], [], []⟩ := by
  have hrb := regions_bd a b c
  have hr2 : 2 ≤ l.length := by
    have h := hn
    rw [gregions, if_pos hg] at h
    have := ab_bd hg
    have := hg.1
    omega
  have hgr : gregions a b c = (l.length : Nat) := hn
  have hnm : nsec l.length ≤ 9 := by unfold nsec; omega
  have hshape : (((l.length : Nat) : Int) == 0 || ((l.length : Nat) : Int) != (l.length : Nat)) = false := by
    have : ((l.length : Nat) : Int) ≠ 0 := by omega
    rw [Bool.or_eq_false_iff]
    exact ⟨by simpa using this, by simp⟩
  have hsec : Fn0 Try.prog 53 [geoT a b c] (.t (.c (iT (nsec l.length : Nat)))) := by
    have := tsectors0 a b c
    rw [hn] at this
    rwa [show (((l.length : Nat) : Int) + 15) / 16 = (nsec l.length : Nat) by unfold nsec; omega] at this
  refine fnR (fn := Try.f19) 72 rfl rfl rfl (args' := [geoT a b c, .c (.nm 0)]) (H' := [(0, some (false, .rd 2 l.length (lcells l)))]) (nx' := 1) (fun e w M => ?_) rfl rfl rfl rfl fun w => ?_
  · obtain ⟨e', M', q1⟩ := slr1 hv e w M
    exact ⟨e', M', by simp [q1]; rfl⟩
  refine rn [(15, .ret (.t (.c (iT (l.length : Nat))))), (23, .dec false), (25, .ret (.t (.c (iT (nsec l.length : Nat)))))] rfl ?_ ?_
  · (repeat' (first | exact trivial | exact rfl | exact hgr ▸ tregions0 a b c | exact fun _ => hgr ▸ tregions0 a b c | first | exact hsec | exact hshape | (simp; omega) | (simp [maxLen]; omega) | omega | refine And.intro ?_ ?_))
  refine At.loop (X := (k : Nat) ×' (k ≤ nsec l.length)) 3 (fun k => nsec l.length - k.1)
    (fun k => [(1, .t (.c (.nm 0))), (2, .t (.c (.p 1 0))), (7, .t (.c (.nm 2))), (28, .t (.c (iT (nsec l.length : Nat)))), (29, .t (.c (iT (k.1 : Nat))))])
    (fun k => [(0, some (false, .rd 2 l.length (lcells l))), (1, some (true, .cells [iT a, iT b, iT c] 34)), (2, some (true, .own 9 1 (nsec l.length) (svs (List.replicate k.1 B0 ++ List.replicate (nsec l.length - k.1) ⟨#[]⟩))))]) ⟨0, by omega⟩ [] (fun k => wf rfl rfl) (by repeat' (first | exact trivial | exact rfl | refine And.intro ?_ ?_)) ?_ rfl fun k => ?_
  · repeat' (first | exact trivial | exact rfl | refine And.intro ?_ ?_)
    exact repl_svs _
  · obtain ⟨k, hk⟩ := k
    refine rn [] rfl (by repeat' (first | exact trivial | exact rfl | refine And.intro ?_ ?_)) ?_
    refine ⟨fun h => ?_, fun h => ?_⟩
    · have hlt : k < nsec l.length := by have : (k : Int) < ((nsec l.length : Nat) : Int) := of_decide_eq_true h; omega
      have w2 : IntKind.i64.wrap ((k : Int) + 1) = ((k + 1 : Nat) : Int) := by rw [wrap_sm (by omega) (by omega)]; omega
      refine rn [(34, .ret (.t (.c (.s B0))))] rfl (by (repeat' (first | exact trivial | exact rfl | exact blank0 | exact fun _ => blank0 | first | omega | decide | (simp only [svs_length, List.length_append, List.length_replicate, Int.toNat_natCast]; omega) | refine And.intro ?_ ?_))) ?_
      refine roundEnd ⟨k + 1, by omega⟩ [] (by show nsec l.length - (k + 1) < nsec l.length - k; omega) (by (repeat' (first | exact trivial | exact rfl | exact w2 | exact fun _ => w2 | refine And.intro ?_ ?_))) ?_ rfl
      repeat' (first | exact trivial | exact rfl | refine And.intro ?_ ?_)
      exact fill_svs hlt
    have hlt : k = nsec l.length := by have : ¬ (k : Int) < ((nsec l.length : Nat) : Int) := of_decide_eq_false h; omega
    subst hlt
    refine rn [] rfl (by repeat' (first | exact trivial | exact rfl | refine And.intro ?_ ?_)) (roundExit rfl ?_)
    refine rnA [] rfl (by repeat' (first | exact trivial | exact rfl | refine And.intro ?_ ?_)) ?_
    refine At.loop (X := (r : Nat) ×' (r ≤ l.length ∧ (l.take r).all (fun x => tok x.1 x.2) = true)) 3 (fun r => l.length - r.1)
      (fun r => [(1, .t (.c (.nm 0))), (2, .t (.c (.p 1 0))), (7, .t (.c (.nm 2))), (37, .t (.c (.nm 0))), (38, .t (.c (iT (l.length : Nat)))), (39, .t (.c (iT (r.1 : Nat))))])
      (fun r => [(0, some (false, .rd 2 l.length (lcells l))), (1, some (true, .cells [iT a, iT b, iT c] 34)), (2, some (true, .own 9 1 (nsec l.length) (svs (secs (tz l r.1) (nsec l.length)))))]) ⟨0, by omega, rfl⟩ [] (fun r => wf rfl rfl) (by repeat' (first | exact trivial | exact rfl | refine And.intro ?_ ?_)) ?_ rfl fun r => ?_
    · repeat' (first | exact trivial | exact rfl | refine And.intro ?_ ?_)
      rw [secs_blank]
    obtain ⟨r, hr, htk⟩ := r
    refine rn [] rfl (by repeat' (first | exact trivial | exact rfl | refine And.intro ?_ ?_)) ?_
    refine ⟨fun h => ?_, fun h => ?_⟩
    · have hlt : r < l.length := by have : (r : Int) < ((l.length : Nat) : Int) := of_decide_eq_true h; omega
      cases hok : tok l[r].1 l[r].2
      · have e1 := lcells_get l r hlt
        have e2 : (lcells l)[(r : Int).toNat * 2]? = some (.int .i64 l[r].1) := by simpa using e1.1
        have e3 : (lcells l)[(r : Int).toNat * 2 + 1]? = some (.int .i64 l[r].2) := by simpa using e1.2
        have h0r : (0 : Int) ≤ (r : Int) := by omega
        have h1r : (r : Int) < ((l.length : Nat) : Int) := by omega
        refine rn [(43, .ld [iT l[r].1, iT l[r].2]), (48, .ret (.tup [.c (iT 0), .agg [iT 0, .s ⟨#[]⟩], .c (iT 80)])), (53, .dec true)] rfl (by (repeat' (first | exact trivial | exact rfl | exact e2 | exact fun _ => e2 | first | exact e3 | exact tputNo0 hg r l[r] (by omega) hok | exact h0r | exact h1r | decide | refine And.intro ?_ ?_))) (roundRet ?_)
        exact ret0 tysOk rfl (by repeat' (first | exact trivial | exact rfl | refine And.intro ?_ ?_)) rfl
      have e1 := lcells_get l r hlt
      have e2 : (lcells l)[(r : Int).toNat * 2]? = some (.int .i64 l[r].1) := by simpa using e1.1
      have e3 : (lcells l)[(r : Int).toNat * 2 + 1]? = some (.int .i64 l[r].2) := by simpa using e1.2
      have hq : r / 16 < nsec l.length := by unfold nsec; omega
      have w2 : IntKind.i64.wrap ((r : Int) + 1) = ((r + 1 : Nat) : Int) := by rw [wrap_sm (by omega) (by omega)]; omega
      have w3 : IntKind.i64.wrap (2 + (r / 16 : Nat) - 2) = ((r / 16 : Nat) : Int) := by rw [wrap_sm (by omega) (by omega)]; omega
      have hw0 : 0 ≤ IntKind.i64.wrap (2 + (r / 16 : Nat) - 2) := by omega
      have hw1 : IntKind.i64.wrap (2 + (r / 16 : Nat) - 2) < ((nsec l.length : Nat) : Int) := by omega
      have hput := tputOk0 hg r l[r] (by omega) hok
      have hs64 := sec_length (tz_length l r (by omega)) hq
      have e4 : (svs (secs (tz l r) (nsec l.length)))[(IntKind.i64.wrap (2 + (r / 16 : Nat) - 2)).toNat * 1]? = some (.string (S (sec (tz l r) (r / 16)))) := by
        rw [w3, Int.toNat_natCast, Nat.mul_one, svs_at (by rw [secs_length]; exact hq), secs_get]
      refine rn [(43, .ld [iT l[r].1, iT l[r].2]), (48, .ret (.tup [.c (iT (2 + (r / 16 : Nat))), patT ((r % 16 * 4 : Nat)) (lw l[r]), .c (iT 0)])), (53, .dec false), (63, .ld [.s (S (sec (tz l r) (r / 16)))]), (66, .spec ⟨.tup [.c (.s (S (one (sec (tz l r) (r / 16)) ((r % 16 * 4 : Nat), S (lw l[r]))))), .c (iT 0)], [], [], []⟩)] rfl ?_ ?_
      · repeat' (first | exact trivial | exact rfl | exact e2 | exact e3 | exact e4 | exact hput | exact patch_lease (sec (tz l r) (r / 16)) hs64 r l[r] hok rfl | exact hw0 | exact hw1 | refine And.intro ?_ ?_)
        all_goals first | omega | decide | (simp only [svs_length, secs_length]; omega)
      · refine roundEnd ⟨r + 1, by omega, by rw [List.take_succ_eq_append_getElem hlt, List.all_append, htk]; simp [hok]⟩ [] (by show l.length - (r + 1) < l.length - r; omega) (by (repeat' (first | exact trivial | exact rfl | exact w2 | exact fun _ => w2 | refine And.intro ?_ ?_))) (by (repeat' (first | exact trivial | exact rfl | exact round_svs hlt w3 | exact fun _ => round_svs hlt w3 | refine And.intro ?_ ?_))) rfl
    · have hlt : r = l.length := by have : ¬ (r : Int) < ((l.length : Nat) : Int) := of_decide_eq_false h; omega
      subst hlt
      rw [List.take_length, hall] at htk
      cases htk
def gve (x : Ls) (o : Int) : Int := if tok x.1 x.2 = true then (if o < 0 ∨ 2 < o ∨ x.2 = 16777215 then 1 else 0) else 80
def gvx (x : Ls) (o : Int) : Ls := if gve x o = 0 then (o, x.2 + 1) else (0, 0)
theorem tgive0 (x : Ls) (o : Int) : Fn0 Try.prog 29 [lT x, .c (iT o)] (.tup [lT (gvx x o), .c (iT (gve x o))]) := by
  refine fn0 (fn := Try.f29) 29 rfl rfl rfl rfl rfl fun w => ?_
  cases ht : tok x.1 x.2
  · have e : gve x o = 80 := by simp [gve, ht]
    refine rn [(8, .ret (.t (.c (.b false)))), (6, .dec true)] rfl (by (repeat' (first | exact trivial | exact rfl | exact ht ▸ tmay0 x | exact fun _ => ht ▸ tmay0 x | refine And.intro ?_ ?_))) ?_
    rw [gvx, e]
    exact ret0 tysOk rfl (by repeat' (first | exact trivial | exact rfl | refine And.intro ?_ ?_)) rfl
  · refine rn [(8, .ret (.t (.c (.b true)))), (6, .dec false)] rfl (by (repeat' (first | exact trivial | exact rfl | exact ht ▸ tmay0 x | exact fun _ => ht ▸ tmay0 x | refine And.intro ?_ ?_))) ?_
    have hw : IntKind.i64.wrap (x.2 + 1) = x.2 + 1 := by
      have := tok_iff ht
      exact wrap_sm (by omega) (by omega)
    refine ⟨fun h => ?_, fun h => ?_⟩
    · have e : gve x o = 1 := by
        simp at h
        simp only [gve, ht, if_true]
        rw [if_pos (by omega)]
      refine rn [] rfl (by repeat' (first | exact trivial | exact rfl | refine And.intro ?_ ?_)) ?_
      rw [gvx, e]
      exact ret0 tysOk rfl (by repeat' (first | exact trivial | exact rfl | refine And.intro ?_ ?_)) rfl
    · have e : gve x o = 0 := by
        simp at h
        simp only [gve, ht, if_true]
        rw [if_neg (by omega)]
      refine rn [] rfl (by repeat' (first | exact trivial | exact rfl | refine And.intro ?_ ?_)) ?_
      rw [gvx, e, if_pos rfl]
      exact ret0 tysOk rfl (by (repeat' (first | exact trivial | exact rfl | exact hw | exact fun _ => hw | refine And.intro ?_ ?_))) rfl
/-- Whose leases: the places of an owner's. -/
def held (l : List Ls) (o : Int) (k : Nat) : List Int := ((List.range k).filter fun i => (l.getD i (0, 0)).1 == o).map fun i : Nat => (i : Int)
theorem held_succ (l : List Ls) (o : Int) (k : Nat) (hk : k < l.length) : held l o (k + 1) = if (l[k].1 == o) = true then held l o k ++ [(k : Int)] else held l o k := by
  have e : l.getD k (0, 0) = l[k] := by simp [List.getD_eq_getElem?_getD, hk]
  simp only [held, List.range_succ, List.filter_append, List.map_append, List.filter_cons, List.filter_nil, e]
  split <;> simp
theorem held_le (l : List Ls) (o : Int) (k : Nat) : (held l o k).length ≤ k := by
  simp only [held, List.length_map]
  exact Nat.le_trans (List.length_filter_le _ _) (by simp)
theorem theld_h (l : List Ls) (o : Int) (hz : l.length ≤ 10000000000000) {H : HL} {nx : Nat} {v : TV} (hv : SlR H v l.length 2 (lcells l)) :
    FnH Try.prog 25 [v, .c (iT o)] H nx ⟨.t (.c (.nm nx)), [(true, .own 3 1 (held l o l.length).length (ivs (held l o l.length)))], [], []⟩ := by
  refine fnN (fn := Try.f25) 27 rfl rfl rfl (args' := [.c (.nm 0), .c (iT o)]) (H' := [(0, some (false, .rd 2 l.length (lcells l)))]) (nx' := 1) (fun e w M => ?_) rfl rfl rfl (inR_one nx) rfl fun w => ?_
  · obtain ⟨e', M', q1⟩ := slr1 hv e w M
    exact ⟨e', M', by simp [q1]; rfl⟩
  refine rn [] rfl (by repeat' (first | exact trivial | exact rfl | refine And.intro ?_ ?_)) ?_
  refine At.nil 5 3 1 rfl ?_
  refine At.loop (X := (k : Nat) ×' (k ≤ l.length)) 2 (fun k => l.length - k.1)
    (fun k => [(1, .t (.c (iT o))), (5, .t (.c (.nm 1))), (8, .t (.c (.nm 0))), (9, .t (.c (iT (l.length : Nat)))), (10, .t (.c (iT (k.1 : Nat))))])
    (fun k => [(0, some (false, .rd 2 l.length (lcells l))), (1, some (true, .own 3 1 (held l o k.1).length (ivs (held l o k.1))))]) ⟨0, by omega⟩ [] (fun k => wf rfl rfl) (by repeat' (first | exact trivial | exact rfl | refine And.intro ?_ ?_)) (by repeat' (first | exact trivial | exact rfl | refine And.intro ?_ ?_)) rfl fun k => ?_
  obtain ⟨k, hk⟩ := k
  refine rn [] rfl (by repeat' (first | exact trivial | exact rfl | refine And.intro ?_ ?_)) ?_
  refine ⟨fun h => ?_, fun h => ?_⟩
  · have hlt : k < l.length := by have : (k : Int) < ((l.length : Nat) : Int) := of_decide_eq_true h; omega
    have e1 := lcells_get l k hlt
    have e2 : (lcells l)[(k : Int).toNat * 2]? = some (.int .i64 l[k].1) := by simpa using e1.1
    have e3 : (lcells l)[(k : Int).toNat * 2 + 1]? = some (.int .i64 l[k].2) := by simpa using e1.2
    have w2 : IntKind.i64.wrap ((k : Int) + 1) = ((k + 1 : Nat) : Int) := by rw [wrap_sm (by omega) (by omega)]; omega
    have hle := held_le l o k
    have h0k : (0 : Int) ≤ (k : Int) := by omega
    have h1k : (k : Int) < ((l.length : Nat) : Int) := by omega
    refine rn [(14, .ld [iT l[k].1, iT l[k].2])] rfl (by (repeat' (first | exact trivial | exact rfl | exact e2 | exact fun _ => e2 | first | exact e3 | exact h0k | exact h1k | decide | refine And.intro ?_ ?_))) ?_
    refine ⟨fun h => ?_, fun h => ?_⟩
    · have ho : (l[k].1 == o) = true := by simpa [polB] using h
      refine rn [] rfl (by (repeat' (first | exact trivial | exact rfl | exact trivial | exact fun _ => trivial | first | (simp only [maxLen]; omega) | omega | decide | refine And.intro ?_ ?_))) ?_
      refine roundEnd ⟨k + 1, by omega⟩ [(1, 4)] (by show l.length - (k + 1) < l.length - k; omega) (by (repeat' (first | exact trivial | exact rfl | exact w2 | exact fun _ => w2 | refine And.intro ?_ ?_))) ?_ rfl
      rw [held_succ l o k hlt, if_pos ho]
      repeat' (first | exact trivial | exact rfl | refine And.intro ?_ ?_)
      all_goals simp [ivs, app_eq, CV.den]
    · have ho : ¬ (l[k].1 == o) = true := by simpa [polB] using h
      refine rn [] rfl (by repeat' (first | exact trivial | exact rfl | refine And.intro ?_ ?_)) ?_
      refine roundEnd ⟨k + 1, by omega⟩ [] (by show l.length - (k + 1) < l.length - k; omega) (by (repeat' (first | exact trivial | exact rfl | exact w2 | exact fun _ => w2 | refine And.intro ?_ ?_))) ?_ rfl
      rw [held_succ l o k hlt, if_neg ho]
      repeat' (first | exact trivial | exact rfl | refine And.intro ?_ ?_)
  · have hlt : k = l.length := by have : ¬ (k : Int) < ((l.length : Nat) : Int) := of_decide_eq_false h; omega
    subst hlt
    refine rn [] rfl (by repeat' (first | exact trivial | exact rfl | refine And.intro ?_ ?_)) (roundExit rfl ?_)
    refine rnA [] rfl (by repeat' (first | exact trivial | exact rfl | refine And.intro ?_ ?_)) ?_
    exact retN tysOk [(nx, 1)] rfl (by simp only [retS, SV.eqs, eqsT, TV.eqs, CV.eqs, ren_one]; repeat' (first | exact trivial | exact rfl | refine And.intro ?_ ?_)) (by simp only [newsH, subH, ren_one]; repeat' (first | exact trivial | exact rfl | refine And.intro ?_ ?_)) (by simp [injK, keysH, newsH, inL]) rfl
end Cw
