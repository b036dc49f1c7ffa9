/- lease.Wanted, walked. -/
import Derived.Test.YtmhbblieldglmaaLeaW
namespace Cw
open Go Vc
open Go.Proofs
set_option maxRecDepth 100000
theorem uq_le (l : List Int) : (uq l).length ≤ l.length := Nat.le_trans (cpt_le _) (Nat.le_of_eq (srt_length l))
theorem bnd_all {held u : List Int} (h : u.all (fun r => decide (r ∈ held)) = true) : bnd held u = u ∧ mis held u = -1 := by
  obtain ⟨h1, h2⟩ := tw_all h
  exact ⟨h1, by unfold mis; rw [h2]; rfl⟩
theorem bnd_at {held u : List Int} {k : Nat} (h1 : (u.take k).all (fun r => decide (r ∈ held)) = true) (hk : k < u.length) (h2 : u[k] ∉ held) : bnd held u = u.take k ∧ mis held u = u[k] := by
  obtain ⟨a, b⟩ := tw_at h1 hk (by simp [h2])
  refine ⟨a, ?_⟩
  unfold mis
  rw [b, List.drop_eq_getElem_cons hk]
  rfl
theorem all_succ {p : Int → Bool} {u : List Int} {k : Nat} (hk : k < u.length) (h : (u.take k).all p = true) (h2 : p u[k] = true) : (u.take (k + 1)).all p = true := by
  rw [List.take_succ_eq_append_getElem hk, List.all_append, h]
  simp [h2]
set_option maxRecDepth 100000 in
set_option maxHeartbeats 1000000 in
theorem wanted_h {v1 v2 : TV} {want held : List Int} {H : HL} {nx : Nat} (h1 : SlR H v1 want.length 1 (ivs want)) (h2 : SlR H v2 held.length 1 (ivs held)) (z1 : want.length ≤ 17592186043904) (z2 : held.length ≤ 100000000000000) :
    FnH Try.prog 7 [v1, v2] H nx ⟨.tup [.c (.nm nx), .c (iT (mis held (uq want)))], [(true, .own 3 1 (bnd held (uq want)).length (ivs (bnd held (uq want))))], [], []⟩ := by
  refine fnN (fn := Try.f7) 32 rfl rfl rfl (args' := [.c (.nm 0), .c (.nm 1)]) (H' := [(0, some (false, .rd 1 want.length (ivs want))), (1, some (false, .rd 1 held.length (ivs held)))]) (nx' := 2) (fun e w M => ?_) rfl rfl rfl (inR_one nx) rfl fun w => ?_
  · obtain ⟨e', M', q1, q2⟩ := slr2 h1 h2 e w M
    exact ⟨e', M', by simp [q1, q2]⟩
  have hu := uq_le want
  have hul := uq_le want
  have c1 := clone_h (v := .c (.nm 0)) (zs := want) (H := [(0, some (false, .rd 1 want.length (ivs want))), (1, some (false, .rd 1 held.length (ivs held)))]) (nx := 2) (SlR.rd rfl) (by omega)
  have c2 := sort_h (k := 2) (zs := want) (H := (2, some (true, .own 3 1 want.length (ivs want))) :: [(0, some (false, .rd 1 want.length (ivs want))), (1, some (false, .rd 1 held.length (ivs held)))]) (nx := 3) (by omega) rfl
  have c3 := compact_h (k := 2) (zs := srt want) (H := (2, some (true, .own 3 1 (srt want).length (ivs (srt want)))) :: (2, some (true, .own 3 1 want.length (ivs want))) :: [(0, some (false, .rd 1 want.length (ivs want))), (1, some (false, .rd 1 held.length (ivs held)))]) (nx := 3) rfl
  rw [srt_length] at c3
  refine rn [(10, .spec ⟨.t (.c (.nm 2)), [(true, .own 3 1 want.length (ivs want))], [], []⟩), (12, .spec ⟨.tup [], [], [(2, some (.own 3 1 want.length (ivs (srt want))))], []⟩), (14, .spec ⟨.t (.c (.sub 2 0 0 (uq want).length)), [], [(2, some (.own 3 1 want.length (ivs (uq want ++ List.replicate (want.length - (uq want).length) 0))))], []⟩)] rfl ?_ ?_
  · repeat' (first | exact trivial | exact rfl | refine And.intro ?_ ?_)
    all_goals first | exact c1 | exact c2 | exact c3
  clear c1 c2 c3
  refine At.nil 4 3 1 rfl ?_
  generalize uq want = u at *
  refine At.loop (X := (k : Nat) ×' (k ≤ u.length ∧ (u.take k).all (fun r => decide (r ∈ held)) = true)) 4 (fun k => u.length - k.1)
    (fun k => [(1, .t (.c (.nm 1))), (4, .t (.c (.nm 3))), (5, .t (.c (iT (-1)))), (14, .t (.c (.sub 2 0 0 u.length))), (15, .t (.c (iT (u.length : Nat)))), (16, .t (.c (iT (k.1 : Nat))))])
    (fun k => [(1, some (false, .rd 1 held.length (ivs held))), (2, some (true, .own 3 1 want.length (ivs (u ++ List.replicate (want.length - u.length) 0)))), (3, some (true, .own 3 1 k.1 (ivs (u.take k.1))))]) ⟨0, by omega, rfl⟩ [] (fun k => wf rfl rfl) (by repeat' (first | exact trivial | exact rfl | refine And.intro ?_ ?_)) (by repeat' (first | exact trivial | exact rfl | refine And.intro ?_ ?_)) rfl fun k => ?_
  obtain ⟨k, hk1, hk2⟩ := k
  have w2 : IntKind.i64.wrap ((k : Int) + 1) = ((k + 1 : Nat) : Int) := by rw [wrap_sm (by omega) (by omega)]; omega
  refine rn [] rfl (by repeat' (first | exact trivial | exact rfl | refine And.intro ?_ ?_)) ?_
  refine ⟨fun h => ?_, fun h => ?_⟩
  · have hlt : k < u.length := by have : (k : Int) < (u.length : Int) := of_decide_eq_true h; omega
    have e1 : (ivs (u ++ List.replicate (want.length - u.length) 0))[0 + (k : Int).toNat * 1]? = some (.int .i64 u[k]) := by
      have := ivs_at (l := u ++ List.replicate (want.length - u.length) 0) (k := k) (by simp; omega)
      rw [List.getElem_append_left hlt] at this
      simpa using this
    have b0 : (0 : Int) ≤ (k : Int) := by omega
    have b1 : (k : Int) < (u.length : Int) := by omega
    refine rn [(19, .ld [iT u[k]]), (22, .spec ⟨.t (.c (.b (decide (u[k] ∈ held)))), [], [], []⟩)] rfl ?_ ?_
    · (repeat' (first | exact trivial | exact rfl | exact e1 | exact fun _ => e1 | first | exact b0 | exact b1 | decide | exact contains_h (SlR.rd rfl) (by omega) | omega | refine And.intro ?_ ?_))
    refine ⟨fun h => ?_, fun h => ?_⟩
    · have hn : u[k] ∉ held := by simpa using h
      obtain ⟨p1, p2⟩ := bnd_at hk2 hlt hn
      refine rn [] rfl (by repeat' (first | exact trivial | exact rfl | refine And.intro ?_ ?_)) (roundExit rfl ?_)
      rw [p1, p2]
      refine rnA [] rfl (by repeat' (first | exact trivial | exact rfl | refine And.intro ?_ ?_)) ?_
      exact retN tysOk [(nx, 3)] rfl (by simp only [retS, SV.eqs, eqsT, TV.eqs, CV.eqs, ren_one]; repeat' (first | exact trivial | exact rfl | refine And.intro ?_ ?_)) (by simp only [newsH, subH, ren_one]; (repeat' (first | exact trivial | exact rfl | exact trivial | exact fun _ => trivial | first | omega | (simp; omega) | refine And.intro ?_ ?_))) (by simp [injK, keysH, newsH, inL]) rfl
    · have hi : u[k] ∈ held := by simpa using h
      have hm : k + 1 ≤ maxLen := by simp [maxLen]; omega
      have hm2 : (k + 1) * 8 ≤ 140737488355328 := by omega
      refine rn [] rfl (by (repeat' (first | exact trivial | exact rfl | exact trivial | exact fun _ => trivial | first | exact hm | exact hm2 | refine And.intro ?_ ?_))) ?_
      refine roundEnd ⟨k + 1, by omega, all_succ hlt hk2 (decide_eq_true hi)⟩ [(3, 5)] (by show u.length - (k + 1) < u.length - k; omega) (by (repeat' (first | exact trivial | exact rfl | exact w2 | exact fun _ => w2 | refine And.intro ?_ ?_))) ?_ rfl
      repeat' (first | exact trivial | exact rfl | refine And.intro ?_ ?_)
      rw [List.take_succ_eq_append_getElem hlt, ivs_append, app_eq]
      rfl
  · have hlt : k = u.length := by have : ¬ (k : Int) < (u.length : Int) := of_decide_eq_false h; omega
    subst hlt
    rw [List.take_length] at hk2
    obtain ⟨p1, p2⟩ := bnd_all hk2
    refine rn [] rfl (by repeat' (first | exact trivial | exact rfl | refine And.intro ?_ ?_)) (roundExit rfl ?_)
    rw [p1, p2]
    refine rnA [] rfl (by repeat' (first | exact trivial | exact rfl | refine And.intro ?_ ?_)) ?_
    exact retN tysOk [(nx, 3)] rfl (by simp only [retS, SV.eqs, eqsT, TV.eqs, CV.eqs, ren_one]; repeat' (first | exact trivial | exact rfl | refine And.intro ?_ ?_)) (by simp only [newsH, subH, ren_one]; (repeat' (first | exact trivial | exact rfl | exact trivial | exact fun _ => trivial | first | omega | (simp; omega) | simp | refine And.intro ?_ ?_))) (by simp [injK, keysH, newsH, inL]) rfl
end Cw
