/- The document's answer for lease.Wanted, walked. -/
import Derived.Test.YtmhbblieldglmaaLeaL
namespace Cw
open Go Vc
open Go.Proofs
set_option maxRecDepth 100000
/-- A row of one's own is the part of itself that is all of it. -/
theorem own_nm_sub {e : Env} {w : World} {k n s : Nat} {T : TypeId} {xs : List Value} (h : (Ob.own T s n xs).holds e k w) : (CV.nm k).den e = (CV.sub k 0 0 n).den e := by
  rcases h.1.2 with ⟨hv, hz⟩ | ⟨g, cap, cur, hv, _, hb, hn, hcm, hs, ht⟩
  · subst hz; simp [CV.den, hv]
  · simp only [CV.den, hv]
    split <;> simp_all [lit_add]
theorem done_nm_sub {P : Program} {w0 : World} {F : Frm} {fn : Func} {L : LL} {H : HL} {nx nx1 n s : Nat} {b : Bool} {T : TypeId} {x : TV} {xs : List Value} (h : Done F (bodyPost P fn (NewPost w0 nx1 (.tup [.c (.nm nx1), x]) [(b, .own T s n xs)]) .ret) L H nx) :
    Done F (bodyPost P fn (NewPost w0 nx1 (.tup [.c (.sub nx1 0 0 n), x]) [(b, .own T s n xs)]) .ret) L H nx := by
  refine ⟨fun hW e a w S => ?_⟩
  obtain ⟨h1, v, h2, e', h3, h4, h5, h6⟩ := h.h hW e a w S
  refine ⟨h1, v, h2, e', ?_, h4, h5, h6⟩
  rw [h3]
  simp only [SV.den, TV.den, List.map_cons, List.map_nil]
  rw [show (CV.nm nx1).den e' = (CV.sub nx1 0 0 n).den e' from own_nm_sub (h5 0 b _ rfl).1]
theorem cond1 {a b : Nat} {n : Nat} (h : condB [(n, true, decide ((a : Int) < (b : Int)))] = true) : a < b := by
  have : (a : Int) < (b : Int) := by simpa [condB] using h
  omega
set_option maxRecDepth 100000 in
set_option maxHeartbeats 4000000 in
theorem rwanted0 {v1 v2 : TV} {want held : List Int} {H : HL} {nx : Nat} (h1 : SlR H v1 want.length 1 (ivs want)) (h2 : SlR H v2 held.length 1 (ivs held)) (z1 : want.length ≤ 17592186043904) (z2 : held.length ≤ 17592186043904) :
    FnH Try.prog 8 [v1, v2] H nx ⟨.tup [.c (.sub nx 0 0 (bnd held (uq want)).length), .c (iT (mis held (uq want)))], [(true, .own 3 1 (uq want).length (ivs (uq want)))], [], []⟩ := by
  refine fnN (fn := Try.f8) 102 rfl rfl rfl (args' := [.c (.nm 0), .c (.nm 1)]) (H' := [(0, some (false, .rd 1 want.length (ivs want))), (1, some (false, .rd 1 held.length (ivs held)))]) (nx' := 2) (fun e w M => ?_) rfl rfl rfl (inR_one nx) rfl fun w => ?_
  · obtain ⟨e', M', q1, q2⟩ := slr2 h1 h2 e w M
    exact ⟨e', M', by simp [q1, q2]⟩
  refine rn [] rfl (by repeat' (first | exact trivial | exact rfl | refine And.intro ?_ ?_)) ?_
  refine At.nil 6 3 1 rfl ?_
  refine At.loop (X := (all : List Int) ×' (i : Nat) ×' (i ≤ want.length ∧ all.length ≤ i ∧ all.Pairwise (· < ·) ∧ ∀ y, y ∈ all ↔ y ∈ want.take i)) 3 (fun x => want.length - x.2.1)
    (fun x => [(0, .t (.c (.nm 0))), (1, .t (.c (.nm 1))), (6, .t (.c (.nm 2))), (7, .t (.c (iT (x.2.1 : Nat))))])
    (fun x => [(0, some (false, .rd 1 want.length (ivs want))), (1, some (false, .rd 1 held.length (ivs held))), (2, some (true, .own 3 1 x.1.length (ivs x.1)))]) ⟨[], 0, by omega, by simp, by simp, by simp⟩ [] (fun k => wf rfl rfl) (by repeat' (first | exact trivial | exact rfl | refine And.intro ?_ ?_)) (by repeat' (first | exact trivial | exact rfl | refine And.intro ?_ ?_)) rfl fun x => ?_
  obtain ⟨all, i, hi1, hi2, hi3, hi4⟩ := x
  have w2 : IntKind.i64.wrap ((i : Int) + 1) = ((i + 1 : Nat) : Int) := by rw [wrap_sm (by omega) (by omega)]; omega
  refine rn [] rfl (by repeat' (first | exact trivial | exact rfl | refine And.intro ?_ ?_)) ?_
  refine ⟨fun h => ?_, fun h => ?_⟩
  · have hlt : i < want.length := by have : (i : Int) < (want.length : Int) := of_decide_eq_true h; omega
    clear h
    have e1 : (ivs want)[(i : Int).toNat * 1]? = some (.int .i64 want[i]) := by simpa using ivs_at hlt
    have b0 : (0 : Int) ≤ (i : Int) := by omega
    have b1 : (i : Int) < (want.length : Int) := by omega
    refine rn [] rfl (by repeat' (first | exact trivial | exact rfl | refine And.intro ?_ ?_)) ?_
    refine At.loop (X := (k : Nat) ×' (k ≤ all.length ∧ ∀ y ∈ all.take k, y < want[i])) 3 (fun k => all.length - k.1)
      (fun k => [(0, .t (.c (.nm 0))), (1, .t (.c (.nm 1))), (6, .t (.c (.nm 2))), (7, .t (.c (iT (i : Nat)))), (8, .t (.c (iT (k.1 : Nat))))])
      (fun k => [(0, some (false, .rd 1 want.length (ivs want))), (1, some (false, .rd 1 held.length (ivs held))), (2, some (true, .own 3 1 all.length (ivs all)))]) ⟨0, by omega, by simp⟩ [] (fun k => wf rfl rfl) (by repeat' (first | exact trivial | exact rfl | refine And.intro ?_ ?_)) (by repeat' (first | exact trivial | exact rfl | refine And.intro ?_ ?_)) rfl fun k => ?_
    obtain ⟨k, hk1, hk2⟩ := k
    have w3 : IntKind.i64.wrap ((k : Int) + 1) = ((k + 1 : Nat) : Int) := by rw [wrap_sm (by omega) (by omega)]; omega
    have c0 : (0 : Int) ≤ (k : Int) := by omega
    have c1 : ((k : Int) ≤ (all.length : Int)) := by omega
    have e2 : k < all.length → (ivs all)[(k : Int).toNat * 1]? = some (.int .i64 (all.getD k 0)) := fun h => by rw [Int.toNat_natCast, Nat.mul_one, ivs_at h, List.getD_eq_getElem?_getD, List.getElem?_eq_getElem h]; rfl
    refine rn [(27, .ld [iT (all.getD k 0)]), (31, .ld [iT want[i]])] rfl ?_ ?_
    · repeat' (first | exact trivial | exact rfl | refine And.intro ?_ ?_)
      all_goals (intro hh; have hh' : k < all.length := cond1 hh; first | exact ⟨e1, trivial⟩ | exact ⟨e2 hh', trivial⟩ | exact ⟨b0, b1⟩ | exact ⟨c0, by show (k : Int) < (all.length : Int); omega⟩ | exact Nat.one_pos)
    refine ⟨fun h => ?_, fun h => ?_⟩
    · obtain ⟨q1, q2⟩ := Bool.and_eq_true_iff.1 h
      have q3 : k < all.length := by have : (k : Int) < (all.length : Int) := of_decide_eq_true q1; omega
      have q4 : all.getD k 0 < want[i] := of_decide_eq_true q2
      have q5 : all.getD k 0 = all[k] := by rw [List.getD_eq_getElem?_getD, List.getElem?_eq_getElem q3]; rfl
      refine rn [] rfl (by repeat' (first | exact trivial | exact rfl | refine And.intro ?_ ?_)) ?_
      refine roundEnd ⟨k + 1, by omega, fun y hy => ?_⟩ [] (by show all.length - (k + 1) < all.length - k; omega) (by (repeat' (first | exact trivial | exact rfl | exact w3 | exact fun _ => w3 | refine And.intro ?_ ?_))) (by repeat' (first | exact trivial | exact rfl | refine And.intro ?_ ?_)) rfl
      rcases (mem_take1 q3).1 hy with hy | rfl
      · exact hk2 y hy
      · omega
    · have q2 : ∀ hk : k < all.length, ¬ all[k] < want[i] := by
        intro hk hlt2
        have q5 : all.getD k 0 = all[k] := by rw [List.getD_eq_getElem?_getD, List.getElem?_eq_getElem hk]; rfl
        have : (decide ((k : Int) < (all.length : Int)) && decide (all.getD k 0 < want[i])) = true := by
          rw [decide_eq_true (by omega), decide_eq_true (by omega)]; rfl
        rw [show (decide ((k : Int) < (all.length : Int)) && decide (all.getD k 0 < want[i])) = false from h] at this
        cases this
      clear h
      refine rn [] rfl (by repeat' (first | exact trivial | exact rfl | refine And.intro ?_ ?_)) (roundExit rfl ?_)
      refine rnA [(44, .ld [iT (all.getD k 0)]), (48, .ld [iT want[i]])] rfl ?_ ?_
      · repeat' (first | exact trivial | exact rfl | refine And.intro ?_ ?_)
        all_goals (intro hh; have hh' : k < all.length := cond1 hh; first | exact ⟨e1, trivial⟩ | exact ⟨e2 hh', trivial⟩ | exact ⟨b0, b1⟩ | exact ⟨c0, by show (k : Int) < (all.length : Int); omega⟩ | exact Nat.one_pos)
      refine ⟨fun h => ?_, fun h => ?_⟩
      · obtain ⟨q3, q4⟩ := Bool.and_eq_true_iff.1 h
        have q5 : k < all.length := by have : (k : Int) < (all.length : Int) := of_decide_eq_true q3; omega
        have q6 : all[k] = want[i] := by
          have : all.getD k 0 = all[k] := by rw [List.getD_eq_getElem?_getD, List.getElem?_eq_getElem q5]; rfl
          rw [← this]
          simpa using q4
        refine rn [] rfl (by repeat' (first | exact trivial | exact rfl | refine And.intro ?_ ?_)) ?_
        refine roundEnd ⟨all, i + 1, by omega, by omega, hi3, fun y => ?_⟩ [] (by show want.length - (i + 1) < want.length - i; omega) (by (repeat' (first | exact trivial | exact rfl | exact w2 | exact fun _ => w2 | refine And.intro ?_ ?_))) (by repeat' (first | exact trivial | exact rfl | refine And.intro ?_ ?_)) rfl
        rw [mem_take1 hlt, ← hi4]
        constructor
        · exact Or.inl
        · rintro (h | rfl)
          · exact h
          · rw [← q6]; exact List.getElem_mem q5
      · have q3 : all[k]? ≠ some want[i] := by
          intro e
          obtain ⟨q5, q6⟩ := List.getElem?_eq_some_iff.1 e
          have q7 : all.getD k 0 = all[k] := by rw [List.getD_eq_getElem?_getD, List.getElem?_eq_getElem q5]; rfl
          have : (decide ((k : Int) < (all.length : Int)) && (all.getD k 0 == want[i])) = true := by
            rw [decide_eq_true (by omega), q7, q6]; simp
          rw [show (decide ((k : Int) < (all.length : Int)) && (all.getD k 0 == want[i])) = false from h] at this
          cases this
        clear h
        refine rn [(60, .ld [iT want[i]])] rfl ?_ ?_
        · (repeat' (first | exact trivial | exact rfl | exact e1 | exact fun _ => e1 | first | exact b0 | exact b1 | decide | exact ivs_one all | (dsimp only [maxLen]; omega) | refine And.intro ?_ ?_))
        refine roundEnd ⟨all.take k ++ want[i] :: all.drop k, i + 1, by omega, by simp; omega, ins_pw hi3 hk2 q2 q3, fun y => ?_⟩ [(2, 6)] (by show want.length - (i + 1) < want.length - i; omega) (by (repeat' (first | exact trivial | exact rfl | exact w2 | exact fun _ => w2 | refine And.intro ?_ ?_))) ?_ rfl
        · rw [mem_take1 hlt, mem_ins, hi4]
        · repeat' (first | exact trivial | exact rfl | refine And.intro ?_ ?_)
          · dsimp only; simp; omega
          · dsimp only
            simp [app_eq, ivs]
            exact ⟨rfl, List.take_of_length_le (by simp)⟩
  · have hlt : i = want.length := by have : ¬ (i : Int) < (want.length : Int) := of_decide_eq_false h; omega
    subst hlt
    rw [List.take_length] at hi4
    have hau : all = uq want := pw_ext hi3 (uq_pw want) fun y => (hi4 y).trans mem_uq.symm
    subst hau
    have hu := hi2
    generalize uq want = u at *
    refine rn [] rfl (by repeat' (first | exact trivial | exact rfl | refine And.intro ?_ ?_)) (roundExit rfl ?_)
    refine rnA [] rfl (by repeat' (first | exact trivial | exact rfl | refine And.intro ?_ ?_)) ?_
    refine At.loop (X := (k : Nat) ×' (k ≤ u.length ∧ (u.take k).all (fun r => decide (r ∈ held)) = true)) 3 (fun k => u.length - k.1)
      (fun k => [(1, .t (.c (.nm 1))), (6, .t (.c (.nm 2))), (10, .t (.c (iT (k.1 : Nat))))])
      (fun _ => [(1, some (false, .rd 1 held.length (ivs held))), (2, some (true, .own 3 1 u.length (ivs u)))]) ⟨0, by omega, rfl⟩ [] (fun k => wf rfl rfl) (by repeat' (first | exact trivial | exact rfl | refine And.intro ?_ ?_)) (by repeat' (first | exact trivial | exact rfl | refine And.intro ?_ ?_)) rfl fun k => ?_
    obtain ⟨k, hk1, hk2⟩ := k
    have w3 : IntKind.i64.wrap ((k : Int) + 1) = ((k + 1 : Nat) : Int) := by rw [wrap_sm (by omega) (by omega)]; omega
    refine rn [] rfl (by repeat' (first | exact trivial | exact rfl | refine And.intro ?_ ?_)) ?_
    refine ⟨fun h => ?_, fun h => ?_⟩
    · have hlt : k < u.length := by have : (k : Int) < (u.length : Int) := of_decide_eq_true h; omega
      clear h
      have e1 : (ivs u)[(k : Int).toNat * 1]? = some (.int .i64 u[k]) := by simpa using ivs_at hlt
      have b0 : (0 : Int) ≤ (k : Int) := by omega
      have b1 : (k : Int) < (u.length : Int) := by omega
      refine rn [] rfl (by repeat' (first | exact trivial | exact rfl | refine And.intro ?_ ?_)) ?_
      refine At.loop (X := (j : Nat) ×' (j ≤ held.length)) 3 (fun j => held.length - j.1)
        (fun j => [(1, .t (.c (.nm 1))), (6, .t (.c (.nm 2))), (10, .t (.c (iT (k : Nat)))), (11, .t (.c (.b (decide (u[k] ∈ held.take j.1))))), (12, .t (.c (iT (j.1 : Nat))))])
        (fun _ => [(1, some (false, .rd 1 held.length (ivs held))), (2, some (true, .own 3 1 u.length (ivs u)))]) ⟨0, by omega⟩ [] (fun k => wf rfl rfl) (by repeat' (first | exact trivial | exact rfl | refine And.intro ?_ ?_)) (by repeat' (first | exact trivial | exact rfl | refine And.intro ?_ ?_)) rfl fun j => ?_
      obtain ⟨j, hj⟩ := j
      have w4 : IntKind.i64.wrap ((j : Int) + 1) = ((j + 1 : Nat) : Int) := by rw [wrap_sm (by omega) (by omega)]; omega
      refine rn [] rfl (by repeat' (first | exact trivial | exact rfl | refine And.intro ?_ ?_)) ?_
      refine ⟨fun h => ?_, fun h => ?_⟩
      · have hjl : j < held.length := by have : (j : Int) < (held.length : Int) := of_decide_eq_true h; omega
        clear h
        have e2 : (ivs held)[(j : Int).toNat * 1]? = some (.int .i64 held[j]) := by simpa using ivs_at hjl
        have d0 : (0 : Int) ≤ (j : Int) := by omega
        have d1 : (j : Int) < (held.length : Int) := by omega
        refine rn [(85, .ld [iT held[j]]), (89, .ld [iT u[k]])] rfl ?_ ?_
        · repeat' (first | exact trivial | exact rfl | refine And.intro ?_ ?_)
          all_goals (intro _; first | exact ⟨e1, trivial⟩ | exact ⟨e2, trivial⟩ | exact ⟨b0, b1⟩ | exact ⟨d0, d1⟩ | exact Nat.one_pos)
        refine roundEnd ⟨j + 1, by omega⟩ [] (by show held.length - (j + 1) < held.length - j; omega) ?_ (by repeat' (first | exact trivial | exact rfl | refine And.intro ?_ ?_)) rfl
        (repeat' (first | exact trivial | exact rfl | exact w4 | exact fun _ => w4 | refine And.intro ?_ ?_))
        show (decide (u[k] ∈ held.take j) || (held[j] == u[k])) = decide (u[k] ∈ held.take (j + 1))
        rw [Bool.eq_iff_iff]
        simp only [Bool.or_eq_true, decide_eq_true_eq, beq_iff_eq, mem_take1 hjl]
        constructor <;> rintro (h | h) <;> simp [h]
      · have hjl : j = held.length := by have : ¬ (j : Int) < (held.length : Int) := of_decide_eq_false h; omega
        subst hjl
        rw [List.take_length]
        refine rn [] rfl (by repeat' (first | exact trivial | exact rfl | refine And.intro ?_ ?_)) (roundExit rfl ?_)
        refine rnA [] rfl (by repeat' (first | exact trivial | exact rfl | refine And.intro ?_ ?_)) ?_
        refine ⟨fun h => ?_, fun h => ?_⟩
        · have hn : u[k] ∉ held := by simpa using h
          obtain ⟨p1, p2⟩ := bnd_at hk2 hlt hn
          refine rn [(100, .ld [iT u[k]])] rfl ?_ (roundRet ?_)
          · (repeat' (first | exact trivial | exact rfl | exact e1 | exact fun _ => e1 | first | exact b0 | exact b1 | decide | (dsimp only; omega) | omega | refine And.intro ?_ ?_))
          rw [p1, p2, List.length_take, Nat.min_eq_left hk1]
          exact retN tysOk [(nx, 2)] rfl (by simp only [retS, SV.eqs, eqsT, TV.eqs, CV.eqs, ren_one]; repeat' (first | exact trivial | exact rfl | refine And.intro ?_ ?_)) (by simp only [newsH, subH, ren_one]; (repeat' (first | exact trivial | exact rfl | exact trivial | exact fun _ => trivial | first | omega | (simp; omega) | refine And.intro ?_ ?_))) (by simp [injK, keysH, newsH, inL]) rfl
        · have hi : u[k] ∈ held := by simpa using h
          refine rn [] rfl (by repeat' (first | exact trivial | exact rfl | refine And.intro ?_ ?_)) ?_
          exact roundEnd ⟨k + 1, by omega, all_succ hlt hk2 (decide_eq_true hi)⟩ [] (by show u.length - (k + 1) < u.length - k; omega) (by (repeat' (first | exact trivial | exact rfl | exact w3 | exact fun _ => w3 | refine And.intro ?_ ?_))) (by repeat' (first | exact trivial | exact rfl | refine And.intro ?_ ?_)) rfl
    · have hlt : k = u.length := by have : ¬ (k : Int) < (u.length : Int) := of_decide_eq_false h; omega
      subst hlt
      rw [List.take_length] at hk2
      obtain ⟨p1, p2⟩ := bnd_all hk2
      refine rn [] rfl (by repeat' (first | exact trivial | exact rfl | refine And.intro ?_ ?_)) (roundExit rfl ?_)
      rw [p1, p2]
      refine rnA [] rfl (by repeat' (first | exact trivial | exact rfl | refine And.intro ?_ ?_)) ?_
      refine done_nm_sub ?_
      exact retN tysOk [(nx, 2)] rfl (by simp only [retS, SV.eqs, eqsT, TV.eqs, CV.eqs, ren_one]; repeat' (first | exact trivial | exact rfl | refine And.intro ?_ ?_)) (by simp only [newsH, subH, ren_one]; (repeat' (first | exact trivial | exact rfl | exact trivial | exact fun _ => trivial | first | omega | (simp; omega) | refine And.intro ?_ ?_))) (by simp [injK, keysH, newsH, inL]) rfl
end Cw
