/- The document's cache: Drop, Sectors. -/
import Derived.Test.YtaopblgnaoojkaaRCac2
namespace Cw
open Go Vc
open Go.Proofs
set_option maxRecDepth 100000
theorem dels_take {L : List (Int × Bd)} {xs : List Int} {k : Nat} (h : k < xs.length) : (xs.take (k + 1)).foldl (fun L k => gdel k L) L = gdel xs[k] ((xs.take k).foldl (fun L k => gdel k L) L) := by
  rw [List.take_succ_eq_append_getElem h, List.foldl_append]
  rfl
theorem bfr_h {x : Bd} (h0 : 0 ≤ x.h) (hd : x.d = false) : (!bfr x) = decide (0 < x.h) := by
  unfold bfr
  rw [hd]
  by_cases h : x.h = 0
  · rw [h]; rfl
  · rw [decide_eq_true (by omega)]
    simp [h]
section
variable {H : HL} {nx d b : Nat} {n room : Int} {L : List (Int × Bd)}
set_option maxRecDepth 100000 in
set_option maxHeartbeats 2000000 in
theorem rdropB (hd : lookH H d = some (true, .ab (rcP room L b))) (ok : LOk n room L) {u : TV} {xs : List Int} (hr : SlQ H u xs.length 1 (ivs xs) d) (zx : xs.length ≤ 100000000000000) :
    FnH Try.prog 34 [.c (.nm d), u] H nx ⟨.t (.c (iT (dropR L xs).1)), [], [(d, some (.ab (rcP room (dropR L xs).2 b)))], []⟩ := by
  refine fnA1q (fn := Try.f34) 64 rfl rfl rfl hd hr (ptr b) (rc_pins _ _ _) (rc_pins _ _ _) rfl rfl rfl (v' := .t (.c (iT (dropR L xs).1))) (news' := []) rfl rfl rfl rfl fun w Wr => ?_
  have z := rclen ok
  refine At.unfoldTo 0 (L1 := [(0, .t (.c (.p 2 0))), (1, .t (.c (.nm 1)))]) (H1 := [(2, some (true, .cells [iT room, .nm 3] 67)), (3, some (true, .own 73 4 L.length (rcs L))), (4, some (false, .pin 2 b)), (0, none), (0, some (true, .ab (rcP room L b))), (1, some (false, .rd 1 xs.length (ivs xs)))]) (nx1 := 5) rfl rfl rfl rfl rfl rfl ?_
  refine rn [] rfl (by repeat' (first | exact trivial | exact rfl | refine And.intro ?_ ?_)) ?_
  refine At.loop (X := (k : Nat) ×' (k ≤ xs.length ∧ ∀ j (h : j < xs.length), j < k → badL L xs[j] = false)) 5 (fun k => xs.length - k.1)
    (fun k => [(0, .t (.c (.p 2 0))), (1, .t (.c (.nm 1))), (5, .t (.c (iT (k.1 : Nat))))])
    (fun _ => [(2, some (true, .cells [iT room, .nm 3] 67)), (3, some (true, .own 73 4 L.length (rcs L))), (4, some (false, .pin 2 b)), (1, some (false, .rd 1 xs.length (ivs xs)))]) ⟨0, by omega, fun j _ h => by omega⟩ [] (fun k => wf rfl rfl) (by repeat' (first | exact trivial | exact rfl | refine And.intro ?_ ?_)) (by repeat' (first | exact trivial | exact rfl | refine And.intro ?_ ?_)) rfl fun x => ?_
  obtain ⟨k, hk1, hk2⟩ := x
  have w2 : IntKind.i64.wrap ((k : Int) + 1) = ((k + 1 : Nat) : Int) := by rw [wrap_sm (by omega) (by omega)]; omega
  refine rn [] rfl (by repeat' (first | exact trivial | exact rfl | refine And.intro ?_ ?_)) ?_
  refine ⟨fun h => ?_, fun h => ?_⟩
  · have hlt : k < xs.length := by have : (k : Int) < (xs.length : Int) := of_decide_eq_true h; omega
    have e1 : (ivs xs)[(k : Int).toNat * 1]? = some (.int .i64 xs[k]) := by simpa using ivs_at hlt
    have b0 : (0 : Int) ≤ (k : Int) := by omega
    have b1 : (k : Int) < (xs.length : Int) := by omega
    have hμ : xs.length - (k + 1) < xs.length - k := by omega
    have next : badL L xs[k] = false → ∀ j (h : j < xs.length), j < k + 1 → badL L xs[j] = false := fun hb j hj h => by
      rcases Nat.lt_or_eq_of_le (Nat.le_of_lt_succ h) with h | rfl
      · exact hk2 j hj h
      · exact hb
    have hbad : badL L xs[k] = true → (dropR L xs).1 = 130 ∧ (dropR L xs).2 = L := fun hb => by
      have : xs.any (badL L) = true := List.any_eq_true.2 ⟨xs[k], List.getElem_mem _, hb⟩
      rw [dropR, if_pos this]
      exact ⟨rfl, rfl⟩
    have hfi : ∀ (H : HL) (nx : Nat), lookH H 2 = some (true, .cells [iT room, .nm 3] 67) → lookH H 3 = some (true, .own 73 4 L.length (rcs L)) → FnH Try.prog 41 [.c (.p 2 0), .c (iT xs[k])] H nx ⟨.t (.c (iT (fxC xs[k] L))), [], [], []⟩ := fun H nx h1 h2 => rcfind h1 h2 (by omega) _
    rcases fxC_ok xs[k] L with ⟨h1, h2⟩ | ⟨i, h0, h1, h2, h3, h4, _⟩
    · have e0 : fxC xs[k] L = -1 := by rw [fxC, if_neg (by omega)]
      rw [e0] at hfi
      have hb : badL L xs[k] = false := by rw [badL, h1]
      refine rn [(19, .ld [iT xs[k]]), (20, .spec ⟨.t (.c (iT (-1))), [], [], []⟩), (23, .dec false), (43, .dec false)] rfl (by (repeat' (first | exact trivial | exact rfl | exact e1 | exact fun _ => e1 | first | exact hfi _ _ rfl rfl | exact b0 | exact b1 | decide | refine And.intro ?_ ?_))) ?_
      exact roundEnd ⟨k + 1, by omega, next hb⟩ [] hμ (by (repeat' (first | exact trivial | exact rfl | exact w2 | exact fun _ => w2 | refine And.intro ?_ ?_))) (by repeat' (first | exact trivial | exact rfl | refine And.intro ?_ ?_)) rfl
    · have e0 : fxC xs[k] L = (i : Nat) := by rw [fxC, h1, if_pos h0]
      rw [e0] at hfi
      have q1 := rcs_d h0
      have q2 := rcs_h h0
      have hxh := (ok.h _ (List.getElem_mem h0)).1
      have c0 : (0 : Int) ≤ (i : Int) := by omega
      have c1 : (i : Int) < (L.length : Int) := by omega
      have c5 : (i : Int).toNat * 4 < (rcs L).length := by rw [rcs_length]; omega
      have g3 : decide ((0 : Int) ≤ (i : Int)) = true := decide_eq_true c0
      have hbe : badL L xs[k] = !bfr L[i].2 := by rw [badL, h2]
      cases hxd : L[i].2.d with
      | true =>
        rw [hxd] at q1
        have hb : badL L xs[k] = true := by rw [hbe, bfr, hxd]; rfl
        obtain ⟨t1, t2⟩ := hbad hb
        rw [t1, t2]
        refine rn [(19, .ld [iT xs[k]]), (20, .spec ⟨.t (.c (iT (i : Nat))), [], [], []⟩), (23, .dec true), (31, .ld [.b true]), (32, .dec true), (43, .dec true)] rfl (by (repeat' (first | exact trivial | exact rfl | exact e1 | exact fun _ => e1 | first | exact hfi _ _ rfl rfl | exact b0 | exact b1 | exact g3 | exact q1 | exact ⟨q1, trivial⟩ | exact c0 | exact c1 | exact c5 | (rw [g3]; rfl) | decide | refine And.intro ?_ ?_))) (roundRet ?_)
        refine Done.fold [(0, 2), (1, 3), (2, 4)] (rcO room L b) (.p 0 0) (by repeat' (first | exact trivial | exact rfl | refine And.intro ?_ ?_)) rfl rfl (fun _ => rfl) ?_
        exact retM tysOk [(0, 5)] rfl (by repeat' (first | exact trivial | exact rfl | refine And.intro ?_ ?_)) (by repeat' (first | exact trivial | exact rfl | refine And.intro ?_ ?_)) rfl rfl
      | false =>
        rw [hxd] at q1
        have hbe' : badL L xs[k] = decide (0 < L[i].2.h) := by rw [hbe, bfr_h hxh hxd]
        by_cases hp : 0 < L[i].2.h
        · have hb : badL L xs[k] = true := by rw [hbe']; exact decide_eq_true hp
          have g4 : decide (0 < L[i].2.h) = true := decide_eq_true hp
          obtain ⟨t1, t2⟩ := hbad hb
          rw [t1, t2]
          refine rn [(19, .ld [iT xs[k]]), (20, .spec ⟨.t (.c (iT (i : Nat))), [], [], []⟩), (23, .dec true), (31, .ld [.b false]), (32, .dec false), (40, .ld [iT L[i].2.h]), (43, .dec true)] rfl (by (repeat' (first | exact trivial | exact rfl | exact e1 | exact fun _ => e1 | first | exact hfi _ _ rfl rfl | exact b0 | exact b1 | exact g3 | exact g4 | exact q1 | exact ⟨q1, trivial⟩ | exact q2 | exact ⟨q2, trivial⟩ | exact c0 | exact c1 | exact c5 | (rw [g3, g4]; rfl) | (rw [g4]; rfl) | decide | refine And.intro ?_ ?_))) (roundRet ?_)
          refine Done.fold [(0, 2), (1, 3), (2, 4)] (rcO room L b) (.p 0 0) (by repeat' (first | exact trivial | exact rfl | refine And.intro ?_ ?_)) rfl rfl (fun _ => rfl) ?_
          exact retM tysOk [(0, 5)] rfl (by repeat' (first | exact trivial | exact rfl | refine And.intro ?_ ?_)) (by repeat' (first | exact trivial | exact rfl | refine And.intro ?_ ?_)) rfl rfl
        · have hb : badL L xs[k] = false := by rw [hbe']; exact decide_eq_false hp
          have g4 : decide (0 < L[i].2.h) = false := decide_eq_false hp
          refine rn [(19, .ld [iT xs[k]]), (20, .spec ⟨.t (.c (iT (i : Nat))), [], [], []⟩), (23, .dec true), (31, .ld [.b false]), (32, .dec false), (40, .ld [iT L[i].2.h]), (43, .dec false)] rfl (by (repeat' (first | exact trivial | exact rfl | exact e1 | exact fun _ => e1 | first | exact hfi _ _ rfl rfl | exact b0 | exact b1 | exact g3 | exact g4 | exact q1 | exact ⟨q1, trivial⟩ | exact q2 | exact ⟨q2, trivial⟩ | exact c0 | exact c1 | exact c5 | (rw [g3, g4]; rfl) | (rw [g4]; rfl) | decide | refine And.intro ?_ ?_))) ?_
          exact roundEnd ⟨k + 1, by omega, next hb⟩ [] hμ (by (repeat' (first | exact trivial | exact rfl | exact w2 | exact fun _ => w2 | refine And.intro ?_ ?_))) (by repeat' (first | exact trivial | exact rfl | refine And.intro ?_ ?_)) rfl
  · have hlt : k = xs.length := by have : ¬ (k : Int) < (xs.length : Int) := of_decide_eq_false h; omega
    have hany : ¬ xs.any (badL L) = true := fun h => by
      obtain ⟨m, hm, hb⟩ := List.any_eq_true.1 h
      obtain ⟨j, hj, rfl⟩ := List.mem_iff_getElem.1 hm
      rw [hk2 j hj (by omega)] at hb
      cases hb
    rw [dropR, if_neg hany]
    refine rn [] rfl (by repeat' (first | exact trivial | exact rfl | refine And.intro ?_ ?_)) (roundExit rfl ?_)
    refine rnA [] rfl (by repeat' (first | exact trivial | exact rfl | refine And.intro ?_ ?_)) ?_
    refine At.loop (X := (k : Nat) ×' (k ≤ xs.length)) 5 (fun k => xs.length - k.1)
      (fun k => [(0, .t (.c (.p 2 0))), (1, .t (.c (.nm 1))), (7, .t (.c (iT (k.1 : Nat))))])
      (fun k => [(2, some (true, .cells [iT room, .nm 3] 67)), (3, some (true, .own 73 4 ((xs.take k.1).foldl (fun L k => gdel k L) L).length (rcs ((xs.take k.1).foldl (fun L k => gdel k L) L)))), (4, some (false, .pin 2 b)), (1, some (false, .rd 1 xs.length (ivs xs)))]) ⟨0, by omega⟩ [] (fun k => wf rfl rfl) (by repeat' (first | exact trivial | exact rfl | refine And.intro ?_ ?_)) (by repeat' (first | exact trivial | exact rfl | refine And.intro ?_ ?_)) rfl fun x => ?_
    obtain ⟨k, hk1⟩ := x
    have w2 : IntKind.i64.wrap ((k : Int) + 1) = ((k + 1 : Nat) : Int) := by rw [wrap_sm (by omega) (by omega)]; omega
    have okk := LOk.dels (xs.take k) ok
    refine rn [] rfl (by repeat' (first | exact trivial | exact rfl | refine And.intro ?_ ?_)) ?_
    refine ⟨fun h => ?_, fun h => ?_⟩
    · have hlt : k < xs.length := by have : (k : Int) < (xs.length : Int) := of_decide_eq_true h; omega
      have e1 : (ivs xs)[(k : Int).toNat * 1]? = some (.int .i64 xs[k]) := by simpa using ivs_at hlt
      have b0 : (0 : Int) ≤ (k : Int) := by omega
      have b1 : (k : Int) < (xs.length : Int) := by omega
      have hμ : xs.length - (k + 1) < xs.length - k := by omega
      have hk' : k + 1 ≤ xs.length := by omega
      have e2 := dels_take (L := L) hlt
      generalize hM : (xs.take k).foldl (fun L k => gdel k L) L = M at *
      have zM := rclen okk
      have hfi : ∀ (H : HL) (nx : Nat), lookH H 2 = some (true, .cells [iT room, .nm 3] 67) → lookH H 3 = some (true, .own 73 4 M.length (rcs M)) → FnH Try.prog 41 [.c (.p 2 0), .c (iT xs[k])] H nx ⟨.t (.c (iT (fxC xs[k] M))), [], [], []⟩ := fun H nx h1 h2 => rcfind h1 h2 (by omega) _
      rcases fxC_ok xs[k] M with ⟨h1, h2⟩ | ⟨i, h0, h1, h2, h3, h4, _⟩
      · have e0 : fxC xs[k] M = -1 := by rw [fxC, if_neg (by omega)]
        rw [e0] at hfi
        rw [gdel_none h1] at e2
        refine rn [(54, .ld [iT xs[k]]), (55, .spec ⟨.t (.c (iT (-1))), [], [], []⟩), (57, .dec false)] rfl (by (repeat' (first | exact trivial | exact rfl | exact e1 | exact fun _ => e1 | first | (rw [hM]; exact hfi _ _ rfl rfl) | exact hfi _ _ (by rw [hM]; rfl) (by rw [hM]; rfl) | exact hfi _ _ rfl rfl | exact b0 | exact b1 | decide | refine And.intro ?_ ?_))) ?_
        exact roundEnd ⟨k + 1, hk'⟩ [] hμ (by (repeat' (first | exact trivial | exact rfl | exact w2 | exact fun _ => w2 | refine And.intro ?_ ?_))) (by (repeat' (first | exact trivial | exact rfl | exact trivial | exact fun _ => trivial | first | exact congrArg List.length e2.symm | exact congrArg rcs e2.symm | refine And.intro ?_ ?_))) rfl
      · have e0 : fxC xs[k] M = (i : Nat) := by rw [fxC, h1, if_pos h0]
        rw [e0] at hfi
        rw [h4] at e2
        have g3 : decide ((0 : Int) ≤ (i : Int)) = true := decide_eq_true (by omega)
        have hwi : ∀ (H : HL) (nx : Nat), lookH H 2 = some (true, .cells [iT room, .nm 3] 67) → lookH H 3 = some (true, .own 73 4 M.length (rcs M)) → FnH Try.prog 42 [.c (.p 2 0), .c (iT (i : Nat))] H nx ⟨.t (.c (.nm nx)), [(true, .own 73 4 (M.eraseIdx i).length (rcs (M.eraseIdx i)))], [], []⟩ := fun H nx h1 h2 => rcwithout h1 h2 (by omega) h0
        refine rn [(54, .ld [iT xs[k]]), (55, .spec ⟨.t (.c (iT (i : Nat))), [], [], []⟩), (57, .dec true), (61, .spec ⟨.t (.c (.nm 5)), [(true, .own 73 4 (M.eraseIdx i).length (rcs (M.eraseIdx i)))], [], []⟩)] rfl (by (repeat' (first | exact trivial | exact rfl | exact e1 | exact fun _ => e1 | first | exact hfi _ _ (by rw [hM]; rfl) (by rw [hM]; rfl) | exact hwi _ _ (by rw [hM]; rfl) (by rw [hM]; rfl) | exact hfi _ _ rfl rfl | exact hwi _ _ rfl rfl | exact g3 | exact b0 | exact b1 | decide | refine And.intro ?_ ?_))) ?_
        exact roundEnd ⟨k + 1, hk'⟩ [(3, 5)] hμ (by (repeat' (first | exact trivial | exact rfl | exact w2 | exact fun _ => w2 | refine And.intro ?_ ?_))) (by (repeat' (first | exact trivial | exact rfl | exact trivial | exact fun _ => trivial | first | (rw [e2]) | refine And.intro ?_ ?_))) rfl
    · have hlt : k = xs.length := by have : ¬ (k : Int) < (xs.length : Int) := of_decide_eq_false h; omega
      have e3 : xs.take k = xs := by rw [hlt, List.take_length]
      refine rn [] rfl (by repeat' (first | exact trivial | exact rfl | refine And.intro ?_ ?_)) (roundExit rfl ?_)
      refine rnA [] rfl (by repeat' (first | exact trivial | exact rfl | refine And.intro ?_ ?_)) ?_
      refine Done.fold [(0, 2), (1, 3), (2, 4)] (rcO room (xs.foldl (fun L k => gdel k L) L) b) (.p 0 0) (by (repeat' (first | exact trivial | exact rfl | exact trivial | exact fun _ => trivial | (rw [e3]) | refine And.intro ?_ ?_))) rfl rfl (fun _ => rfl) ?_
      exact retM tysOk [(0, 5)] rfl (by repeat' (first | exact trivial | exact rfl | refine And.intro ?_ ?_)) (by repeat' (first | exact trivial | exact rfl | refine And.intro ?_ ?_)) rfl rfl
theorem rdropL (hd : lookH H d = some (true, .ab (rcX room L))) (ok : LOk n room L) {u : TV} {xs : List Int} (hr : SlQ H u xs.length 1 (ivs xs) d) (zx : xs.length ≤ 100000000000000) :
    FnH Try.prog 34 [.c (.nm d), u] H nx ⟨.t (.c (iT (dropR L xs).1)), [], [(d, some (.ab (rcX room (dropR L xs).2)))], []⟩ :=
  fnh_ex hd (rcX_st _ _) (rcX_st _ _) fun b => rdropB (by rw [lookH_cons, if_pos rfl]) ok (hr.cons hd (exP_stable (rcX_st _ _)) fun v F w h => ⟨b, h⟩) zx
end
end Cw
