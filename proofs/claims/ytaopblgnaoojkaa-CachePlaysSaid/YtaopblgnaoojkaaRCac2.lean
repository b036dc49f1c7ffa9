/- The document's cache: Put. -/
import Derived.Test.YtaopblgnaoojkaaRCac
namespace Cw
open Go Vc
open Go.Proofs
set_option maxRecDepth 100000
/-- The first that may go stands at i. -/
theorem old_at {L : List (Int × Bd)} {i : Nat} (h : i < L.length) (h1 : ∀ j (hj : j < L.length), j < i → bfr L[j].2 = false) (h2 : bfr L[i].2 = true) : oldL L = L[i].1 := by
  have : L.find? (fun p => bfr p.2) = some L[i] := by
    rw [List.find?_eq_some_iff_getElem]
    exact ⟨h2, i, h, rfl, fun j hj => by rw [h1 j (by omega) hj]; rfl⟩
  rw [oldL, this]
theorem old_none {L : List (Int × Bd)} (h1 : ∀ j (hj : j < L.length), bfr L[j].2 = false) : oldL L = -1 := by
  have : L.find? (fun p => bfr p.2) = none := by
    rw [List.find?_eq_none]
    intro p hp
    obtain ⟨j, hj, rfl⟩ := List.mem_iff_getElem.1 hp
    rw [h1 j hj]
    exact Bool.false_ne_true
  rw [oldL, this]
theorem del_at {L : List (Int × Bd)} (hn : (L.map Prod.fst).Nodup) {i : Nat} (h : i < L.length) : gdel L[i].1 L = L.eraseIdx i := by
  rcases fxC_ok L[i].1 L with ⟨h1, _⟩ | ⟨j, h0, h1, h2, h3, h4, _⟩
  · have := gget_nd (k := L[i].1) (x := L[i].2) hn (List.getElem_mem h)
    rw [h1] at this
    cases this
  · have : j = i := by
      have hj : j < (L.map Prod.fst).length := by simpa using h0
      have hi : i < (L.map Prod.fst).length := by simpa using h
      exact (List.getElem_inj (h₀ := hj) (h₁ := hi) hn).1 (by simpa using h3)
    rw [h4, this]
theorem er_len {L : List (Int × Bd)} {i : Nat} (z : L.length ≤ 256) : 0 + (L.eraseIdx i).length + 1 ≤ maxLen ∧ (0 + (L.eraseIdx i).length + 1) * 40 ≤ 140737488355328 ∧ 0 + (L.eraseIdx i).length ≤ maxLen ∧ (0 + (L.eraseIdx i).length) * 40 ≤ 140737488355328 := by
  have hle : (L.eraseIdx i).length ≤ L.length := (List.eraseIdx_sublist L i).length_le
  generalize (L.eraseIdx i).length = m at *
  refine ⟨?_, by omega, ?_, by omega⟩ <;> (simp only [maxLen]; omega)
section
variable {H : HL} {nx d b : Nat} {n room : Int} {L : List (Int × Bd)} {k : Int} {s : ByteArray} {dy : Bool}
set_option maxRecDepth 100000 in
set_option maxHeartbeats 400000 in
theorem rputRange (hd : lookH H d = some (true, .ab (rcP room L b))) (hk : k < 0 ∨ 2048 ≤ k) :
    FnH Try.prog 28 [.c (.nm d), .c (iT k), .c (.s s), .c (.b dy)] H nx ⟨.tup [.c (iT (0)), .c (iT (1))], [], [(d, some (.ab (rcP room (L) b)))], []⟩ := by
  refine fnA (fn := Try.f28) 129 rfl rfl rfl hd (ptr b) (rc_pins _ _ _) (rc_pins _ _ _) rfl rfl rfl (v' := .tup [.c (iT (0)), .c (iT (1))]) (news' := []) rfl rfl rfl rfl fun w Wr => ?_
  have hc : (decide (k < 0) || decide (2048 ≤ k)) = true := by rw [Bool.or_eq_true, decide_eq_true_eq, decide_eq_true_eq]; exact hk
  refine rn [(19, .dec true)] rfl (by (repeat' (first | exact trivial | exact rfl | exact hc | exact fun _ => hc | refine And.intro ?_ ?_))) ?_
  exact retM tysOk [(0, 0)] rfl (by repeat' (first | exact trivial | exact rfl | refine And.intro ?_ ?_)) (by repeat' (first | exact trivial | exact rfl | refine And.intro ?_ ?_)) rfl rfl
set_option maxRecDepth 100000 in
set_option maxHeartbeats 400000 in
theorem rputForm (hd : lookH H d = some (true, .ab (rcP room L b))) (hk : ¬ (k < 0 ∨ 2048 ≤ k)) (hs : s.size ≠ 64) :
    FnH Try.prog 28 [.c (.nm d), .c (iT k), .c (.s s), .c (.b dy)] H nx ⟨.tup [.c (iT (0)), .c (iT (3))], [], [(d, some (.ab (rcP room (L) b)))], []⟩ := by
  refine fnA (fn := Try.f28) 129 rfl rfl rfl hd (ptr b) (rc_pins _ _ _) (rc_pins _ _ _) rfl rfl rfl (v' := .tup [.c (iT (0)), .c (iT (3))]) (news' := []) rfl rfl rfl rfl fun w Wr => ?_
  have hc : (decide (k < 0) || decide (2048 ≤ k)) = false := by rw [Bool.or_eq_false_iff]; exact ⟨decide_eq_false (by omega), decide_eq_false (by omega)⟩
  have g1 : ((s.size : Int) != 64) = true := by simp; omega
  refine rn [(19, .dec false), (22, .dec true)] rfl (by (repeat' (first | exact trivial | exact rfl | exact hc | exact fun _ => hc | exact g1 | refine And.intro ?_ ?_))) ?_
  exact retM tysOk [(0, 0)] rfl (by repeat' (first | exact trivial | exact rfl | refine And.intro ?_ ?_)) (by repeat' (first | exact trivial | exact rfl | refine And.intro ?_ ?_)) rfl rfl
set_option maxRecDepth 100000 in
set_option maxHeartbeats 400000 in
theorem rputT (hd : lookH H d = some (true, .ab (rcP room L b))) (z : L.length ≤ 256) (hk : ¬ (k < 0 ∨ 2048 ≤ k)) (hs : ¬ s.size ≠ 64) {i : Nat} (h0 : i < L.length) (h1 : L.findIdx (fun p => p.1 == k) = i) (h3 : L[i].1 = k) (h4 : gdel k L = L.eraseIdx i) (hxd : L[i].2.d = true) :
    FnH Try.prog 28 [.c (.nm d), .c (iT k), .c (.s s), .c (.b dy)] H nx ⟨.tup [.c (iT (-1)), .c (iT (0))], [], [(d, some (.ab (rcP room (gdel k L ++ [(k, ⟨s, true || dy, L[i].2.h⟩)]) b)))], []⟩ := by
  refine fnA (fn := Try.f28) 129 rfl rfl rfl hd (ptr b) (rc_pins _ _ _) (rc_pins _ _ _) rfl rfl rfl (v' := .tup [.c (iT (-1)), .c (iT (0))]) (news' := []) rfl rfl rfl rfl fun w Wr => ?_
  have hc : (decide (k < 0) || decide (2048 ≤ k)) = false := by rw [Bool.or_eq_false_iff]; exact ⟨decide_eq_false (by omega), decide_eq_false (by omega)⟩
  have g1 : ((s.size : Int) != 64) = false := by simp; omega
  refine At.unfoldTo 0 (L1 := (0, .t (.c (.p 1 0))) :: [(1, .t (.c (iT k))), (2, .t (.c (.s s))), (3, .t (.c (.b dy)))]) (H1 := [(1, some (true, .cells [iT room, .nm 2] 67)), (2, some (true, .own 73 4 L.length (rcs L))), (3, some (false, .pin 1 b)), (0, none), (0, some (true, .ab (rcP room L b)))]) (nx1 := 4) rfl rfl rfl rfl rfl rfl ?_
  have hfi := rcfi (room := room) z k
  have e0 : fxC k L = (i : Nat) := by rw [fxC, h1, if_pos h0]
  have hwi := rcwi (room := room) z h0
  rw [e0] at hfi
  rw [h4]
  have r1 := rcs_rd h0
  have g3 : decide ((0 : Int) ≤ (i : Int)) = true := decide_eq_true (by omega)
  have c0 : (0 : Int) ≤ (i : Int) := by omega
  have c1 : (i : Int) < (L.length : Int) := by omega
  have c5 : (i : Int).toNat * 4 < (rcs L).length := by rw [rcs_length]; omega
  have o1 := rcs_one (L.eraseIdx i)
  have hle : (L.eraseIdx i).length ≤ L.length := (List.eraseIdx_sublist L i).length_le
  have m1 : (L.eraseIdx i).length + 1 ≤ maxLen := by simp [maxLen]; omega
  have m2 : ((L.eraseIdx i).length + 1) * 40 ≤ 140737488355328 := by omega
  have r1' : Vc.rowAt (rcs L) ((i : Int).toNat * 4) [iT k, .s L[i].2.s, .b true, iT L[i].2.h] := by rw [← h3, ← hxd]; exact r1
  have o2 := oneC_one (k, ⟨s, true, L[i].2.h⟩)
  have e5 : (L.eraseIdx i).length + 1 = (L.eraseIdx i ++ [(k, (⟨s, true || dy, L[i].2.h⟩ : Bd))]).length := by simp
  have e6 := rcs_app (L.eraseIdx i) (k, ⟨s, true || dy, L[i].2.h⟩)
  refine rn [(19, .dec false), (22, .dec false), (25, .spec ⟨.t (.c (iT (i : Nat))), [], [], []⟩), (27, .dec true), (34, .ld [iT k, .s L[i].2.s, .b true, iT L[i].2.h]), (39, .dec true), (46, .spec ⟨.t (.c (.nm 5)), [(true, .own 73 4 (L.eraseIdx i).length (rcs (L.eraseIdx i)))], [], []⟩), (48, .dec true)] rfl (by (repeat' (first | exact trivial | exact rfl | exact hc | exact fun _ => hc | first | exact g1 | exact g3 | exact hfi _ _ rfl rfl | exact hwi _ _ rfl rfl | exact r1' | exact c0 | exact c1 | exact c5 | exact m1 | exact m2 | exact o1 | exact o2 | decide | refine And.intro ?_ ?_))) ?_
  refine Done.fold [(0, 1), (1, 7), (2, 3)] (rcO room (L.eraseIdx i ++ [(k, (⟨s, true || dy, L[i].2.h⟩ : Bd))]) b) (.p 0 0) (by (repeat' (first | exact trivial | exact rfl | exact trivial | exact fun _ => trivial | first | exact e5 | exact e6 | refine And.intro ?_ ?_))) rfl rfl (fun _ => rfl) ?_
  exact retM tysOk [(0, 8)] rfl (by (repeat' (first | exact trivial | exact rfl | exact trivial | exact fun _ => trivial | first | exact e5 | exact e6 | refine And.intro ?_ ?_))) (by repeat' (first | exact trivial | exact rfl | refine And.intro ?_ ?_)) rfl rfl
set_option maxRecDepth 100000 in
set_option maxHeartbeats 400000 in
theorem rputF (hd : lookH H d = some (true, .ab (rcP room L b))) (z : L.length ≤ 256) (hk : ¬ (k < 0 ∨ 2048 ≤ k)) (hs : ¬ s.size ≠ 64) {i : Nat} (h0 : i < L.length) (h1 : L.findIdx (fun p => p.1 == k) = i) (h3 : L[i].1 = k) (h4 : gdel k L = L.eraseIdx i) (hxd : L[i].2.d = false) :
    FnH Try.prog 28 [.c (.nm d), .c (iT k), .c (.s s), .c (.b dy)] H nx ⟨.tup [.c (iT (-1)), .c (iT (0))], [], [(d, some (.ab (rcP room (gdel k L ++ [(k, ⟨s, false || dy, L[i].2.h⟩)]) b)))], []⟩ := by
  refine fnA (fn := Try.f28) 129 rfl rfl rfl hd (ptr b) (rc_pins _ _ _) (rc_pins _ _ _) rfl rfl rfl (v' := .tup [.c (iT (-1)), .c (iT (0))]) (news' := []) rfl rfl rfl rfl fun w Wr => ?_
  have hc : (decide (k < 0) || decide (2048 ≤ k)) = false := by rw [Bool.or_eq_false_iff]; exact ⟨decide_eq_false (by omega), decide_eq_false (by omega)⟩
  have g1 : ((s.size : Int) != 64) = false := by simp; omega
  refine At.unfoldTo 0 (L1 := (0, .t (.c (.p 1 0))) :: [(1, .t (.c (iT k))), (2, .t (.c (.s s))), (3, .t (.c (.b dy)))]) (H1 := [(1, some (true, .cells [iT room, .nm 2] 67)), (2, some (true, .own 73 4 L.length (rcs L))), (3, some (false, .pin 1 b)), (0, none), (0, some (true, .ab (rcP room L b)))]) (nx1 := 4) rfl rfl rfl rfl rfl rfl ?_
  have hfi := rcfi (room := room) z k
  have e0 : fxC k L = (i : Nat) := by rw [fxC, h1, if_pos h0]
  have hwi := rcwi (room := room) z h0
  rw [e0] at hfi
  rw [h4]
  have r1 := rcs_rd h0
  have g3 : decide ((0 : Int) ≤ (i : Int)) = true := decide_eq_true (by omega)
  have c0 : (0 : Int) ≤ (i : Int) := by omega
  have c1 : (i : Int) < (L.length : Int) := by omega
  have c5 : (i : Int).toNat * 4 < (rcs L).length := by rw [rcs_length]; omega
  have o1 := rcs_one (L.eraseIdx i)
  have hle : (L.eraseIdx i).length ≤ L.length := (List.eraseIdx_sublist L i).length_le
  have m1 : (L.eraseIdx i).length + 1 ≤ maxLen := by simp [maxLen]; omega
  have m2 : ((L.eraseIdx i).length + 1) * 40 ≤ 140737488355328 := by omega
  have r1' : Vc.rowAt (rcs L) ((i : Int).toNat * 4) [iT k, .s L[i].2.s, .b false, iT L[i].2.h] := by rw [← h3, ← hxd]; exact r1
  have o2 := oneC_one (k, ⟨s, dy, L[i].2.h⟩)
  have e5 : (L.eraseIdx i).length + 1 = (L.eraseIdx i ++ [(k, (⟨s, false || dy, L[i].2.h⟩ : Bd))]).length := by simp
  have e6 := rcs_app (L.eraseIdx i) (k, ⟨s, false || dy, L[i].2.h⟩)
  refine rn [(19, .dec false), (22, .dec false), (25, .spec ⟨.t (.c (iT (i : Nat))), [], [], []⟩), (27, .dec true), (34, .ld [iT k, .s L[i].2.s, .b false, iT L[i].2.h]), (39, .dec false), (46, .spec ⟨.t (.c (.nm 5)), [(true, .own 73 4 (L.eraseIdx i).length (rcs (L.eraseIdx i)))], [], []⟩), (48, .dec true)] rfl (by (repeat' (first | exact trivial | exact rfl | exact hc | exact fun _ => hc | first | exact g1 | exact g3 | exact hfi _ _ rfl rfl | exact hwi _ _ rfl rfl | exact r1' | exact c0 | exact c1 | exact c5 | exact m1 | exact m2 | exact o1 | exact o2 | decide | refine And.intro ?_ ?_))) ?_
  refine Done.fold [(0, 1), (1, 7), (2, 3)] (rcO room (L.eraseIdx i ++ [(k, (⟨s, false || dy, L[i].2.h⟩ : Bd))]) b) (.p 0 0) (by (repeat' (first | exact trivial | exact rfl | exact trivial | exact fun _ => trivial | first | exact e5 | exact e6 | refine And.intro ?_ ?_))) rfl rfl (fun _ => rfl) ?_
  exact retM tysOk [(0, 8)] rfl (by (repeat' (first | exact trivial | exact rfl | exact trivial | exact fun _ => trivial | first | exact e5 | exact e6 | refine And.intro ?_ ?_))) (by repeat' (first | exact trivial | exact rfl | refine And.intro ?_ ?_)) rfl rfl
set_option maxRecDepth 100000 in
set_option maxHeartbeats 400000 in
theorem rputRoom (hd : lookH H d = some (true, .ab (rcP room L b))) (z : L.length ≤ 256) (hk : ¬ (k < 0 ∨ 2048 ≤ k)) (hs : ¬ s.size ≠ 64) (h1 : gget k L = none) (h2 : L.findIdx (fun p => p.1 == k) = L.length) (h3 : (L.length : Int) < room) :
    FnH Try.prog 28 [.c (.nm d), .c (iT k), .c (.s s), .c (.b dy)] H nx ⟨.tup [.c (iT (-1)), .c (iT (0))], [], [(d, some (.ab (rcP room (L ++ [(k, ⟨s, dy, 0⟩)]) b)))], []⟩ := by
  refine fnA (fn := Try.f28) 129 rfl rfl rfl hd (ptr b) (rc_pins _ _ _) (rc_pins _ _ _) rfl rfl rfl (v' := .tup [.c (iT (-1)), .c (iT (0))]) (news' := []) rfl rfl rfl rfl fun w Wr => ?_
  have hc : (decide (k < 0) || decide (2048 ≤ k)) = false := by rw [Bool.or_eq_false_iff]; exact ⟨decide_eq_false (by omega), decide_eq_false (by omega)⟩
  have g1 : ((s.size : Int) != 64) = false := by simp; omega
  refine At.unfoldTo 0 (L1 := (0, .t (.c (.p 1 0))) :: [(1, .t (.c (iT k))), (2, .t (.c (.s s))), (3, .t (.c (.b dy)))]) (H1 := [(1, some (true, .cells [iT room, .nm 2] 67)), (2, some (true, .own 73 4 L.length (rcs L))), (3, some (false, .pin 1 b)), (0, none), (0, some (true, .ab (rcP room L b)))]) (nx1 := 4) rfl rfl rfl rfl rfl rfl ?_
  have hfi := rcfi (room := room) z k
  have e0 : fxC k L = -1 := by rw [fxC, if_neg (by omega)]
  rw [e0] at hfi
  have o1 := rcs_one L
  have o2 := oneC_one (k, ⟨s, dy, 0⟩)
  have m1 : 0 + L.length + 1 ≤ maxLen := by simp [maxLen]; omega
  have m2 : (0 + L.length + 1) * 40 ≤ 140737488355328 := by omega
  have m3 : 0 + L.length ≤ maxLen := by simp [maxLen]; omega
  have m4 : (0 + L.length) * 40 ≤ 140737488355328 := by omega
  have e5 : 0 + L.length + 1 = (L ++ [(k, (⟨s, dy, 0⟩ : Bd))]).length := by simp
  have e6 : app (app [] (rcs L)) (oneC (k, ⟨s, dy, 0⟩)) = rcs (L ++ [(k, ⟨s, dy, 0⟩)]) := by rw [show app [] (rcs L) = rcs L by rw [app_eq]; rfl]; exact rcs_app L _
  have g2 : decide (room ≤ (L.length : Int)) = false := decide_eq_false (by omega)
  refine rn [(19, .dec false), (22, .dec false), (25, .spec ⟨.t (.c (iT (-1))), [], [], []⟩), (27, .dec false), (61, .dec false), (114, .dec true), (124, .dec true)] rfl (by (repeat' (first | exact trivial | exact rfl | exact hc | exact fun _ => hc | first | exact g1 | exact g2 | exact hfi _ _ rfl rfl | exact m1 | exact m2 | exact m3 | exact m4 | exact o1 | exact o2 | decide | refine And.intro ?_ ?_))) ?_
  refine Done.fold [(0, 1), (1, 7), (2, 3)] (rcO room (L ++ [(k, (⟨s, dy, 0⟩ : Bd))]) b) (.p 0 0) (by (repeat' (first | exact trivial | exact rfl | exact trivial | exact fun _ => trivial | first | exact e5 | exact e6 | refine And.intro ?_ ?_))) rfl rfl (fun _ => rfl) ?_
  exact retM tysOk [(0, 8)] rfl (by (repeat' (first | exact trivial | exact rfl | exact trivial | exact fun _ => trivial | first | exact e5 | exact e6 | refine And.intro ?_ ?_))) (by repeat' (first | exact trivial | exact rfl | refine And.intro ?_ ?_)) rfl rfl
set_option maxRecDepth 100000 in
set_option maxHeartbeats 400000 in
theorem rputFull (hd : lookH H d = some (true, .ab (rcP room L b))) (z : L.length ≤ 256) (hk : ¬ (k < 0 ∨ 2048 ≤ k)) (hs : ¬ s.size ≠ 64) (ok : LOk n room L) (h1 : gget k L = none) (h2 : L.findIdx (fun p => p.1 == k) = L.length) (h3 : ¬ (L.length : Int) < room) :
    FnH Try.prog 28 [.c (.nm d), .c (iT k), .c (.s s), .c (.b dy)] H nx ⟨.tup [.c (iT (if oldL L < 0 then 0 else oldL L)), .c (iT (if oldL L < 0 then 50 else 0))], [], [(d, some (.ab (rcP room (if oldL L < 0 then L else gdel (oldL L) L ++ [(k, ⟨s, dy, 0⟩)]) b)))], []⟩ := by
  refine fnA (fn := Try.f28) 129 rfl rfl rfl hd (ptr b) (rc_pins _ _ _) (rc_pins _ _ _) rfl rfl rfl (v' := .tup [.c (iT (if oldL L < 0 then 0 else oldL L)), .c (iT (if oldL L < 0 then 50 else 0))]) (news' := []) rfl rfl rfl rfl fun w Wr => ?_
  have hc : (decide (k < 0) || decide (2048 ≤ k)) = false := by rw [Bool.or_eq_false_iff]; exact ⟨decide_eq_false (by omega), decide_eq_false (by omega)⟩
  have g1 : ((s.size : Int) != 64) = false := by simp; omega
  refine At.unfoldTo 0 (L1 := (0, .t (.c (.p 1 0))) :: [(1, .t (.c (iT k))), (2, .t (.c (.s s))), (3, .t (.c (.b dy)))]) (H1 := [(1, some (true, .cells [iT room, .nm 2] 67)), (2, some (true, .own 73 4 L.length (rcs L))), (3, some (false, .pin 1 b)), (0, none), (0, some (true, .ab (rcP room L b)))]) (nx1 := 4) rfl rfl rfl rfl rfl rfl ?_
  have hfi := rcfi (room := room) z k
  have e0 : fxC k L = -1 := by rw [fxC, if_neg (by omega)]
  rw [e0] at hfi
  have o1 := rcs_one L
  have o2 := oneC_one (k, ⟨s, dy, 0⟩)
  have m1 : 0 + L.length + 1 ≤ maxLen := by simp [maxLen]; omega
  have m2 : (0 + L.length + 1) * 40 ≤ 140737488355328 := by omega
  have m3 : 0 + L.length ≤ maxLen := by simp [maxLen]; omega
  have m4 : (0 + L.length) * 40 ≤ 140737488355328 := by omega
  have e5 : 0 + L.length + 1 = (L ++ [(k, (⟨s, dy, 0⟩ : Bd))]).length := by simp
  have e6 : app (app [] (rcs L)) (oneC (k, ⟨s, dy, 0⟩)) = rcs (L ++ [(k, ⟨s, dy, 0⟩)]) := by rw [show app [] (rcs L) = rcs L by rw [app_eq]; rfl]; exact rcs_app L _
  have g2 : decide (room ≤ (L.length : Int)) = true := decide_eq_true (by omega)
  refine rn [(19, .dec false), (22, .dec false), (25, .spec ⟨.t (.c (iT (-1))), [], [], []⟩), (27, .dec false), (61, .dec true)] rfl (by (repeat' (first | exact trivial | exact rfl | exact hc | exact fun _ => hc | first | exact g1 | exact g2 | exact hfi _ _ rfl rfl | decide | refine And.intro ?_ ?_))) ?_
  refine At.loop (X := (i : Nat) ×' (i ≤ L.length ∧ ∀ j (hj : j < L.length), j < i → bfr L[j].2 = false)) 4 (fun x => L.length - x.1)
    (fun x => [(0, .t (.c (.p 1 0))), (1, .t (.c (iT k))), (2, .t (.c (.s s))), (3, .t (.c (.b dy))), (12, .t (.c (iT (-1)))), (13, .t (.c (iT (x.1 : Nat))))])
    (fun _ => [(1, some (true, .cells [iT room, .nm 2] 67)), (2, some (true, .own 73 4 L.length (rcs L))), (3, some (false, .pin 1 b))]) ⟨0, by omega, fun j _ h => by omega⟩ [] (fun x => wf rfl rfl) (by repeat' (first | exact trivial | exact rfl | refine And.intro ?_ ?_)) (by repeat' (first | exact trivial | exact rfl | refine And.intro ?_ ?_)) rfl fun x => ?_
  obtain ⟨i, hi1, hi2⟩ := x
  have w2 : IntKind.i64.wrap ((i : Int) + 1) = ((i + 1 : Nat) : Int) := by rw [wrap_small (by omega) (by omega)]; omega
  by_cases hlt : i < L.length
  · have q1 := rcs_d hlt
    have q2 := rcs_h hlt
    have hxh := ok.h _ (List.getElem_mem hlt)
    have c0 : (0 : Int) ≤ (i : Int) := by omega
    have c1 : (i : Int) < (L.length : Int) := by omega
    have c5 : (i : Int).toNat * 4 < (rcs L).length := by rw [rcs_length]; omega
    have l1 : decide ((i : Int) < (L.length : Int)) = true := decide_eq_true c1
    by_cases hf : bfr L[i].2 = true
    · have hxd : L[i].2.d = false := by unfold bfr at hf; cases hx : L[i].2.d with | true => rw [hx] at hf; cases hf | false => rfl
      have hxz : L[i].2.h = 0 := by unfold bfr at hf; rw [hxd] at hf; simpa using hf
      rw [hxd] at q1
      rw [hxz] at q2
      have l2 : ((i : Int) == (L.length : Int)) = false := by simp; omega
      have ho := old_at hlt hi2 hf
      have hge := (ok.rg _ (List.getElem_mem hlt)).1
      have hge' : ¬ oldL L < 0 := by rw [ho]; omega
      rw [if_neg hge', if_neg hge', if_neg hge']
      rw [ho, del_at ok.nd hlt]
      have r1 := rcs_at hlt
      have hwi := rcwi (room := room) z hlt
      have o3 := rcs_one (L.eraseIdx i)
      obtain ⟨n1, n2, n3, n4⟩ := er_len (i := i) z
      have e7 : 0 + (L.eraseIdx i).length + 1 = (L.eraseIdx i ++ [(k, (⟨s, dy, 0⟩ : Bd))]).length := by simp
      have e8 : app (app [] (rcs (L.eraseIdx i))) (oneC (k, ⟨s, dy, 0⟩)) = rcs (L.eraseIdx i ++ [(k, ⟨s, dy, 0⟩)]) := by rw [show app [] (rcs (L.eraseIdx i)) = rcs (L.eraseIdx i) by rw [app_eq]; rfl]; exact rcs_app _ _
      refine rn [(69, .dec true), (77, .ld [.b false]), (78, .dec false), (86, .ld [iT 0]), (89, .dec false)] rfl (by (repeat' (first | exact trivial | exact rfl | exact trivial | exact fun _ => trivial | first | exact l1 | exact q1 | exact ⟨q1, trivial⟩ | exact q2 | exact ⟨q2, trivial⟩ | exact c0 | exact c1 | exact c5 | decide | refine And.intro ?_ ?_))) (roundExit rfl ?_)
      refine rnA [(98, .dec false), (106, .ld [iT L[i].1]), (110, .spec ⟨.t (.c (.nm 4)), [(true, .own 73 4 (L.eraseIdx i).length (rcs (L.eraseIdx i)))], [], []⟩), (114, .dec true), (124, .dec true)] rfl (by (repeat' (first | exact trivial | exact rfl | exact l2 | exact fun _ => l2 | first | exact r1 | exact ⟨r1, trivial⟩ | exact hwi _ _ rfl rfl | exact c0 | exact c1 | exact c5 | exact n1 | exact n2 | exact n3 | exact n4 | exact o2 | exact o3 | decide | refine And.intro ?_ ?_))) ?_
      refine Done.fold [(0, 1), (1, 8), (2, 3)] (rcO room (L.eraseIdx i ++ [(k, (⟨s, dy, 0⟩ : Bd))]) b) (.p 0 0) (by (repeat' (first | exact trivial | exact rfl | exact trivial | exact fun _ => trivial | first | exact e7 | exact e8 | refine And.intro ?_ ?_))) rfl rfl (fun _ => rfl) ?_
      exact retM tysOk [(0, 9)] rfl (by (repeat' (first | exact trivial | exact rfl | exact trivial | exact fun _ => trivial | first | exact e7 | exact e8 | refine And.intro ?_ ?_))) (by repeat' (first | exact trivial | exact rfl | refine And.intro ?_ ?_)) rfl rfl
    · have hf' : bfr L[i].2 = false := by simpa using hf
      have next : ∀ j (hj : j < L.length), j < i + 1 → bfr L[j].2 = false := fun j hj h => by
        rcases Nat.lt_or_eq_of_le (Nat.le_of_lt_succ h) with h | rfl
        · exact hi2 j hj h
        · exact hf'
      cases hxd : L[i].2.d with
      | true =>
        rw [hxd] at q1
        refine rn [(69, .dec true), (77, .ld [.b true]), (78, .dec true), (89, .dec true)] rfl (by (repeat' (first | exact trivial | exact rfl | exact trivial | exact fun _ => trivial | first | exact l1 | exact q1 | exact ⟨q1, trivial⟩ | exact c0 | exact c1 | exact c5 | (rw [l1]; rfl) | decide | refine And.intro ?_ ?_))) ?_
        exact roundEnd ⟨i + 1, by omega, next⟩ [] (by show L.length - (i + 1) < L.length - i; omega) (by (repeat' (first | exact trivial | exact rfl | exact w2 | exact fun _ => w2 | refine And.intro ?_ ?_))) (by repeat' (first | exact trivial | exact rfl | refine And.intro ?_ ?_)) rfl
      | false =>
        rw [hxd] at q1
        have hxz : L[i].2.h ≠ 0 := fun e => hf (by unfold bfr; rw [hxd, e]; rfl)
        have g3 : decide (0 < L[i].2.h) = true := decide_eq_true (by omega)
        refine rn [(69, .dec true), (77, .ld [.b false]), (78, .dec false), (86, .ld [iT L[i].2.h]), (89, .dec true)] rfl (by (repeat' (first | exact trivial | exact rfl | exact trivial | exact fun _ => trivial | first | exact l1 | exact q1 | exact ⟨q1, trivial⟩ | exact q2 | exact ⟨q2, trivial⟩ | exact c0 | exact c1 | exact c5 | exact g3 | (rw [l1]; rfl) | (rw [l1, g3]; rfl) | decide | refine And.intro ?_ ?_))) ?_
        exact roundEnd ⟨i + 1, by omega, next⟩ [] (by show L.length - (i + 1) < L.length - i; omega) (by (repeat' (first | exact trivial | exact rfl | exact w2 | exact fun _ => w2 | refine And.intro ?_ ?_))) (by repeat' (first | exact trivial | exact rfl | refine And.intro ?_ ?_)) rfl
  · have hli : i = L.length := by omega
    have ho : oldL L = -1 := old_none fun j hj => hi2 j hj (by omega)
    have hge' : oldL L < 0 := by rw [ho]; decide
    rw [if_pos hge', if_pos hge', if_pos hge']
    have l1 : decide ((i : Int) < (L.length : Int)) = false := decide_eq_false (by omega)
    have l2 : ((i : Int) == (L.length : Int)) = true := by simp; omega
    refine rn [(69, .dec false), (89, .dec false)] rfl (by (repeat' (first | exact trivial | exact rfl | exact trivial | exact fun _ => trivial | first | exact l1 | (rw [l1]; rfl) | decide | refine And.intro ?_ ?_))) (roundExit rfl ?_)
    refine rnA [(98, .dec true)] rfl (by (repeat' (first | exact trivial | exact rfl | exact l2 | exact fun _ => l2 | refine And.intro ?_ ?_))) ?_
    refine Done.fold [(0, 1), (1, 2), (2, 3)] (rcO room (L) b) (.p 0 0) (by (repeat' (first | exact trivial | exact rfl | exact trivial | exact fun _ => trivial | trivial | refine And.intro ?_ ?_))) rfl rfl (fun _ => rfl) ?_
    exact retM tysOk [(0, 4)] rfl (by (repeat' (first | exact trivial | exact rfl | exact trivial | exact fun _ => trivial | trivial | refine And.intro ?_ ?_))) (by repeat' (first | exact trivial | exact rfl | refine And.intro ?_ ?_)) rfl rfl
theorem rputB (hd : lookH H d = some (true, .ab (rcP room L b))) (ok : LOk n room L) :
    FnH Try.prog 28 [.c (.nm d), .c (iT k), .c (.s s), .c (.b dy)] H nx ⟨.tup [.c (iT (putR room L k s dy).1), .c (iT (putR room L k s dy).2.1)], [], [(d, some (.ab (rcP room (putR room L k s dy).2.2 b)))], []⟩ := by
  have z := rclen ok
  unfold putR
  by_cases hk : k < 0 ∨ 2048 ≤ k
  · rw [if_pos hk]; exact rputRange hd hk
  rw [if_neg hk]
  by_cases hs : s.size ≠ 64
  · rw [if_pos hs]; exact rputForm hd hk hs
  rw [if_neg hs]
  rcases fxC_ok k L with ⟨h1, h2⟩ | ⟨i, h0, h1, h2, h3, h4, _⟩
  · rw [h1]
    by_cases h3 : (L.length : Int) < room
    · simp only [if_pos h3]
      exact rputRoom hd z hk hs h1 h2 h3
    · simp only [if_neg h3]
      have := rputFull (nx := nx) (dy := dy) hd z hk hs ok h1 h2 h3
      by_cases h4 : oldL L < 0
      · rw [if_pos h4, if_pos h4, if_pos h4] at this
        simp only [if_pos h4]
        exact this
      · rw [if_neg h4, if_neg h4, if_neg h4] at this
        simp only [if_neg h4]
        exact this
  · rw [h2]
    simp only
    cases hxd : L[i].2.d with
    | true => exact rputT hd z hk hs h0 h1 h3 h4 hxd
    | false => exact rputF hd z hk hs h0 h1 h3 h4 hxd
theorem rputL (hd : lookH H d = some (true, .ab (rcX room L))) (ok : LOk n room L) (hz : n ≤ 1000) (k : Int) (s : ByteArray) (dy : Bool) :
    FnH Try.prog 28 [.c (.nm d), .c (iT k), .c (.s s), .c (.b dy)] H nx ⟨.tup [.c (iT (putR room L k s dy).1), .c (iT (putR room L k s dy).2.1)], [], [(d, some (.ab (rcX room (putR room L k s dy).2.2)))], []⟩ :=
  fnh_ex hd (rcX_st _ _) (rcX_st _ _) fun b => rputB (by rw [lookH_cons, if_pos rfl]) ok
end
end Cw
