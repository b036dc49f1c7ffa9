/- The document's bag: its methods by reckoning. -/
import Derived.Test.YtekgkkohiindkaaBag3
import Derived.Test.YtekgkkohiindkaaWireT
namespace Cw
open Go Vc
open Go.Proofs
set_option maxRecDepth 100000
theorem ivsApp (a b : List Int) : ivs (a ++ b) = ivs a ++ ivs b := by simp [ivs]
def ocell (p : Int × Ms) : List Value := .int .i64 p.1 :: p.2.cells
abbrev ocs (L : List (Int × Ms)) : List Value := fcs ocell L
theorem ocs_len (p : Int × Ms) : (ocell p).length = 7 := rfl
theorem ocs_at {L : List (Int × Ms)} {i : Nat} (h : i < L.length) : (ocs L)[(i : Int).toNat * 7]? = some (.int .i64 L[i].1) := fcs_at (c := 7) (j := 0) ocs_len h rfl
theorem ocs_rd {L : List (Int × Ms)} {i : Nat} (h : i < L.length) : Vc.rowAt (ocs L) ((i : Int).toNat * 7 + 1) L[i].2.cv :=
  have g := fun (j : Nat) (u : Value) (hu : (ocell L[i])[j]? = some u) => fcs_at (c := 7) ocs_len h hu
  ⟨g 1 _ rfl, g 2 _ rfl, g 3 _ rfl, g 4 _ rfl, g 5 _ rfl, g 6 _ rfl, trivial⟩
theorem ocell_one (p : Int × Ms) : ∀ u ∈ ocell p, u.oneCell' = true := by
  intro u hu
  rcases List.mem_cons.1 hu with rfl | hu
  · rfl
  · exact Ms.one p.2 u hu
theorem ocs_one (L : List (Int × Ms)) : ∀ u ∈ ocs L, u.oneCell' = true := by
  intro u hu
  obtain ⟨l, hl, hu⟩ := List.mem_flatten.1 hu
  obtain ⟨p, _, rfl⟩ := List.mem_map.1 hl
  exact ocell_one p u hu
def rbO (room last : Int) (L : List (Int × Ms)) (b : Nat) : List (Bool × Ob) :=
  [(true, .cells [iT room, iT last, .nm 1] 86), (true, .own 88 7 L.length (ocs L)), (false, .pin 0 b)]
def rbP (room last : Int) (L : List (Int × Ms)) (b : Nat) : AbP := absP (rbO room last L b) (.p 0 0)
theorem rb_pins (room last : Int) (L : List (Int × Ms)) (b : Nat) : Pins (rbP room last L b) (ptr b) := pins_abs (k := 2) rfl
def rbX (room last : Int) (L : List (Int × Ms)) : AbP := exP (rbP room last L)
theorem rnewBad {H : HL} {nx : Nat} {n : Int} (h : n < 1 ∨ 1024 < n) : FnH Try.prog 16 [.c (iT n)] H nx ⟨.tup [.c .np, .c (iT 1)], [], [], []⟩ := by
  refine fnR (fn := Try.f16) 13 rfl rfl rfl (args' := [.c (iT n)]) (H' := []) (nx' := 0) (fun e w M => ⟨e, ⟨fun n b o h => (by cases h), fun n o m c q h => (by cases h)⟩, rfl⟩) rfl rfl rfl rfl fun w => ?_
  have hc : (decide (n < 1) || decide (1024 < n)) = true := by rw [Bool.or_eq_true, decide_eq_true_eq, decide_eq_true_eq]; exact h
  refine rn [(9, .dec true)] rfl (by (repeat' (first | exact trivial | exact rfl | exact hc | exact fun _ => hc | refine And.intro ?_ ?_))) ?_
  exact ret0 tysOk rfl (by repeat' (first | exact trivial | exact rfl | refine And.intro ?_ ?_)) rfl
theorem rnewA {H : HL} {nx : Nat} {n : Int} (h0 : 1 ≤ n) (h1 : n ≤ 1024) : FnH Try.prog 16 [.c (iT n)] H nx ⟨.tup [.c (.nm nx), .c (iT 0)], [(true, .ab (rbX n 0 []))], [], []⟩ := by
  refine fnM (fn := Try.f16) 13 rfl rfl rfl (args' := [.c (iT n)]) (H' := []) (nx' := 0) [] (fun e w M => ⟨e, ⟨fun n b o h => (by cases h), fun n o m c q h => (by cases h)⟩, rfl⟩) rfl rfl rfl (fun e w M u hu => by cases hu) (fun u hu => by cases hu) (by simp) (v' := .tup [.c (.nm 0), .c (iT 0)]) (news' := [(true, .ab (rbX n 0 []))]) rfl rfl rfl rfl rfl fun w Wr => ?_
  have hc : (decide (n < 1) || decide (1024 < n)) = false := by
    rw [Bool.or_eq_false_iff]
    exact ⟨decide_eq_false (by omega), decide_eq_false (by omega)⟩
  refine rn [(9, .dec false)] rfl (by (repeat' (first | exact trivial | exact rfl | exact hc | exact fun _ => hc | refine And.intro ?_ ?_))) ?_
  refine Done.nilCell 0 2 88 7 rfl rfl rfl ?_
  refine Done.pin 0 rfl fun b => ?_
  refine Done.foldR 2 (.p 0 0) [(0, 0), (1, 1), (2, 2)] (rbO n 0 [] b) (.p 0 0) rfl (by repeat' (first | exact trivial | exact rfl | refine And.intro ?_ ?_)) (by repeat' (first | exact trivial | exact rfl | refine And.intro ?_ ?_)) rfl rfl (fun _ => rfl) ?_
  refine Done.weak 3 (φ' := rbX n 0 []) rfl (exP_stable fun b => absP_stable _ _) (fun v F w h => ⟨b, h⟩) ?_
  exact retM tysOk [(0, 3)] rfl (by repeat' (first | exact trivial | exact rfl | refine And.intro ?_ ?_)) (by repeat' (first | exact trivial | exact rfl | refine And.intro ?_ ?_)) rfl rfl
section
variable {H : HL} {nx d l b : Nat} {b1 b2 : Bool} {room last : Int} {L : List (Int × Ms)}
/-- The place of a number. -/
def fxF (k : Int) (L : List (Int × Ms)) : Int := if L.findIdx (fun p => p.1 == k) < L.length then (L.findIdx (fun p => p.1 == k) : Nat) else -1
theorem memRB (hd : lookH H d = some (b1, .cells [iT room, iT last, .nm l] 86)) (hl : lookH H l = some (b2, .own 88 7 L.length (ocs L))) :
    rdsOk (r2 d l) H [(0, some (false, .cells [iT room, iT last, .nm 1] 86)), (1, some (false, .own 88 7 L.length (ocs L)))] := ⟨⟨b1, hd⟩, ⟨b2, hl⟩, trivial⟩
set_option maxRecDepth 100000 in
set_option maxHeartbeats 1000000 in
theorem rfindU (hd : lookH H d = some (b1, .cells [iT room, iT last, .nm l] 86)) (hl : lookH H l = some (b2, .own 88 7 L.length (ocs L))) (z : L.length ≤ 1000000) (k : Int) :
    FnH Try.prog 44 [.c (.p d 0), .c (iT k)] H nx ⟨.t (.c (iT (fxF k L))), [], [], []⟩ := by
  refine fnR (fn := Try.f44) 26 rfl rfl rfl (args' := [.c (.p 0 0), .c (iT k)]) (H' := [(0, some (false, .cells [iT room, iT last, .nm 1] 86)), (1, some (false, .own 88 7 L.length (ocs L)))]) (nx' := 2) (fun e w M => ⟨_, mem_rd (r2 d l) (memRB hd hl) M, rfl⟩) rfl rfl rfl rfl fun w => ?_
  refine rn [] rfl (by repeat' (first | exact trivial | exact rfl | refine And.intro ?_ ?_)) ?_
  refine At.loop (X := (i : Nat) ×' (i ≤ L.length ∧ i ≤ L.findIdx (fun p => p.1 == k))) 2 (fun s => L.length - s.1)
    (fun s => [(0, .t (.c (.p 0 0))), (1, .t (.c (iT k))), (5, .t (.c (iT (s.1 : Nat))))])
    (fun _ => [(0, some (false, .cells [iT room, iT last, .nm 1] 86)), (1, some (false, .own 88 7 L.length (ocs L)))]) ⟨0, by omega, by omega⟩ [] (fun s => wf rfl rfl) (by repeat' (first | exact trivial | exact rfl | refine And.intro ?_ ?_)) (by repeat' (first | exact trivial | exact rfl | refine And.intro ?_ ?_)) rfl fun s => ?_
  obtain ⟨i, h1, h2⟩ := s
  have w2 : IntKind.i64.wrap ((i : Int) + 1) = ((i + 1 : Nat) : Int) := by rw [wrap_sm (by omega) (by omega)]; omega
  refine rn [] rfl (by repeat' (first | exact trivial | exact rfl | refine And.intro ?_ ?_)) ?_
  refine ⟨fun h => ?_, fun h => ?_⟩
  · have hlt : i < L.length := by have : (i : Int) < (L.length : Int) := of_decide_eq_true h; omega
    have e1 := ocs_at hlt
    have b0 : (0 : Int) ≤ (i : Int) := by omega
    have b1 : (i : Int) < (L.length : Int) := by omega
    have b2 : (i : Int).toNat * 7 < (ocs L).length := by rw [fcs_length ocs_len]; omega
    refine rn [(22, .ld [iT L[i].1])] rfl (by (repeat' (first | exact trivial | exact rfl | exact e1 | exact fun _ => e1 | first | exact ⟨e1, trivial⟩ | exact b0 | exact b1 | exact b2 | decide | refine And.intro ?_ ?_))) ?_
    refine ⟨fun h => ?_, fun h => ?_⟩
    · have h' : (L[i].1 == k) = true := h
      have e2 : L.findIdx (fun p => p.1 == k) = i := (List.findIdx_eq hlt).2 ⟨h', fun j hj => by have := List.not_of_lt_findIdx (p := fun p : Int × Ms => p.1 == k) (xs := L) (i := j) (by omega); simpa using this⟩
      have e3 : fxF k L = (i : Int) := by rw [fxF, e2, if_pos hlt]
      refine rn [] rfl (by repeat' (first | exact trivial | exact rfl | refine And.intro ?_ ?_)) (roundRet ?_)
      rw [e3]
      exact ret0 tysOk rfl (by repeat' (first | exact trivial | exact rfl | refine And.intro ?_ ?_)) rfl
    · have h' : (L[i].1 == k) = false := h
      have hne : i + 1 ≤ L.findIdx (fun p => p.1 == k) := by
        rcases Nat.lt_or_eq_of_le h2 with h | h
        · omega
        · have := List.findIdx_getElem (p := fun p : Int × Ms => p.1 == k) (xs := L) (w := by omega)
          simp only [← h] at this
          rw [h'] at this
          cases this
      refine rn [] rfl (by repeat' (first | exact trivial | exact rfl | refine And.intro ?_ ?_)) ?_
      refine roundEnd ⟨i + 1, by omega, hne⟩ [] (by show L.length - (i + 1) < L.length - i; omega) (by (repeat' (first | exact trivial | exact rfl | exact w2 | exact fun _ => w2 | refine And.intro ?_ ?_))) (by repeat' (first | exact trivial | exact rfl | refine And.intro ?_ ?_)) rfl
  · have hlt : i = L.length := by have : ¬ (i : Int) < (L.length : Int) := of_decide_eq_false h; omega
    have e3 : fxF k L = -1 := by rw [fxF, if_neg (by omega)]
    refine rn [] rfl (by repeat' (first | exact trivial | exact rfl | refine And.intro ?_ ?_)) (roundExit rfl ?_)
    refine rnA [] rfl (by repeat' (first | exact trivial | exact rfl | refine And.intro ?_ ?_)) ?_
    rw [e3]
    exact ret0 tysOk rfl (by repeat' (first | exact trivial | exact rfl | refine And.intro ?_ ?_)) rfl
set_option maxRecDepth 100000 in
set_option maxHeartbeats 2000000 in
theorem rsendA (hd : lookH H d = some (true, .ab (rbP room last L b))) (h : BOk room last L) (hz : last ≤ 1000000) (m : Ms) :
    FnH Try.prog 17 [.c (.nm d), msT m] H nx ⟨.tup [.c (iT (bsN room last L m)), .c (iT (bsE room L m))], [], [(d, some (.ab (rbP room (bsT room last L m) (bsL room last L m) b)))], []⟩ := by
  refine fnA (fn := Try.f17) 50 rfl rfl rfl hd (ptr b) (rb_pins _ _ _ _) (rb_pins _ _ _ _) rfl rfl rfl (v' := .tup [.c (iT (bsN room last L m)), .c (iT (bsE room L m))]) (news' := []) rfl rfl rfl rfl fun w Wr => ?_
  refine At.unfoldTo 0 (L1 := (0, .t (.c (.p 1 0))) :: [(1, .t (msT m))]) (H1 := [(1, some (true, .cells [iT room, iT last, .nm 2] 86)), (2, some (true, .own 88 7 L.length (ocs L))), (3, some (false, .pin 1 b)), (0, none), (0, some (true, .ab (rbP room last L b)))]) (nx1 := 4) rfl rfl rfl rfl rfl rfl ?_
  have hc := rwcheck0 m
  by_cases h1 : mcheck m = 0
  · rw [h1] at hc
    by_cases h2 : room ≤ (L.length : Int)
    · have e1 : bsE room L m = 220 := by rw [bsE, if_pos h1, if_pos h2]
      have e2 : bsN room last L m = 0 := by rw [bsN, e1]; rfl
      have e3 : bsT room last L m = last := by rw [bsT, e1]; rfl
      have e4 : bsL room last L m = L := by rw [bsL, e1]; rfl
      rw [e1, e2, e3, e4]
      have g1 : decide (room ≤ (L.length : Int)) = true := decide_eq_true h2
      refine rn [(8, .ret (.t (.c (iT 0)))), (10, .dec false), (21, .dec true)] rfl (by (repeat' (first | exact trivial | exact rfl | exact hc | exact fun _ => hc | first | exact g1 | rfl | refine And.intro ?_ ?_))) ?_
      refine Done.fold [(0, 1), (1, 2), (2, 3)] (rbO room (last) (L) b) (.p 0 0) (by repeat' (first | exact trivial | exact rfl | refine And.intro ?_ ?_)) rfl rfl (fun _ => rfl) ?_
      exact retM tysOk [(0, 5)] rfl (by repeat' (first | exact trivial | exact rfl | refine And.intro ?_ ?_)) (by repeat' (first | exact trivial | exact rfl | refine And.intro ?_ ?_)) rfl rfl
    · have e1 : bsE room L m = 0 := by rw [bsE, if_pos h1, if_neg h2]
      have e2 : bsN room last L m = last + 1 := by rw [bsN, e1]; rfl
      have e3 : bsT room last L m = last + 1 := by rw [bsT, e1]; rfl
      have e4 : bsL room last L m = L ++ [(last + 1, m)] := by rw [bsL, e1]; rfl
      rw [e1, e2, e3, e4]
      have g1 : decide (room ≤ (L.length : Int)) = false := decide_eq_false h2
      have w1 : IntKind.i64.wrap (last + 1) = last + 1 := wrap_sm (by have := h.l0; omega) (by omega)
      have hlz : L.length ≤ 1024 := by have := h.len; have := h.r2; omega
      have m1 : 0 + L.length + 1 ≤ maxLen := by simp [maxLen]; omega
      have m2 : (0 + L.length + 1) * 56 ≤ 140737488355328 := by omega
      have m3 : 0 + L.length ≤ maxLen := by simp [maxLen]; omega
      have m4 : (0 + L.length) * 56 ≤ 140737488355328 := by omega
      have o1 := ocs_one L
      have o2 := ocell_one (IntKind.i64.wrap (last + 1), m)
      have e5 : 0 + L.length + 1 = (L ++ [(last + 1, m)]).length := by simp
      have e6 : app (app [] (ocs L)) (ocell (IntKind.i64.wrap (last + 1), m)) = ocs (L ++ [(last + 1, m)]) := by rw [w1, app_eq, app_eq, List.nil_append]; exact (fcs_app ocell L (last + 1, m)).symm
      refine rn [(8, .ret (.t (.c (iT 0)))), (10, .dec false), (21, .dec false), (30, .dec true), (42, .dec true)] rfl (by (repeat' (first | exact trivial | exact rfl | exact hc | exact fun _ => hc | first | exact g1 | exact m1 | exact m2 | exact m3 | exact m4 | exact o1 | exact o2 | rfl | refine And.intro ?_ ?_))) ?_
      refine Done.fold [(0, 1), (1, 8), (2, 3)] (rbO room (last + 1) (L ++ [(last + 1, m)]) b) (.p 0 0) (by (repeat' (first | exact trivial | exact rfl | exact w1 | exact fun _ => w1 | first | exact e5 | exact e6 | refine And.intro ?_ ?_))) rfl rfl (fun _ => rfl) ?_
      exact retM tysOk [(0, 9)] rfl (by (repeat' (first | exact trivial | exact rfl | exact w1 | exact fun _ => w1 | refine And.intro ?_ ?_))) (by repeat' (first | exact trivial | exact rfl | refine And.intro ?_ ?_)) rfl rfl
  · have e1 : bsE room L m = mcheck m := by rw [bsE, if_neg h1]
    have e2 : bsN room last L m = 0 := by rw [bsN, e1, if_neg h1]
    have e3 : bsT room last L m = last := by rw [bsT, e1, if_neg h1]
    have e4 : bsL room last L m = L := by rw [bsL, e1, if_neg h1]
    rw [e1, e2, e3, e4]
    have g1 : (mcheck m != 0) = true := by simpa using h1
    refine rn [(8, .ret (.t (.c (iT (mcheck m))))), (10, .dec true)] rfl (by (repeat' (first | exact trivial | exact rfl | exact hc | exact fun _ => hc | exact g1 | refine And.intro ?_ ?_))) ?_
    refine Done.fold [(0, 1), (1, 2), (2, 3)] (rbO room (last) (L) b) (.p 0 0) (by repeat' (first | exact trivial | exact rfl | refine And.intro ?_ ?_)) rfl rfl (fun _ => rfl) ?_
    exact retM tysOk [(0, 5)] rfl (by repeat' (first | exact trivial | exact rfl | refine And.intro ?_ ?_)) (by repeat' (first | exact trivial | exact rfl | refine And.intro ?_ ?_)) rfl rfl
end
theorem fx_ok (k : Int) : ∀ L : List (Int × Ms), (gget k L = none ∧ L.findIdx (fun p => p.1 == k) = L.length) ∨ ∃ i, ∃ h : i < L.length, L.findIdx (fun p => p.1 == k) = i ∧ gget k L = some L[i].2 ∧ gdel k L = L.eraseIdx i
  | [] => .inl ⟨rfl, rfl⟩
  | (q, x) :: l => by
    by_cases hq : q = k
    · refine .inr ⟨0, by simp, by simp [List.findIdx_cons, hq], by simp [gget, hq], by simp [gdel, hq]⟩
    · have hb : (q == k) = false := by simpa using hq
      rcases fx_ok k l with ⟨h1, h2⟩ | ⟨i, h0, h1, h2, h3⟩
      · exact .inl ⟨by simp [gget, hq, h1], by simp [List.findIdx_cons, hb, h2]⟩
      · refine .inr ⟨i + 1, by simpa using h0, by simp [List.findIdx_cons, hb, h1], by simp [gget, hq, h2], by simp [gdel, hq, h3]⟩
theorem fcs_split {α : Type} {f : α → List Value} {c : Nat} (hc : ∀ a, (f a).length = c) (l : List α) (i : Nat) (h : i ≤ l.length) : (fcs f l).take (i * c) = fcs f (l.take i) ∧ (fcs f l).drop (i * c) = fcs f (l.drop i) := by
  have e : fcs f l = fcs f (l.take i) ++ fcs f (l.drop i) := by
    have e0 : fcs f (l.take i ++ l.drop i) = fcs f (l.take i) ++ fcs f (l.drop i) := by simp only [fcs, List.map_append, List.flatten_append]
    rw [← e0, List.take_append_drop]
  have hl : (fcs f (l.take i)).length = i * c := by rw [fcs_length hc, List.length_take, Nat.min_eq_left h]
  rw [e]
  exact ⟨List.take_left' hl, List.drop_left' hl⟩
section
variable {H : HL} {nx d l b : Nat} {b1 b2 : Bool} {room last : Int} {L : List (Int × Ms)}
set_option maxRecDepth 100000 in
set_option maxHeartbeats 2000000 in
theorem rtakeA (hd : lookH H d = some (true, .ab (rbP room last L b))) (z : L.length ≤ 1024) (k : Int) :
    FnH Try.prog 18 [.c (.nm d), .c (iT k)] H nx ⟨.tup [msT (btM L k), .c (iT (btE L k))], [], [(d, some (.ab (rbP room last (gdel k L) b)))], []⟩ := by
  refine fnA (fn := Try.f18) 42 rfl rfl rfl hd (ptr b) (rb_pins _ _ _ _) (rb_pins _ _ _ _) rfl rfl rfl (v' := .tup [msT (btM L k), .c (iT (btE L k))]) (news' := []) rfl rfl rfl rfl fun w Wr => ?_
  refine At.unfoldTo 0 (L1 := (0, .t (.c (.p 1 0))) :: [(1, .t (.c (iT k)))]) (H1 := [(1, some (true, .cells [iT room, iT last, .nm 2] 86)), (2, some (true, .own 88 7 L.length (ocs L))), (3, some (false, .pin 1 b)), (0, none), (0, some (true, .ab (rbP room last L b)))]) (nx1 := 4) rfl rfl rfl rfl rfl rfl ?_
  have hfi := fun (H : HL) (nx : Nat) (h1 : lookH H 1 = some (true, .cells [iT room, iT last, .nm 2] 86)) (h2 : lookH H 2 = some (true, .own 88 7 L.length (ocs L))) => rfindU (nx := nx) h1 h2 (by omega) k
  rcases fx_ok k L with ⟨h1, h2⟩ | ⟨i, h0, h1, h2, h3⟩
  · have e0 : fxF k L = -1 := by rw [fxF, if_neg (by omega)]
    have e1 : btE L k = 5 := by rw [btE, h1]; rfl
    have e2 := btM_none h1
    rw [e0] at hfi
    rw [e1, e2, gdel_none h1]
    refine rn [(10, .spec ⟨.t (.c (iT (-1))), [], [], []⟩), (12, .dec true)] rfl (by (repeat' (first | exact trivial | exact rfl | exact trivial | exact fun _ => trivial | first | exact hfi _ _ rfl rfl | decide | refine And.intro ?_ ?_))) ?_
    refine Done.fold [(0, 1), (1, 2), (2, 3)] (rbO room (last) (L) b) (.p 0 0) (by repeat' (first | exact trivial | exact rfl | refine And.intro ?_ ?_)) rfl rfl (fun _ => rfl) ?_
    exact retM tysOk [(0, 5)] rfl (by repeat' (first | exact trivial | exact rfl | refine And.intro ?_ ?_)) (by repeat' (first | exact trivial | exact rfl | refine And.intro ?_ ?_)) rfl rfl
  · have e0 : fxF k L = (i : Nat) := by rw [fxF, h1, if_pos h0]
    have e1 : btE L k = 0 := by rw [btE, h2]; rfl
    have e2 : btM L k = L[i].2 := by rw [btM, h2]; rfl
    have r1 := ocs_rd h0
    rw [e0] at hfi
    rw [e1, e2, h3]
    generalize hy : L[i].2 = y at *
    have w1 : IntKind.i64.wrap ((i : Int) + 1) = (i : Int) + 1 := wrap_sm (by omega) (by omega)
    have g1 : decide ((i : Int) < 0) = false := decide_eq_false (by omega)
    have c0 : (0 : Int) ≤ (i : Int) := by omega
    have c1 : (i : Int) < (L.length : Int) := by omega
    have c2 : (i : Int) ≤ (L.length : Int) := by omega
    have c3 : (0 : Int) ≤ IntKind.i64.wrap ((i : Int) + 1) := by omega
    have c4 : IntKind.i64.wrap ((i : Int) + 1) ≤ (L.length : Int) := by omega
    have o1 := ocs_one L
    have hll : (ocs L).length = L.length * 7 := fcs_length ocs_len L
    have c5 : (i : Int).toNat * 7 < (ocs L).length := by omega
    have m1 : 0 + (i : Int).toNat + (L.length - (IntKind.i64.wrap ((i : Int) + 1)).toNat) ≤ maxLen := by simp [maxLen]; omega
    have m2 : (0 + (i : Int).toNat + (L.length - (IntKind.i64.wrap ((i : Int) + 1)).toNat)) * 56 ≤ 140737488355328 := by omega
    have m3 : 0 + (i : Int).toNat ≤ maxLen := by simp [maxLen]; omega
    have m4 : (0 + (i : Int).toNat) * 56 ≤ 140737488355328 := by omega
    have m5 : (IntKind.i64.wrap ((i : Int) + 1)).toNat + (L.length - (IntKind.i64.wrap ((i : Int) + 1)).toNat) ≤ L.length := by omega
    have m6 : 0 + (i : Int).toNat ≤ L.length := by omega
    have w2 : (IntKind.i64.wrap ((i : Int) + 1)).toNat = i + 1 := by omega
    have e5 : 0 + (i : Int).toNat + (L.length - (IntKind.i64.wrap ((i : Int) + 1)).toNat) = (L.eraseIdx i).length := by
      rw [List.length_eraseIdx, if_pos h0, w2, Int.toNat_natCast]
      omega
    have e6 : app (app [] (((ocs L).drop 0).take ((i : Int).toNat * 7))) (((ocs L).drop ((IntKind.i64.wrap ((i : Int) + 1)).toNat * 7)).take ((L.length - (IntKind.i64.wrap ((i : Int) + 1)).toNat) * 7)) = ocs (L.eraseIdx i) := by
      obtain ⟨s1, _⟩ := fcs_split ocs_len L i (by omega)
      obtain ⟨_, s2⟩ := fcs_split ocs_len L (i + 1) (by omega)
      have s3 : (fcs ocell (L.drop (i + 1))).length = (L.length - (i + 1)) * 7 := by rw [fcs_length ocs_len, List.length_drop]
      rw [app_eq, app_eq, List.nil_append, List.drop_zero, w2, Int.toNat_natCast]
      show (fcs ocell L).take (i * 7) ++ ((fcs ocell L).drop ((i + 1) * 7)).take _ = _
      rw [s1, s2, ← s3, List.take_length, List.eraseIdx_eq_take_drop_succ]
      simp only [fcs, List.map_append, List.flatten_append]
    refine rn [(10, .spec ⟨.t (.c (iT (i : Nat))), [], [], []⟩), (12, .dec false), (21, .ld [iT y.k, iT y.f, iT y.t, iT y.r, iT y.s, iT y.e]), (23, .dec true)] rfl (by (repeat' (first | exact trivial | exact rfl | exact trivial | exact fun _ => trivial | first | exact hfi _ _ rfl rfl | exact g1 | exact r1 | exact c0 | exact c1 | exact c2 | exact c3 | exact c4 | exact c5 | exact ⟨c0, c2⟩ | exact ⟨c3, c4⟩ | exact m1 | exact m2 | exact m3 | exact m4 | exact m5 | exact m6 | exact o1 | decide | refine And.intro ?_ ?_))) ?_
    refine Done.fold [(0, 1), (1, 8), (2, 3)] (rbO room last (L.eraseIdx i) b) (.p 0 0) (by (repeat' (first | exact trivial | exact rfl | exact trivial | exact fun _ => trivial | first | exact e5 | exact e6 | refine And.intro ?_ ?_))) rfl rfl (fun _ => rfl) ?_
    exact retM tysOk [(0, 9)] rfl (by repeat' (first | exact trivial | exact rfl | refine And.intro ?_ ?_)) (by repeat' (first | exact trivial | exact rfl | refine And.intro ?_ ?_)) rfl rfl
set_option maxRecDepth 100000 in
set_option maxHeartbeats 2000000 in
theorem ragainA (hd : lookH H d = some (true, .ab (rbP room last L b))) (h : BOk room last L) (hz : last ≤ 1000000) (k : Int) :
    FnH Try.prog 19 [.c (.nm d), .c (iT k)] H nx ⟨.tup [.c (iT (baN room last L k)), .c (iT (baE room L k))], [], [(d, some (.ab (rbP room (baT room last L k) (baL room last L k) b)))], []⟩ := by
  refine fnA (fn := Try.f19) 24 rfl rfl rfl hd (ptr b) (rb_pins _ _ _ _) (rb_pins _ _ _ _) rfl rfl rfl (v' := .tup [.c (iT (baN room last L k)), .c (iT (baE room L k))]) (news' := []) rfl rfl rfl rfl fun w Wr => ?_
  have z : L.length ≤ 1024 := by have := h.len; have := h.r2; omega
  have hfi := fun (H : HL) (nx : Nat) (h1 : lookH H 1 = some (true, .cells [iT room, iT last, .nm 2] 86)) (h2 : lookH H 2 = some (true, .own 88 7 L.length (ocs L))) => rfindU (nx := nx) h1 h2 (by omega) k
  refine At.unfoldTo 0 (L1 := (0, .t (.c (.p 1 0))) :: [(1, .t (.c (iT k)))]) (H1 := [(1, some (true, .cells [iT room, iT last, .nm 2] 86)), (2, some (true, .own 88 7 L.length (ocs L))), (3, some (false, .pin 1 b)), (0, none), (0, some (true, .ab (rbP room last L b)))]) (nx1 := 4) rfl rfl rfl rfl rfl rfl ?_
  rcases fx_ok k L with ⟨h1, h2⟩ | ⟨i, h0, h1, h2, h3⟩
  · have e0 : fxF k L = -1 := by rw [fxF, if_neg (by omega)]
    have e1 : baE room L k = 5 := by rw [baE, h1]; rfl
    have e2 : baN room last L k = 0 := by rw [baN, h1]; rfl
    have e3 : baT room last L k = last := by rw [baT, h1]; rfl
    have e4 : baL room last L k = L := by rw [baL, h1]; rfl
    rw [e0] at hfi
    rw [e1, e2, e3, e4]
    refine rn [(9, .spec ⟨.t (.c (iT (-1))), [], [], []⟩), (11, .dec true)] rfl (by (repeat' (first | exact trivial | exact rfl | exact trivial | exact fun _ => trivial | first | exact hfi _ _ rfl rfl | decide | refine And.intro ?_ ?_))) ?_
    refine Done.fold [(0, 1), (1, 2), (2, 3)] (rbO room (last) (L) b) (.p 0 0) (by repeat' (first | exact trivial | exact rfl | refine And.intro ?_ ?_)) rfl rfl (fun _ => rfl) ?_
    exact retM tysOk [(0, 4)] rfl (by repeat' (first | exact trivial | exact rfl | refine And.intro ?_ ?_)) (by repeat' (first | exact trivial | exact rfl | refine And.intro ?_ ?_)) rfl rfl
  · have e0 : fxF k L = (i : Nat) := by rw [fxF, h1, if_pos h0]
    have hg : (gget k L).isSome = true := by rw [h2]; rfl
    have e5 : btM L k = L[i].2 := by rw [btM, h2]; rfl
    have e1 : baE room L k = bsE room L L[i].2 := by rw [baE, if_pos hg, e5]
    have e2 : baN room last L k = bsN room last L L[i].2 := by rw [baN, if_pos hg, e5]
    have e3 : baT room last L k = bsT room last L L[i].2 := by rw [baT, if_pos hg, e5]
    have e4 : baL room last L k = bsL room last L L[i].2 := by rw [baL, if_pos hg, e5]
    have r1 := ocs_rd h0
    rw [e0] at hfi
    rw [e1, e2, e3, e4]
    generalize L[i].2 = y at *
    have c0 : (0 : Int) ≤ (i : Int) := by omega
    have c1 : (i : Int) < (L.length : Int) := by omega
    have hll : (ocs L).length = L.length * 7 := fcs_length ocs_len L
    have c5 : (i : Int).toNat * 7 < (ocs L).length := by omega
    have g1 : decide ((i : Int) < 0) = false := decide_eq_false (by omega)
    refine rn [(9, .spec ⟨.t (.c (iT (i : Nat))), [], [], []⟩), (11, .dec false), (20, .ld [iT y.k, iT y.f, iT y.t, iT y.r, iT y.s, iT y.e]), (21, .spec ⟨.tup [.c (iT (bsN room last L y)), .c (iT (bsE room L y))], [(true, .cells [iT room, iT (bsT room last L y), .nm 5] 86), (true, .own 88 7 (bsL room last L y).length (ocs (bsL room last L y))), (false, .pin 4 b)], [(1, none), (2, none)], []⟩)] rfl ?_ ?_
    · (repeat' (first | exact trivial | exact rfl | exact trivial | exact fun _ => trivial | first | exact hfi _ _ rfl rfl | exact g1 | exact r1 | exact c0 | exact c1 | exact c5 | decide | refine And.intro ?_ ?_))
      all_goals refine fnh_open (O := rbO room last L b) (O' := rbO room (bsT room last L y) (bsL room last L y) b) (x := .p 0 0) (y := .p 1 0) [(0, 1), (1, 2), (2, 3)] ?_ rfl rfl (fun _ => rfl) (by repeat' (first | exact trivial | exact rfl | refine And.intro ?_ ?_)) rfl rfl rfl rfl rfl (fun H nx d h1 => rsendA h1 h hz y)
      all_goals repeat' (first | exact trivial | exact rfl | refine And.intro ?_ ?_)
    refine Done.fold [(0, 4), (1, 5), (2, 6)] (rbO room (bsT room last L y) (bsL room last L y) b) (.p 0 0) (by repeat' (first | exact trivial | exact rfl | refine And.intro ?_ ?_)) rfl rfl (fun _ => rfl) ?_
    exact retM tysOk [(0, 7)] rfl (by repeat' (first | exact trivial | exact rfl | refine And.intro ?_ ?_)) (by repeat' (first | exact trivial | exact rfl | refine And.intro ?_ ?_)) rfl rfl
set_option maxRecDepth 100000 in
set_option maxHeartbeats 2000000 in
theorem rrawA {s : ByteArray} (hr : Fn0 Try.prog 46 [.c (.s s)] (.tup [msT (mdec s.data.toList), .c (iT (mdece s.data.toList))])) (hd : lookH H d = some (true, .ab (rbP room last L b))) (h : BOk room last L) (hz : last ≤ 1000000) :
    FnH Try.prog 21 [.c (.nm d), .c (.s s)] H nx ⟨.tup [.c (iT (brN room last L s)), .c (iT (brE room L s))], [], [(d, some (.ab (rbP room (brT room last L s) (brL room last L s) b)))], []⟩ := by
  refine fnA (fn := Try.f21) 21 rfl rfl rfl hd (ptr b) (rb_pins _ _ _ _) (rb_pins _ _ _ _) rfl rfl rfl (v' := .tup [.c (iT (brN room last L s)), .c (iT (brE room L s))]) (news' := []) rfl rfl rfl rfl fun w Wr => ?_
  by_cases h1 : mdece s.data.toList = 0
  · have e1 : brE room L s = bsE room L (rwM s) := if_pos h1
    have e2 : brN room last L s = bsN room last L (rwM s) := if_pos h1
    have e3 : brT room last L s = bsT room last L (rwM s) := if_pos h1
    have e4 : brL room last L s = bsL room last L (rwM s) := if_pos h1
    rw [e1, e2, e3, e4]
    rw [h1] at hr
    show At _ _ _ _ _ _ [(0, some (true, .ab (rbP room last L b)))] 1
    unfold rwM at *
    generalize mdec s.data.toList = y at *
    refine rn [(10, .ret (.tup [msT y, .c (iT 0)])), (14, .dec false), (18, .spec ⟨.tup [.c (iT (bsN room last L y)), .c (iT (bsE room L y))], [], [(0, some (.ab (rbP room (bsT room last L y) (bsL room last L y) b)))], []⟩)] rfl (by (repeat' (first | exact trivial | exact rfl | exact hr | exact fun _ => hr | exact rsendA rfl h hz y | refine And.intro ?_ ?_))) ?_
    exact retM tysOk [(0, 0)] rfl (by repeat' (first | exact trivial | exact rfl | refine And.intro ?_ ?_)) (by repeat' (first | exact trivial | exact rfl | refine And.intro ?_ ?_)) rfl rfl
  · have e1 : brE room L s = mdece s.data.toList := if_neg h1
    have e2 : brN room last L s = 0 := if_neg h1
    have e3 : brT room last L s = last := if_neg h1
    have e4 : brL room last L s = L := if_neg h1
    rw [e1, e2, e3, e4]
    have g1 : (mdece s.data.toList != 0) = true := by simpa using h1
    generalize mdec s.data.toList = y at *
    generalize mdece s.data.toList = e at *
    refine rn [(10, .ret (.tup [msT y, .c (iT e)])), (14, .dec true)] rfl (by (repeat' (first | exact trivial | exact rfl | exact hr | exact fun _ => hr | exact g1 | refine And.intro ?_ ?_))) ?_
    exact retM tysOk [(0, 0)] rfl (by repeat' (first | exact trivial | exact rfl | refine And.intro ?_ ?_)) (by repeat' (first | exact trivial | exact rfl | refine And.intro ?_ ?_)) rfl rfl
theorem forL_succ {L : List (Int × Ms)} {u : Int} {j : Nat} (h : j < L.length) : forL (L.take (j + 1)) u = forL (L.take j) u ++ if L[j].2.t == u then [L[j].1] else [] := by
  rw [List.take_succ_eq_append_getElem h]
  unfold forL
  rw [List.filter_append, List.map_append]
  congr 1
  cases hb : L[j].2.t == u <;> simp [List.filter, hb]
theorem forL_le (L : List (Int × Ms)) (u : Int) : (forL L u).length ≤ L.length := by
  unfold forL
  rw [List.length_map]
  exact List.length_filter_le _ _
theorem ocs_t {L : List (Int × Ms)} {i : Nat} (h : i < L.length) : (ocs L)[(i : Int).toNat * 7 + 1 + 2]? = some (.int .i64 L[i].2.t) := fcs_at (c := 7) (j := 3) ocs_len h rfl
set_option maxRecDepth 100000 in
set_option maxHeartbeats 2000000 in
theorem rforA (hd : lookH H d = some (true, .ab (rbP room last L b))) (z : L.length ≤ 1024) (u : Int) :
    FnH Try.prog 23 [.c (.nm d), .c (iT u)] H nx ⟨.t (.c (.nm nx)), [(true, .own 3 1 (forL L u).length (ivs (forL L u)))], [(d, some (.ab (rbP room last L b)))], []⟩ := by
  refine fnA (fn := Try.f23) 39 rfl rfl rfl hd (ptr b) (rb_pins _ _ _ _) (rb_pins _ _ _ _) rfl rfl rfl (v' := .t (.c (.nm 1))) (news' := [(true, .own 3 1 (forL L u).length (ivs (forL L u)))]) rfl rfl rfl rfl fun w Wr => ?_
  refine At.unfoldTo 0 (L1 := (0, .t (.c (.p 1 0))) :: [(1, .t (.c (iT u)))]) (H1 := [(1, some (true, .cells [iT room, iT last, .nm 2] 86)), (2, some (true, .own 88 7 L.length (ocs L))), (3, some (false, .pin 1 b)), (0, none), (0, some (true, .ab (rbP room last L b)))]) (nx1 := 4) rfl rfl rfl rfl rfl rfl ?_
  refine rn [] rfl (by repeat' (first | exact trivial | exact rfl | refine And.intro ?_ ?_)) ?_
  refine At.nil 5 3 1 rfl ?_
  refine At.loop (X := (j : Nat) ×' (j ≤ L.length)) 5 (fun s => L.length - s.1)
    (fun s => [(0, .t (.c (.p 1 0))), (1, .t (.c (iT u))), (5, .t (.c (.nm 4))), (6, .t (.c (iT (s.1 : Nat))))])
    (fun s => [(1, some (true, .cells [iT room, iT last, .nm 2] 86)), (2, some (true, .own 88 7 L.length (ocs L))), (3, some (false, .pin 1 b)), (4, some (true, .own 3 1 (forL (L.take s.1) u).length (ivs (forL (L.take s.1) u))))]) ⟨0, by omega⟩ [] (fun k => wf rfl rfl) (by repeat' (first | exact trivial | exact rfl | refine And.intro ?_ ?_)) (by repeat' (first | exact trivial | exact rfl | refine And.intro ?_ ?_)) rfl fun s => ?_
  obtain ⟨j, hj⟩ := s
  have w3 : IntKind.i64.wrap ((j : Int) + 1) = ((j + 1 : Nat) : Int) := by rw [wrap_sm (by omega) (by omega)]; omega
  refine rn [] rfl (by repeat' (first | exact trivial | exact rfl | refine And.intro ?_ ?_)) ?_
  refine ⟨fun h => ?_, fun h => ?_⟩
  · have hlt : j < L.length := by have : (j : Int) < (L.length : Int) := of_decide_eq_true h; omega
    clear h
    have e1 := ocs_at hlt
    have e2 := ocs_t hlt
    have b0 : (0 : Int) ≤ (j : Int) := by omega
    have b1 : (j : Int) < (L.length : Int) := by omega
    have hll : (ocs L).length = L.length * 7 := fcs_length ocs_len L
    have b2 : (j : Int).toNat * 7 < (ocs L).length := by omega
    have b3 : (j : Int).toNat * 7 + 1 < (ocs L).length := by omega
    have hsu := forL_succ (u := u) hlt
    have hwl := forL_le (L.take j) u
    rw [List.length_take] at hwl
    have m1 : (forL (L.take j) u).length + 1 ≤ maxLen := by simp [maxLen]; omega
    have m2 : ((forL (L.take j) u).length + 1) * 8 ≤ 140737488355328 := by omega
    refine rn [(24, .ld [iT L[j].2.t])] rfl (by (repeat' (first | exact trivial | exact rfl | exact e2 | exact fun _ => e2 | first | exact ⟨e2, trivial⟩ | exact b0 | exact b1 | exact b2 | exact b3 | decide | refine And.intro ?_ ?_))) ?_
    refine ⟨fun h => ?_, fun h => ?_⟩
    · rw [if_pos h] at hsu
      refine rn [(35, .ld [iT L[j].1])] rfl (by (repeat' (first | exact trivial | exact rfl | exact m1 | exact fun _ => m1 | first | exact m2 | exact e1 | exact ⟨e1, trivial⟩ | exact b0 | exact b1 | exact b2 | exact b3 | decide | refine And.intro ?_ ?_))) ?_
      refine roundEnd ⟨j + 1, by omega⟩ [(4, 6)] (by show L.length - (j + 1) < L.length - j; omega) (by (repeat' (first | exact trivial | exact rfl | exact w3 | exact fun _ => w3 | refine And.intro ?_ ?_))) ?_ rfl
      repeat' (first | exact trivial | exact rfl | refine And.intro ?_ ?_)
      · rw [hsu]; simp
      · rw [hsu, ivsApp, app_eq]; rfl
    · have hf : (L[j].2.t == u) = false := h
      rw [hf] at hsu
      simp only [Bool.false_eq_true, if_false, List.append_nil] at hsu
      refine rn [] rfl (by repeat' (first | exact trivial | exact rfl | refine And.intro ?_ ?_)) ?_
      refine roundEnd ⟨j + 1, by omega⟩ [] (by show L.length - (j + 1) < L.length - j; omega) (by (repeat' (first | exact trivial | exact rfl | exact w3 | exact fun _ => w3 | refine And.intro ?_ ?_))) ?_ rfl
      repeat' (first | exact trivial | exact rfl | refine And.intro ?_ ?_)
      · rw [hsu]
      · rw [hsu]
  · have hlt : j = L.length := by have : ¬ (j : Int) < (L.length : Int) := of_decide_eq_false h; omega
    have hw : forL (L.take j) u = forL L u := by rw [hlt, List.take_length]
    refine rn [] rfl (by repeat' (first | exact trivial | exact rfl | refine And.intro ?_ ?_)) (roundExit rfl ?_)
    refine rnA [] rfl (by repeat' (first | exact trivial | exact rfl | refine And.intro ?_ ?_)) ?_
    refine Done.fold [(0, 1), (1, 2), (2, 3)] (rbO room last L b) (.p 0 0) (by repeat' (first | exact trivial | exact rfl | refine And.intro ?_ ?_)) rfl rfl (fun _ => rfl) ?_
    exact retM tysOk [(0, 5), (1, 4)] rfl (by repeat' (first | exact trivial | exact rfl | refine And.intro ?_ ?_)) (by (repeat' (first | exact trivial | exact rfl | exact trivial | exact fun _ => trivial | first | exact congrArg List.length hw | exact congrArg ivs hw | refine And.intro ?_ ?_))) rfl rfl
end
end Cw
namespace Cw
open Go Vc
open Go.Proofs
set_option maxRecDepth 100000
theorem spoil_set {ys : List Int} {k : Nat} (h : k < ys.length) : Vc.setAt (ivs ys) (k * 1) [Value.int .i64 (-99)] = ivs (ys.set k (-99)) := by
  apply List.ext_getElem?
  intro i
  simp only [Vc.setAt, ivs]
  by_cases h1 : i < k
  · rw [List.append_assoc, List.getElem?_append_left (by simp; omega)]
    simp [List.getElem?_take, h1, List.getElem?_set, show k ≠ i by omega]
  · by_cases h2 : i = k
    · subst h2
      rw [List.append_assoc, List.getElem?_append_right (by simp; omega)]
      simp [h, show min i ys.length = i by omega]
    · rw [List.getElem?_append_right (by simp; omega)]
      simp only [List.length_append, List.length_take, List.length_map, List.length_singleton, List.getElem?_drop]
      rw [show min (k * 1) ys.length = k by omega, show k * 1 + 1 + (i - (k + 1)) = i by omega]
      simp [List.getElem?_set, show k ≠ i by omega]
theorem spoilI_h {k : Nat} {l : List Int} {H : HL} {nx : Nat} (hk : lookH H k = some (true, .own 3 1 l.length (ivs l))) (z : l.length ≤ 17592186043904) :
    FnH Try.prog 24 [.c (.nm k)] H nx ⟨.tup [], [], [(k, none)], []⟩ := by
  refine fnF (fn := Try.f24) 12 rfl rfl rfl (args' := [.c (.nm 0)]) (H' := [(0, some (true, .own 3 1 l.length (ivs l)))]) (nx' := 1) (fun e w M => ?_) rfl rfl rfl rfl fun w W => ?_
  · have hr : Vc.ren [(0, k)] 0 = k := rfl
    refine ⟨e.ren [(0, k)], ⟨fun n b' q h => ?_, fun n q m c q' h h' hne => ?_⟩, rfl⟩
    · rw [lookH_cons] at h
      split at h
      · rename_i hn
        cases h
        subst hn
        obtain ⟨h1, h2⟩ := M.ob k _ _ hk
        exact ⟨h1, fun g hg => ⟨h2 g hg, fun _ => hg⟩⟩
      · cases h
    · rw [lookH_cons] at h h'
      split at h
      · split at h'
        · omega
        · cases h'
      · cases h
  refine rn [] rfl (by repeat' (first | exact trivial | exact rfl | refine And.intro ?_ ?_)) ?_
  refine At.loop (X := (r : List Int) ×' (k : Nat) ×' (k ≤ l.length ∧ r.length = l.length)) 1 (fun x => l.length - x.2.1)
    (fun x => [(0, .t (.c (.nm 0))), (2, .t (.c (iT (x.2.1 : Nat))))])
    (fun x => [(0, some (true, .own 3 1 l.length (ivs x.1)))]) ⟨l, 0, by omega, rfl⟩ [] (fun x => wf rfl rfl) (by repeat' (first | exact trivial | exact rfl | refine And.intro ?_ ?_)) (by repeat' (first | exact trivial | exact rfl | refine And.intro ?_ ?_)) rfl fun x => ?_
  obtain ⟨r, k, hk1, hk2⟩ := x
  have w2 : IntKind.i64.wrap ((k : Int) + 1) = ((k + 1 : Nat) : Int) := by rw [wrap_sm (by omega) (by omega)]; omega
  refine rn [] rfl (by repeat' (first | exact trivial | exact rfl | refine And.intro ?_ ?_)) ?_
  refine ⟨fun h => ?_, fun h => ?_⟩
  · have hlt : k < l.length := by have : (k : Int) < (l.length : Int) := of_decide_eq_true h; omega
    have b0 : (0 : Int) ≤ (k : Int) := by omega
    have b1 : (k : Int) < (l.length : Int) := by omega
    refine rn [] rfl (by (repeat' (first | exact trivial | exact rfl | exact b0 | exact fun _ => b0 | first | exact b1 | decide | (simp [ivs]; omega) | refine And.intro ?_ ?_))) ?_
    refine roundEnd ⟨r.set k (-99), k + 1, by omega, by simpa using hk2⟩ [] (by show l.length - (k + 1) < l.length - k; omega) (by (repeat' (first | exact trivial | exact rfl | exact w2 | exact fun _ => w2 | refine And.intro ?_ ?_))) ?_ rfl
    repeat' (first | exact trivial | exact rfl | refine And.intro ?_ ?_)
    exact spoil_set (k := k) (ys := r) (by omega)
  · refine rn [] rfl (by repeat' (first | exact trivial | exact rfl | refine And.intro ?_ ?_)) (roundExit rfl ?_)
    refine rnA [] rfl (by repeat' (first | exact trivial | exact rfl | refine And.intro ?_ ?_)) ?_
    exact endF tysOk rfl (by repeat' (first | exact trivial | exact rfl | refine And.intro ?_ ?_)) rfl
theorem rb_st (room last : Int) (L : List (Int × Ms)) : ∀ b, stable (rbP room last L b) := fun b => absP_stable _ _
theorem rb_nn (room last : Int) (L : List (Int × Ms)) : NotNil (rbX room last L) := NotNil.ex fun b => rb_pins _ _ _ b
theorem sameI {v1 v2 : TV} {l : List Int} {H : HL} {nx : Nat} (h1 : SlR H v1 l.length 1 (ivs l)) (h2 : SlR H v2 l.length 1 (ivs l)) (z : l.length ≤ 100000000000000) : FnH Try.prog 22 [v1, v2] H nx ⟨.t (.c (.b true)), [], [], []⟩ := by
  have := sameInts_h (nx := nx) h1 h2 z
  rwa [decide_eq_true rfl] at this
section
variable {H : HL} {nx d : Nat} {room last : Int} {L : List (Int × Ms)}
theorem nilR (hd : lookH H d = some (true, .ab (rbX room last L))) {Lc : LL} {o : Oper} {x y : Operand} (hop : o.op = .binOp .eql 44 x y 44) (hx : ev Lc x = some (.c (.nm d))) (hy : ev Lc y = some (.c .np)) : Spec Try.prog Lc H nx o ⟨.t (.c (.b false)), [], [], []⟩ :=
  spec_nil tysOk hop hx hy rfl rfl hd (rb_nn _ _ _)
theorem nnilR (hd : lookH H d = some (true, .ab (rbX room last L))) {Lc : LL} {o : Oper} {x y : Operand} (hop : o.op = .binOp .neq 44 x y 44) (hx : ev Lc x = some (.c (.nm d))) (hy : ev Lc y = some (.c .np)) : Spec Try.prog Lc H nx o ⟨.t (.c (.b true)), [], [], []⟩ :=
  spec_nnil tysOk hop hx hy rfl rfl hd (rb_nn _ _ _)
theorem rsendX (hd : lookH H d = some (true, .ab (rbX room last L))) (h : BOk room last L) (hz : last ≤ 1000000) (m : Ms) :
    FnH Try.prog 17 [.c (.nm d), msT m] H nx ⟨.tup [.c (iT (bsN room last L m)), .c (iT (bsE room L m))], [], [(d, some (.ab (rbX room (bsT room last L m) (bsL room last L m))))], []⟩ :=
  fnh_ex hd (rb_st _ _ _) (rb_st _ _ _) fun b => rsendA (by rw [lookH_cons, if_pos rfl]) h hz m
theorem rtakeX (hd : lookH H d = some (true, .ab (rbX room last L))) (z : L.length ≤ 1024) (k : Int) :
    FnH Try.prog 18 [.c (.nm d), .c (iT k)] H nx ⟨.tup [msT (btM L k), .c (iT (btE L k))], [], [(d, some (.ab (rbX room last (gdel k L))))], []⟩ :=
  fnh_ex hd (rb_st _ _ _) (rb_st _ _ _) fun b => rtakeA (by rw [lookH_cons, if_pos rfl]) z k
theorem ragainX (hd : lookH H d = some (true, .ab (rbX room last L))) (h : BOk room last L) (hz : last ≤ 1000000) (k : Int) :
    FnH Try.prog 19 [.c (.nm d), .c (iT k)] H nx ⟨.tup [.c (iT (baN room last L k)), .c (iT (baE room L k))], [], [(d, some (.ab (rbX room (baT room last L k) (baL room last L k))))], []⟩ :=
  fnh_ex hd (rb_st _ _ _) (rb_st _ _ _) fun b => ragainA (by rw [lookH_cons, if_pos rfl]) h hz k
theorem rrawX (hd : lookH H d = some (true, .ab (rbX room last L))) (h : BOk room last L) (hz : last ≤ 1000000) (s : ByteArray) (hs : s.size ≤ 9223372036854775807) :
    FnH Try.prog 21 [.c (.nm d), .c (.s s)] H nx ⟨.tup [.c (iT (brN room last L s)), .c (iT (brE room L s))], [], [(d, some (.ab (rbX room (brT room last L s) (brL room last L s))))], []⟩ :=
  fnh_ex hd (rb_st _ _ _) (rb_st _ _ _) fun b => rrawA (rwdec0 s hs) (by rw [lookH_cons, if_pos rfl]) h hz
theorem rforX (hd : lookH H d = some (true, .ab (rbX room last L))) (z : L.length ≤ 1024) (u : Int) :
    FnH Try.prog 23 [.c (.nm d), .c (iT u)] H nx ⟨.t (.c (.nm nx)), [(true, .own 3 1 (forL L u).length (ivs (forL L u)))], [(d, some (.ab (rbX room last L)))], []⟩ :=
  fnh_ex hd (rb_st _ _ _) (rb_st _ _ _) fun b => rforA (by rw [lookH_cons, if_pos rfl]) z u
end
theorem bOk_again {room last : Int} {L : List (Int × Ms)} (h : BOk room last L) (k : Int) : BOk room (baT room last L k) (baL room last L k) := by
  unfold baT baL
  split
  · exact bOk_send h _
  · exact h
theorem bOk_raw {room last : Int} {L : List (Int × Ms)} (h : BOk room last L) (s : ByteArray) : BOk room (brT room last L s) (brL room last L s) := by
  unfold brT brL
  split
  · exact bOk_send h _
  · exact h
theorem bsT_le (room last : Int) (L : List (Int × Ms)) (m : Ms) : bsT room last L m ≤ last + 1 := by unfold bsT; split <;> omega
theorem baT_le (room last : Int) (L : List (Int × Ms)) (k : Int) : baT room last L k ≤ last + 1 := by
  unfold baT
  split
  · exact bsT_le _ _ _ _
  · omega
theorem brT_le (room last : Int) (L : List (Int × Ms)) (s : ByteArray) : brT room last L s ≤ last + 1 := by
  unfold brT
  split
  · exact bsT_le _ _ _ _
  · omega
end Cw
namespace Cw
open Go Vc
open Go.Proofs
set_option maxRecDepth 100000
theorem msq (m : Ms) : (((0 : Int) != 0) || polB false (m.k == m.k && (m.f == m.f && (m.t == m.t && (m.r == m.r && (m.s == m.s && (m.e == m.e && true))))))) = false := by simp [polB]
set_option maxRecDepth 100000 in
set_option maxHeartbeats 8000000 in
theorem bagPlays_h (room : Int) (acts : List BAct) (zt : ∀ a ∈ acts, a.text.size ≤ 9223372036854775807) (zl : acts.length ≤ 100000000000000) :
    FnH Try.prog 4 [.c (iT room), .c (.nm 0)] [(0, some (false, .rd 9 acts.length (bacells acts)))] 1 ⟨.t (.c (.b true)), [], [], []⟩ := by
  refine fnR (fn := Try.f4) 173 rfl rfl rfl (args' := [.c (iT room), .c (.nm 0)]) (H' := [(0, some (false, .rd 9 acts.length (bacells acts)))]) (nx' := 1) (fun e w M => ?_) rfl rfl rfl rfl fun w => ?_
  · obtain ⟨e', M', q1⟩ := slr1 (v := .c (.nm 0)) (SlR.rd rfl) e w M
    exact ⟨e', M', by simp only [List.map_cons, List.map_nil, q1]; rfl⟩
  by_cases hr : 1 ≤ room ∧ room ≤ 1024
  · refine rn [(20, .spec ⟨.tup [.c (.nm 1), .c (iT 0)], [(true, .ab (bagX room 0 []))], [], []⟩), (25, .spec ⟨.tup [.c (.nm 2), .c (iT 0)], [(true, .ab (rbX room 0 []))], [], []⟩), (35, .spec ⟨.t (.c (.b false)), [], [], []⟩), (37, .spec ⟨.t (.c (.b false)), [], [], []⟩), (41, .spec ⟨.t (.c (.b true)), [], [], []⟩)] rfl ?_ ?_
    · repeat' (first | exact trivial | exact rfl | refine And.intro ?_ ?_)
      all_goals first | exact fun _ => bworks_h | exact fun _ => nilB rfl rfl rfl rfl | exact fun _ => nilR rfl rfl rfl rfl | exact bnewA hr.1 hr.2 | exact rnewA hr.1 hr.2
    refine ⟨fun h => (by cases h), fun _ => ?_⟩
    refine rn [] rfl (by repeat' (first | exact trivial | exact rfl | refine And.intro ?_ ?_)) ?_
    refine At.loop (X := (L : List (Int × Ms)) ×' (last : Int) ×' (i : Nat) ×' (i ≤ acts.length ∧ i ≤ 100 ∧ BOk room last L ∧ last ≤ i)) 3 (fun s => acts.length - s.2.2.1)
      (fun s => [(1, .t (.c (.nm 0))), (5, .t (.c (.nm 1))), (7, .t (.c (.nm 2))), (9, .t (.c (iT (s.2.2.1 : Nat))))])
      (fun s => [(0, some (false, .rd 9 acts.length (bacells acts))), (1, some (true, .ab (bagX room s.2.1 s.1))), (2, some (true, .ab (rbX room s.2.1 s.1)))])
      ⟨[], 0, 0, by omega, by omega, bOk_new hr.1 hr.2, by simp⟩ [] (fun k => wf rfl rfl) (by repeat' (first | exact trivial | exact rfl | refine And.intro ?_ ?_)) (by repeat' (first | exact trivial | exact rfl | refine And.intro ?_ ?_)) rfl fun s => ?_
    obtain ⟨L, last, i, hi1, hi2, hT, hl⟩ := s
    have w3 : IntKind.i64.wrap ((i : Int) + 1) = ((i + 1 : Nat) : Int) := by rw [wrap_sm (by omega) (by omega)]; omega
    refine rn [(45, .spec ⟨.t (.c (.b true)), [], [], []⟩)] rfl (by (repeat' (first | exact trivial | exact rfl | exact nnilR rfl rfl rfl rfl | exact fun _ => nnilR rfl rfl rfl rfl | refine And.intro ?_ ?_))) ?_
    refine ⟨fun h => ?_, fun h => ?_⟩
    · obtain ⟨q1, q2⟩ := Bool.and_eq_true_iff.1 h
      obtain ⟨_, q1⟩ := Bool.and_eq_true_iff.1 q1
      have hlt : i < acts.length := by have : (i : Int) < (acts.length : Int) := of_decide_eq_true q1; omega
      have hlt8 : i < 100 := by have : (i : Int) < 100 := of_decide_eq_true q2; omega
      clear h q1 q2
      have hrd := bacells_rd hlt
      have ht := zt _ (List.getElem_mem hlt)
      have b0 : (0 : Int) ≤ (i : Int) := by omega
      have b1 : (i : Int) < (acts.length : Int) := by omega
      have hz : last ≤ 1000000 := by omega
      have hz0 : L.length ≤ 1024 := by have := hT.len; have := hT.r2; omega
      generalize acts[i] = a at *
      have hk := emod_nat a.kind (n := 5) (by decide)
      have hk5 := amV a.kind 5 (by decide) (by decide)
      obtain ⟨kd, hkd, hke⟩ := hk
      match kd, hkd with
      | 0, _ =>
        rw [show a.kind % 5 = 0 from hke] at hk5
        have y1 : (bsN room last L a.m != bsN room last L a.m) = false := by simp
        have y2 : (bsE room L a.m != bsE room L a.m) = false := by simp
        have hB := bOk_send hT a.m
        have hz1 : (bsL room last L a.m).length ≤ 1024 := by have := hB.len; have := hB.r2; omega
        have f1 := forL_le (bsL room last L a.m) a.n
        have f2 := forL_le (bsL room last L a.m) 0
        have f3 := forL_le (bsL room last L a.m) 1
        refine rn [(61, .ld [iT a.kind, iT a.n, iT a.m.k, iT a.m.f, iT a.m.t, iT a.m.r, iT a.m.s, iT a.m.e, .s a.text]), (64, .ret (.t (.c (iT 0)))), (65, .dec true), (71, .spec ⟨.tup [.c (iT (bsN room last L a.m)), .c (iT (bsE room L a.m))], [], [(1, some (.ab (bagX room (bsT room last L a.m) (bsL room last L a.m))))], []⟩), (78, .spec ⟨.tup [.c (iT (bsN room last L a.m)), .c (iT (bsE room L a.m))], [], [(2, some (.ab (rbX room (bsT room last L a.m) (bsL room last L a.m))))], []⟩), (132, .spec ⟨.t (.c (.nm 6)), [(true, .own 3 1 (forL (bsL room last L a.m) a.n).length (ivs (forL (bsL room last L a.m) a.n)))], [(1, some (.ab (bagX room (bsT room last L a.m) (bsL room last L a.m))))], []⟩), (136, .dec false), (140, .dec false), (141, .dec false), (145, .dec false), (146, .dec false),
          (151, .spec ⟨.t (.c (.nm 7)), [(true, .own 3 1 (forL (bsL room last L a.m) a.n).length (ivs (forL (bsL room last L a.m) a.n)))], [(2, some (.ab (rbX room (bsT room last L a.m) (bsL room last L a.m))))], []⟩), (152, .spec ⟨.t (.c (.b true)), [], [], []⟩), (154, .dec false), (155, .dec false),
          (157, .spec ⟨.t (.c (.nm 8)), [(true, .own 3 1 (forL (bsL room last L a.m) 0).length (ivs (forL (bsL room last L a.m) 0)))], [(1, some (.ab (bagX room (bsT room last L a.m) (bsL room last L a.m))))], []⟩), (159, .spec ⟨.t (.c (.nm 9)), [(true, .own 3 1 (forL (bsL room last L a.m) 0).length (ivs (forL (bsL room last L a.m) 0)))], [(2, some (.ab (rbX room (bsT room last L a.m) (bsL room last L a.m))))], []⟩), (160, .spec ⟨.t (.c (.b true)), [], [], []⟩), (162, .dec false), (163, .dec false),
          (165, .spec ⟨.t (.c (.nm 10)), [(true, .own 3 1 (forL (bsL room last L a.m) 1).length (ivs (forL (bsL room last L a.m) 1)))], [(1, some (.ab (bagX room (bsT room last L a.m) (bsL room last L a.m))))], []⟩), (167, .spec ⟨.t (.c (.nm 11)), [(true, .own 3 1 (forL (bsL room last L a.m) 1).length (ivs (forL (bsL room last L a.m) 1)))], [(2, some (.ab (rbX room (bsT room last L a.m) (bsL room last L a.m))))], []⟩), (168, .spec ⟨.t (.c (.b true)), [], [], []⟩), (170, .dec false), (172, .spec ⟨.tup [], [], [(6, none)], []⟩)] rfl ?_ ?_
        · (repeat' (first | exact trivial | exact rfl | exact trivial | exact fun _ => trivial | first | exact hrd | exact b0 | exact b1 | exact hk5 | first | exact sendX rfl hT hz a.m | exact rsendX rfl hT hz a.m | exact y1 | exact y2 | exact forX rfl hB a.n | exact forX rfl hB 0 | exact forX rfl hB 1 | exact rforX rfl hz1 a.n | exact rforX rfl hz1 0 | exact rforX rfl hz1 1 | exact sameI (SlR.own rfl) (SlR.own rfl) (by omega) | exact spoilI_h rfl (by omega) | exact fun _ => rfl | rfl | decide | refine And.intro ?_ ?_))
        refine roundEnd ⟨bsL room last L a.m, bsT room last L a.m, i + 1, by omega, by omega, hB, by have := bsT_le room last L a.m; omega⟩ [] (by show acts.length - (i + 1) < acts.length - i; omega) (by (repeat' (first | exact trivial | exact rfl | exact w3 | exact fun _ => w3 | refine And.intro ?_ ?_))) (by repeat' (first | exact trivial | exact rfl | refine And.intro ?_ ?_)) rfl
      | 1, _ =>
        rw [show a.kind % 5 = 1 from hke] at hk5
        have y1 := msq (btM L a.n)
        have y2 : (btE L a.n != btE L a.n) = false := by simp
        have hB := bOk_del hT a.n
        have hz1 : (gdel a.n L).length ≤ 1024 := by have := hB.len; have := hB.r2; omega
        have f1 := forL_le (gdel a.n L) a.n
        have f2 := forL_le (gdel a.n L) 0
        have f3 := forL_le (gdel a.n L) 1
        refine rn [(61, .ld [iT a.kind, iT a.n, iT a.m.k, iT a.m.f, iT a.m.t, iT a.m.r, iT a.m.s, iT a.m.e, .s a.text]), (64, .ret (.t (.c (iT 1)))), (65, .dec false), (81, .dec true), (87, .spec ⟨.tup [msT (btM L a.n), .c (iT (btE L a.n))], [], [(1, some (.ab (bagX room last (gdel a.n L))))], []⟩), (94, .spec ⟨.tup [msT (btM L a.n), .c (iT (btE L a.n))], [], [(2, some (.ab (rbX room last (gdel a.n L))))], []⟩), (132, .spec ⟨.t (.c (.nm 6)), [(true, .own 3 1 (forL (gdel a.n L) a.n).length (ivs (forL (gdel a.n L) a.n)))], [(1, some (.ab (bagX room (last) (gdel a.n L))))], []⟩), (136, .dec false), (140, .dec false), (141, .dec false), (145, .dec false), (146, .dec false),
          (151, .spec ⟨.t (.c (.nm 7)), [(true, .own 3 1 (forL (gdel a.n L) a.n).length (ivs (forL (gdel a.n L) a.n)))], [(2, some (.ab (rbX room (last) (gdel a.n L))))], []⟩), (152, .spec ⟨.t (.c (.b true)), [], [], []⟩), (154, .dec false), (155, .dec false),
          (157, .spec ⟨.t (.c (.nm 8)), [(true, .own 3 1 (forL (gdel a.n L) 0).length (ivs (forL (gdel a.n L) 0)))], [(1, some (.ab (bagX room (last) (gdel a.n L))))], []⟩), (159, .spec ⟨.t (.c (.nm 9)), [(true, .own 3 1 (forL (gdel a.n L) 0).length (ivs (forL (gdel a.n L) 0)))], [(2, some (.ab (rbX room (last) (gdel a.n L))))], []⟩), (160, .spec ⟨.t (.c (.b true)), [], [], []⟩), (162, .dec false), (163, .dec false),
          (165, .spec ⟨.t (.c (.nm 10)), [(true, .own 3 1 (forL (gdel a.n L) 1).length (ivs (forL (gdel a.n L) 1)))], [(1, some (.ab (bagX room (last) (gdel a.n L))))], []⟩), (167, .spec ⟨.t (.c (.nm 11)), [(true, .own 3 1 (forL (gdel a.n L) 1).length (ivs (forL (gdel a.n L) 1)))], [(2, some (.ab (rbX room (last) (gdel a.n L))))], []⟩), (168, .spec ⟨.t (.c (.b true)), [], [], []⟩), (170, .dec false), (172, .spec ⟨.tup [], [], [(6, none)], []⟩)] rfl ?_ ?_
        · (repeat' (first | exact trivial | exact rfl | exact trivial | exact fun _ => trivial | first | exact hrd | exact b0 | exact b1 | exact hk5 | first | exact takeX rfl a.n | exact rtakeX rfl hz0 a.n | exact y1 | exact y2 | exact forX rfl hB a.n | exact forX rfl hB 0 | exact forX rfl hB 1 | exact rforX rfl hz1 a.n | exact rforX rfl hz1 0 | exact rforX rfl hz1 1 | exact sameI (SlR.own rfl) (SlR.own rfl) (by omega) | exact spoilI_h rfl (by omega) | exact fun _ => rfl | rfl | decide | refine And.intro ?_ ?_))
        refine roundEnd ⟨gdel a.n L, last, i + 1, by omega, by omega, hB, by have := hl; omega⟩ [] (by show acts.length - (i + 1) < acts.length - i; omega) (by (repeat' (first | exact trivial | exact rfl | exact w3 | exact fun _ => w3 | refine And.intro ?_ ?_))) (by repeat' (first | exact trivial | exact rfl | refine And.intro ?_ ?_)) rfl
      | 2, _ =>
        rw [show a.kind % 5 = 2 from hke] at hk5
        have y1 : (baN room last L a.n != baN room last L a.n) = false := by simp
        have y2 : (baE room L a.n != baE room L a.n) = false := by simp
        have hB := bOk_again hT a.n
        have hz1 : (baL room last L a.n).length ≤ 1024 := by have := hB.len; have := hB.r2; omega
        have f1 := forL_le (baL room last L a.n) a.n
        have f2 := forL_le (baL room last L a.n) 0
        have f3 := forL_le (baL room last L a.n) 1
        refine rn [(61, .ld [iT a.kind, iT a.n, iT a.m.k, iT a.m.f, iT a.m.t, iT a.m.r, iT a.m.s, iT a.m.e, .s a.text]), (64, .ret (.t (.c (iT 2)))), (65, .dec false), (81, .dec false), (97, .dec true), (103, .spec ⟨.tup [.c (iT (baN room last L a.n)), .c (iT (baE room L a.n))], [], [(1, some (.ab (bagX room (baT room last L a.n) (baL room last L a.n))))], []⟩), (110, .spec ⟨.tup [.c (iT (baN room last L a.n)), .c (iT (baE room L a.n))], [], [(2, some (.ab (rbX room (baT room last L a.n) (baL room last L a.n))))], []⟩), (132, .spec ⟨.t (.c (.nm 6)), [(true, .own 3 1 (forL (baL room last L a.n) a.n).length (ivs (forL (baL room last L a.n) a.n)))], [(1, some (.ab (bagX room (baT room last L a.n) (baL room last L a.n))))], []⟩), (136, .dec false), (140, .dec false), (141, .dec false), (145, .dec false), (146, .dec false),
          (151, .spec ⟨.t (.c (.nm 7)), [(true, .own 3 1 (forL (baL room last L a.n) a.n).length (ivs (forL (baL room last L a.n) a.n)))], [(2, some (.ab (rbX room (baT room last L a.n) (baL room last L a.n))))], []⟩), (152, .spec ⟨.t (.c (.b true)), [], [], []⟩), (154, .dec false), (155, .dec false),
          (157, .spec ⟨.t (.c (.nm 8)), [(true, .own 3 1 (forL (baL room last L a.n) 0).length (ivs (forL (baL room last L a.n) 0)))], [(1, some (.ab (bagX room (baT room last L a.n) (baL room last L a.n))))], []⟩), (159, .spec ⟨.t (.c (.nm 9)), [(true, .own 3 1 (forL (baL room last L a.n) 0).length (ivs (forL (baL room last L a.n) 0)))], [(2, some (.ab (rbX room (baT room last L a.n) (baL room last L a.n))))], []⟩), (160, .spec ⟨.t (.c (.b true)), [], [], []⟩), (162, .dec false), (163, .dec false),
          (165, .spec ⟨.t (.c (.nm 10)), [(true, .own 3 1 (forL (baL room last L a.n) 1).length (ivs (forL (baL room last L a.n) 1)))], [(1, some (.ab (bagX room (baT room last L a.n) (baL room last L a.n))))], []⟩), (167, .spec ⟨.t (.c (.nm 11)), [(true, .own 3 1 (forL (baL room last L a.n) 1).length (ivs (forL (baL room last L a.n) 1)))], [(2, some (.ab (rbX room (baT room last L a.n) (baL room last L a.n))))], []⟩), (168, .spec ⟨.t (.c (.b true)), [], [], []⟩), (170, .dec false), (172, .spec ⟨.tup [], [], [(6, none)], []⟩)] rfl ?_ ?_
        · (repeat' (first | exact trivial | exact rfl | exact trivial | exact fun _ => trivial | first | exact hrd | exact b0 | exact b1 | exact hk5 | first | exact againX rfl hT hz a.n | exact ragainX rfl hT hz a.n | exact y1 | exact y2 | exact forX rfl hB a.n | exact forX rfl hB 0 | exact forX rfl hB 1 | exact rforX rfl hz1 a.n | exact rforX rfl hz1 0 | exact rforX rfl hz1 1 | exact sameI (SlR.own rfl) (SlR.own rfl) (by omega) | exact spoilI_h rfl (by omega) | exact fun _ => rfl | rfl | decide | refine And.intro ?_ ?_))
        refine roundEnd ⟨baL room last L a.n, baT room last L a.n, i + 1, by omega, by omega, hB, by have := baT_le room last L a.n; omega⟩ [] (by show acts.length - (i + 1) < acts.length - i; omega) (by (repeat' (first | exact trivial | exact rfl | exact w3 | exact fun _ => w3 | refine And.intro ?_ ?_))) (by repeat' (first | exact trivial | exact rfl | refine And.intro ?_ ?_)) rfl
      | 3, _ =>
        rw [show a.kind % 5 = 3 from hke] at hk5
        have y1 : (brN room last L a.text != brN room last L a.text) = false := by simp
        have y2 : (brE room L a.text != brE room L a.text) = false := by simp
        have hB := bOk_raw hT a.text
        have hz1 : (brL room last L a.text).length ≤ 1024 := by have := hB.len; have := hB.r2; omega
        have f1 := forL_le (brL room last L a.text) a.n
        have f2 := forL_le (brL room last L a.text) 0
        have f3 := forL_le (brL room last L a.text) 1
        refine rn [(61, .ld [iT a.kind, iT a.n, iT a.m.k, iT a.m.f, iT a.m.t, iT a.m.r, iT a.m.s, iT a.m.e, .s a.text]), (64, .ret (.t (.c (iT 3)))), (65, .dec false), (81, .dec false), (97, .dec false), (113, .dec true), (119, .spec ⟨.tup [.c (iT (brN room last L a.text)), .c (iT (brE room L a.text))], [], [(1, some (.ab (bagX room (brT room last L a.text) (brL room last L a.text))))], []⟩), (126, .spec ⟨.tup [.c (iT (brN room last L a.text)), .c (iT (brE room L a.text))], [], [(2, some (.ab (rbX room (brT room last L a.text) (brL room last L a.text))))], []⟩), (132, .spec ⟨.t (.c (.nm 6)), [(true, .own 3 1 (forL (brL room last L a.text) a.n).length (ivs (forL (brL room last L a.text) a.n)))], [(1, some (.ab (bagX room (brT room last L a.text) (brL room last L a.text))))], []⟩), (136, .dec false), (140, .dec false), (141, .dec false), (145, .dec false), (146, .dec false),
          (151, .spec ⟨.t (.c (.nm 7)), [(true, .own 3 1 (forL (brL room last L a.text) a.n).length (ivs (forL (brL room last L a.text) a.n)))], [(2, some (.ab (rbX room (brT room last L a.text) (brL room last L a.text))))], []⟩), (152, .spec ⟨.t (.c (.b true)), [], [], []⟩), (154, .dec false), (155, .dec false),
          (157, .spec ⟨.t (.c (.nm 8)), [(true, .own 3 1 (forL (brL room last L a.text) 0).length (ivs (forL (brL room last L a.text) 0)))], [(1, some (.ab (bagX room (brT room last L a.text) (brL room last L a.text))))], []⟩), (159, .spec ⟨.t (.c (.nm 9)), [(true, .own 3 1 (forL (brL room last L a.text) 0).length (ivs (forL (brL room last L a.text) 0)))], [(2, some (.ab (rbX room (brT room last L a.text) (brL room last L a.text))))], []⟩), (160, .spec ⟨.t (.c (.b true)), [], [], []⟩), (162, .dec false), (163, .dec false),
          (165, .spec ⟨.t (.c (.nm 10)), [(true, .own 3 1 (forL (brL room last L a.text) 1).length (ivs (forL (brL room last L a.text) 1)))], [(1, some (.ab (bagX room (brT room last L a.text) (brL room last L a.text))))], []⟩), (167, .spec ⟨.t (.c (.nm 11)), [(true, .own 3 1 (forL (brL room last L a.text) 1).length (ivs (forL (brL room last L a.text) 1)))], [(2, some (.ab (rbX room (brT room last L a.text) (brL room last L a.text))))], []⟩), (168, .spec ⟨.t (.c (.b true)), [], [], []⟩), (170, .dec false), (172, .spec ⟨.tup [], [], [(6, none)], []⟩)] rfl ?_ ?_
        · (repeat' (first | exact trivial | exact rfl | exact trivial | exact fun _ => trivial | first | exact hrd | exact b0 | exact b1 | exact hk5 | first | exact rawX rfl hT hz a.text ht | exact rrawX rfl hT hz a.text ht | exact y1 | exact y2 | exact forX rfl hB a.n | exact forX rfl hB 0 | exact forX rfl hB 1 | exact rforX rfl hz1 a.n | exact rforX rfl hz1 0 | exact rforX rfl hz1 1 | exact sameI (SlR.own rfl) (SlR.own rfl) (by omega) | exact spoilI_h rfl (by omega) | exact fun _ => rfl | rfl | decide | refine And.intro ?_ ?_))
        refine roundEnd ⟨brL room last L a.text, brT room last L a.text, i + 1, by omega, by omega, hB, by have := brT_le room last L a.text; omega⟩ [] (by show acts.length - (i + 1) < acts.length - i; omega) (by (repeat' (first | exact trivial | exact rfl | exact w3 | exact fun _ => w3 | refine And.intro ?_ ?_))) (by repeat' (first | exact trivial | exact rfl | refine And.intro ?_ ?_)) rfl
      | 4, _ =>
        rw [show a.kind % 5 = 4 from hke] at hk5
        have hB := hT
        have hz1 : (L).length ≤ 1024 := by have := hB.len; have := hB.r2; omega
        have f1 := forL_le (L) a.n
        have f2 := forL_le (L) 0
        have f3 := forL_le (L) 1
        refine rn [(61, .ld [iT a.kind, iT a.n, iT a.m.k, iT a.m.f, iT a.m.t, iT a.m.r, iT a.m.s, iT a.m.e, .s a.text]), (64, .ret (.t (.c (iT 4)))), (65, .dec false), (81, .dec false), (97, .dec false), (113, .dec false), (132, .spec ⟨.t (.c (.nm 6)), [(true, .own 3 1 (forL (L) a.n).length (ivs (forL (L) a.n)))], [(1, some (.ab (bagX room (last) (L))))], []⟩), (136, .dec false), (140, .dec false), (141, .dec false), (145, .dec false), (146, .dec false),
          (151, .spec ⟨.t (.c (.nm 7)), [(true, .own 3 1 (forL (L) a.n).length (ivs (forL (L) a.n)))], [(2, some (.ab (rbX room (last) (L))))], []⟩), (152, .spec ⟨.t (.c (.b true)), [], [], []⟩), (154, .dec false), (155, .dec false),
          (157, .spec ⟨.t (.c (.nm 8)), [(true, .own 3 1 (forL (L) 0).length (ivs (forL (L) 0)))], [(1, some (.ab (bagX room (last) (L))))], []⟩), (159, .spec ⟨.t (.c (.nm 9)), [(true, .own 3 1 (forL (L) 0).length (ivs (forL (L) 0)))], [(2, some (.ab (rbX room (last) (L))))], []⟩), (160, .spec ⟨.t (.c (.b true)), [], [], []⟩), (162, .dec false), (163, .dec false),
          (165, .spec ⟨.t (.c (.nm 10)), [(true, .own 3 1 (forL (L) 1).length (ivs (forL (L) 1)))], [(1, some (.ab (bagX room (last) (L))))], []⟩), (167, .spec ⟨.t (.c (.nm 11)), [(true, .own 3 1 (forL (L) 1).length (ivs (forL (L) 1)))], [(2, some (.ab (rbX room (last) (L))))], []⟩), (168, .spec ⟨.t (.c (.b true)), [], [], []⟩), (170, .dec false), (172, .spec ⟨.tup [], [], [(6, none)], []⟩)] rfl ?_ ?_
        · (repeat' (first | exact trivial | exact rfl | exact trivial | exact fun _ => trivial | first | exact hrd | exact b0 | exact b1 | exact hk5 | rfl | exact forX rfl hB a.n | exact forX rfl hB 0 | exact forX rfl hB 1 | exact rforX rfl hz1 a.n | exact rforX rfl hz1 0 | exact rforX rfl hz1 1 | exact sameI (SlR.own rfl) (SlR.own rfl) (by omega) | exact spoilI_h rfl (by omega) | exact fun _ => rfl | rfl | decide | refine And.intro ?_ ?_))
        refine roundEnd ⟨L, last, i + 1, by omega, by omega, hB, by have := hl; omega⟩ [] (by show acts.length - (i + 1) < acts.length - i; omega) (by (repeat' (first | exact trivial | exact rfl | exact w3 | exact fun _ => w3 | refine And.intro ?_ ?_))) (by repeat' (first | exact trivial | exact rfl | refine And.intro ?_ ?_)) rfl
    · refine rn [] rfl (by repeat' (first | exact trivial | exact rfl | refine And.intro ?_ ?_)) (roundExit rfl ?_)
      refine rnA [] rfl (by repeat' (first | exact trivial | exact rfl | refine And.intro ?_ ?_)) ?_
      exact ret0 tysOk rfl (by repeat' (first | exact trivial | exact rfl | refine And.intro ?_ ?_)) rfl
  · have hr' : room < 1 ∨ 1024 < room := by omega
    refine rn [(20, .spec ⟨.tup [.c .np, .c (iT 1)], [], [], []⟩), (25, .spec ⟨.tup [.c .np, .c (iT 1)], [], [], []⟩), (41, .spec ⟨.t (.c (.b true)), [], [], []⟩)] rfl ?_ ?_
    · repeat' (first | exact trivial | exact rfl | refine And.intro ?_ ?_)
      all_goals first | exact fun _ => bworks_h | exact bnewBad hr' | exact rnewBad hr'
    refine ⟨fun h => (by cases h), fun _ => ?_⟩
    refine rn [] rfl (by repeat' (first | exact trivial | exact rfl | refine And.intro ?_ ?_)) ?_
    refine At.loop (X := Unit) 1 (fun _ => 0) (fun _ => [(1, .t (.c (.nm 0))), (7, .t (.c .np)), (9, .t (.c (iT 0)))]) (fun _ => [(0, some (false, .rd 9 acts.length (bacells acts)))]) () [] (fun k => wf rfl rfl) (by repeat' (first | exact trivial | exact rfl | refine And.intro ?_ ?_)) (by repeat' (first | exact trivial | exact rfl | refine And.intro ?_ ?_)) rfl fun s => ?_
    refine rn [] rfl (by repeat' (first | exact trivial | exact rfl | refine And.intro ?_ ?_)) ?_
    refine ⟨fun h => ?_, fun h => ?_⟩
    · obtain ⟨q1, q2⟩ := Bool.and_eq_true_iff.1 h
      obtain ⟨q1, _⟩ := Bool.and_eq_true_iff.1 q1
      cases q1
    · refine rn [] rfl (by repeat' (first | exact trivial | exact rfl | refine And.intro ?_ ?_)) (roundExit rfl ?_)
      refine rnA [] rfl (by repeat' (first | exact trivial | exact rfl | refine And.intro ?_ ?_)) ?_
      exact ret0 tysOk rfl (by repeat' (first | exact trivial | exact rfl | refine And.intro ?_ ?_)) rfl
theorem bagPlays_true (room : Int) (acts : List BAct) (A1 : Option Addr) (c1 : Nat) (w : World) (zt : ∀ a ∈ acts, a.text.size ≤ 9223372036854775807) (zl : acts.length ≤ 100000000000000) (h1 : Vc.Rds w A1 acts.length c1 9 (bacells acts)) :
    Calls Try.prog 4 #[.int .i64 room, .slice A1 acts.length c1] w fun e w' => e = .returned (.bool true) ∧ RowKit.Below w.heap.size w w' := by
  obtain ⟨e, M, v0⟩ := memr1 h1
  have := fnh_law (bagPlays_h room acts zt zl) rfl rfl M
  rw [show ([.c (iT room), .c (.nm 0)] : List TV).map (TV.den e) = [.int .i64 room, e.val 0] from rfl, v0] at this
  exact this
end Cw
