/- The document's cache: its methods by reckoning. -/
import Derived.Test.YtaopblgnaoojkaaCach8
namespace Cw
open Go Vc
open Go.Proofs
set_option maxRecDepth 100000
def oneC (p : Int × Bd) : List Value := [.int .i64 p.1, .string p.2.s, .bool p.2.d, .int .i64 p.2.h]
def oneV (p : Int × Bd) : List CV := [iT p.1, .s p.2.s, .b p.2.d, iT p.2.h]
abbrev rcs (L : List (Int × Bd)) : List Value := fcs oneC L
theorem oneC_len (p : Int × Bd) : (oneC p).length = 4 := rfl
theorem rcs_length (L : List (Int × Bd)) : (rcs L).length = L.length * 4 := fcs_length oneC_len L
theorem rcs_at {L : List (Int × Bd)} {i : Nat} (h : i < L.length) : (rcs L)[(i : Int).toNat * 4]? = some (.int .i64 L[i].1) := fcs_at (c := 4) (j := 0) oneC_len h rfl
theorem rcs_d {L : List (Int × Bd)} {i : Nat} (h : i < L.length) : (rcs L)[(i : Int).toNat * 4 + 2]? = some (.bool L[i].2.d) := fcs_at (c := 4) (j := 2) oneC_len h rfl
theorem rcs_h {L : List (Int × Bd)} {i : Nat} (h : i < L.length) : (rcs L)[(i : Int).toNat * 4 + 3]? = some (.int .i64 L[i].2.h) := fcs_at (c := 4) (j := 3) oneC_len h rfl
theorem rcs_rd {L : List (Int × Bd)} {i : Nat} (h : i < L.length) : Vc.rowAt (rcs L) ((i : Int).toNat * 4) (oneV L[i]) :=
  have g := fun (j : Nat) (u : Value) (hu : (oneC L[i])[j]? = some u) => fcs_at (c := 4) oneC_len h hu
  ⟨g 0 _ rfl, g 1 _ rfl, g 2 _ rfl, g 3 _ rfl, trivial⟩
theorem oneC_one (p : Int × Bd) : ∀ u ∈ oneC p, u.oneCell' = true := by
  intro u hu
  simp only [oneC, List.mem_cons, List.not_mem_nil, or_false] at hu
  rcases hu with rfl | rfl | rfl | rfl <;> rfl
theorem rcs_one (L : List (Int × Bd)) : ∀ u ∈ rcs L, u.oneCell' = true := by
  intro u hu
  obtain ⟨l, hl, hu⟩ := List.mem_flatten.1 hu
  obtain ⟨p, _, rfl⟩ := List.mem_map.1 hl
  exact oneC_one p u hu
def rcO (room : Int) (L : List (Int × Bd)) (b : Nat) : List (Bool × Ob) :=
  [(true, .cells [iT room, .nm 1] 67), (true, .own 73 4 L.length (rcs L)), (false, .pin 0 b)]
def rcP (room : Int) (L : List (Int × Bd)) (b : Nat) : AbP := absP (rcO room L b) (.p 0 0)
theorem rc_pins (room : Int) (L : List (Int × Bd)) (b : Nat) : Pins (rcP room L b) (ptr b) := pins_abs (k := 2) rfl
def rcX (room : Int) (L : List (Int × Bd)) : AbP := exP (rcP room L)
theorem rcX_nn (room : Int) (L : List (Int × Bd)) : NotNil (rcX room L) := NotNil.ex fun b => rc_pins _ _ b
/-- The place of a sector. -/
def fxC (k : Int) (L : List (Int × Bd)) : Int := if L.findIdx (fun p => p.1 == k) < L.length then (L.findIdx (fun p => p.1 == k) : Nat) else -1
theorem fxC_ok (k : Int) : ∀ L : List (Int × Bd), (gget k L = none ∧ L.findIdx (fun p => p.1 == k) = L.length) ∨ ∃ i, ∃ h : i < L.length, L.findIdx (fun p => p.1 == k) = i ∧ gget k L = some L[i].2 ∧ L[i].1 = k ∧ gdel k L = L.eraseIdx i ∧ ∀ y, gset k y L = L.set i (k, y)
  | [] => .inl ⟨rfl, rfl⟩
  | (q, x) :: l => by
    by_cases hq : q = k
    · refine .inr ⟨0, by simp, by simp [List.findIdx_cons, hq], by simp [gget, hq], hq, by simp [gdel, hq], fun y => by simp [gset, hq]⟩
    · have hb : (q == k) = false := by simpa using hq
      rcases fxC_ok k l with ⟨h1, h2⟩ | ⟨i, h0, h1, h2, h3, h4, h5⟩
      · exact .inl ⟨by simp [gget, hq, h1], by simp [List.findIdx_cons, hb, h2]⟩
      · refine .inr ⟨i + 1, by simpa using h0, by simp [List.findIdx_cons, hb, h1], by simp [gget, hq, h2], by simpa using h3, by simp [gdel, hq, h4], fun y => by simp [gset, hq, h5 y]⟩
def r2' (l f : Nat) (n : Nat) : Nat := if n = 0 then l else f
section
variable {H : HL} {nx d l b : Nat} {b1 b2 : Bool} {room : Int} {L : List (Int × Bd)}
def hRC (room : Int) (L : List (Int × Bd)) : HL := [(0, some (false, .cells [iT room, .nm 1] 67)), (1, some (false, .own 73 4 L.length (rcs L)))]
theorem memRC (hd : lookH H d = some (b1, .cells [iT room, .nm l] 67)) (hl : lookH H l = some (b2, .own 73 4 L.length (rcs L))) : rdsOk (r2' d l) H (hRC room L) := ⟨⟨b1, hd⟩, ⟨b2, hl⟩, trivial⟩
set_option maxRecDepth 100000 in
set_option maxHeartbeats 1000000 in
theorem rcfind (hd : lookH H d = some (b1, .cells [iT room, .nm l] 67)) (hl : lookH H l = some (b2, .own 73 4 L.length (rcs L))) (z : L.length ≤ 1000000) (k : Int) :
    FnH Try.prog 41 [.c (.p d 0), .c (iT k)] H nx ⟨.t (.c (iT (fxC k L))), [], [], []⟩ := by
  refine fnR (fn := Try.f41) 26 rfl rfl rfl (args' := [.c (.p 0 0), .c (iT k)]) (H' := hRC room L) (nx' := 2) (fun e w M => ⟨_, mem_rd (r2' d l) (memRC hd hl) M, rfl⟩) rfl rfl rfl rfl fun w => ?_
  show At _ _ _ _ _ _ [(0, some (false, .cells [iT room, .nm 1] 67)), (1, some (false, .own 73 4 L.length (rcs L)))] 2
  refine rn [] rfl (by repeat' (first | exact trivial | exact rfl | refine And.intro ?_ ?_)) ?_
  refine At.loop (X := (i : Nat) ×' (i ≤ L.length ∧ i ≤ L.findIdx (fun p => p.1 == k))) 2 (fun s => L.length - s.1)
    (fun s => [(0, .t (.c (.p 0 0))), (1, .t (.c (iT k))), (5, .t (.c (iT (s.1 : Nat))))])
    (fun _ => [(0, some (false, .cells [iT room, .nm 1] 67)), (1, some (false, .own 73 4 L.length (rcs L)))]) ⟨0, by omega, by omega⟩ [] (fun s => wf rfl rfl) (by repeat' (first | exact trivial | exact rfl | refine And.intro ?_ ?_)) (by repeat' (first | exact trivial | exact rfl | refine And.intro ?_ ?_)) rfl fun s => ?_
  obtain ⟨i, h1, h2⟩ := s
  have w2 : IntKind.i64.wrap ((i : Int) + 1) = ((i + 1 : Nat) : Int) := by rw [wrap_small (by omega) (by omega)]; omega
  refine rn [] rfl (by repeat' (first | exact trivial | exact rfl | refine And.intro ?_ ?_)) ?_
  refine ⟨fun h => ?_, fun h => ?_⟩
  · have hlt : i < L.length := by have : (i : Int) < (L.length : Int) := of_decide_eq_true h; omega
    have e1 := rcs_at hlt
    have b0 : (0 : Int) ≤ (i : Int) := by omega
    have b1 : (i : Int) < (L.length : Int) := by omega
    have b2 : (i : Int).toNat * 4 < (rcs L).length := by rw [rcs_length]; omega
    refine rn [(22, .ld [iT L[i].1])] rfl (by (repeat' (first | exact trivial | exact rfl | exact e1 | exact fun _ => e1 | first | exact ⟨e1, trivial⟩ | exact b0 | exact b1 | exact b2 | decide | refine And.intro ?_ ?_))) ?_
    refine ⟨fun h => ?_, fun h => ?_⟩
    · have h' : (L[i].1 == k) = true := h
      have e2 : L.findIdx (fun p => p.1 == k) = i := (List.findIdx_eq hlt).2 ⟨h', fun j hj => by have := List.not_of_lt_findIdx (p := fun p : Int × Bd => p.1 == k) (xs := L) (i := j) (by omega); simpa using this⟩
      have e3 : fxC k L = (i : Int) := by rw [fxC, e2, if_pos hlt]
      refine rn [] rfl (by repeat' (first | exact trivial | exact rfl | refine And.intro ?_ ?_)) (roundRet ?_)
      rw [e3]
      exact ret0 tysOk rfl (by repeat' (first | exact trivial | exact rfl | refine And.intro ?_ ?_)) rfl
    · have h' : (L[i].1 == k) = false := h
      have hne : i + 1 ≤ L.findIdx (fun p => p.1 == k) := by
        rcases Nat.lt_or_eq_of_le h2 with h | h
        · omega
        · have := List.findIdx_getElem (p := fun p : Int × Bd => p.1 == k) (xs := L) (w := by omega)
          simp only [← h] at this
          rw [h'] at this
          cases this
      refine rn [] rfl (by repeat' (first | exact trivial | exact rfl | refine And.intro ?_ ?_)) ?_
      refine roundEnd ⟨i + 1, by omega, hne⟩ [] (by show L.length - (i + 1) < L.length - i; omega) (by (repeat' (first | exact trivial | exact rfl | exact w2 | exact fun _ => w2 | refine And.intro ?_ ?_))) (by repeat' (first | exact trivial | exact rfl | refine And.intro ?_ ?_)) rfl
  · have hlt : i = L.length := by have : ¬ (i : Int) < (L.length : Int) := of_decide_eq_false h; omega
    have e3 : fxC k L = -1 := by rw [fxC, if_neg (by omega)]
    refine rn [] rfl (by repeat' (first | exact trivial | exact rfl | refine And.intro ?_ ?_)) (roundExit rfl ?_)
    refine rnA [] rfl (by repeat' (first | exact trivial | exact rfl | refine And.intro ?_ ?_)) ?_
    rw [e3]
    exact ret0 tysOk rfl (by repeat' (first | exact trivial | exact rfl | refine And.intro ?_ ?_)) rfl
set_option maxRecDepth 100000 in
set_option maxHeartbeats 2000000 in
theorem rcwithout (hd : lookH H d = some (b1, .cells [iT room, .nm l] 67)) (hl : lookH H l = some (b2, .own 73 4 L.length (rcs L))) (z : L.length ≤ 1000000) {i : Nat} (h0 : i < L.length) :
    FnH Try.prog 42 [.c (.p d 0), .c (iT (i : Nat))] H nx ⟨.t (.c (.nm nx)), [(true, .own 73 4 (L.eraseIdx i).length (rcs (L.eraseIdx i)))], [], []⟩ := by
  refine fnN (fn := Try.f42) 21 rfl rfl rfl (args' := [.c (.p 0 0), .c (iT (i : Nat))]) (H' := hRC room L) (nx' := 2) (fun e w M => ⟨_, mem_rd (r2' d l) (memRC hd hl) M, rfl⟩) rfl rfl rfl (inR_one _) rfl fun w => ?_
  show At _ _ _ _ _ _ [(0, some (false, .cells [iT room, .nm 1] 67)), (1, some (false, .own 73 4 L.length (rcs L)))] 2
  have w1 : IntKind.i64.wrap ((i : Int) + 1) = (i : Int) + 1 := wrap_small (by omega) (by omega)
  have c0 : (0 : Int) ≤ (i : Int) := by omega
  have c2 : (i : Int) ≤ (L.length : Int) := by omega
  have c3 : (0 : Int) ≤ IntKind.i64.wrap ((i : Int) + 1) := by omega
  have c4 : IntKind.i64.wrap ((i : Int) + 1) ≤ (L.length : Int) := by omega
  have o1 := rcs_one L
  have hll : (rcs L).length = L.length * 4 := rcs_length L
  have m1 : 0 + (i : Int).toNat + (L.length - (IntKind.i64.wrap ((i : Int) + 1)).toNat) ≤ maxLen := by simp [maxLen]; omega
  have m2 : (0 + (i : Int).toNat + (L.length - (IntKind.i64.wrap ((i : Int) + 1)).toNat)) * 40 ≤ 140737488355328 := by omega
  have m3 : 0 + (i : Int).toNat ≤ maxLen := by simp [maxLen]; omega
  have m4 : (0 + (i : Int).toNat) * 40 ≤ 140737488355328 := by omega
  have m5 : (IntKind.i64.wrap ((i : Int) + 1)).toNat + (L.length - (IntKind.i64.wrap ((i : Int) + 1)).toNat) ≤ L.length := by omega
  have m6 : 0 + (i : Int).toNat ≤ L.length := by omega
  have w2 : (IntKind.i64.wrap ((i : Int) + 1)).toNat = i + 1 := by omega
  have e5 : 0 + (i : Int).toNat + (L.length - (IntKind.i64.wrap ((i : Int) + 1)).toNat) = (L.eraseIdx i).length := by
    rw [List.length_eraseIdx, if_pos h0, w2, Int.toNat_natCast]
    omega
  have e6 : app (app [] (((rcs L).drop 0).take ((i : Int).toNat * 4))) (((rcs L).drop ((IntKind.i64.wrap ((i : Int) + 1)).toNat * 4)).take ((L.length - (IntKind.i64.wrap ((i : Int) + 1)).toNat) * 4)) = rcs (L.eraseIdx i) := by
    obtain ⟨s1, _⟩ := fcs_split oneC_len L i (by omega)
    obtain ⟨_, s2⟩ := fcs_split oneC_len L (i + 1) (by omega)
    have s3 : (fcs oneC (L.drop (i + 1))).length = (L.length - (i + 1)) * 4 := by rw [fcs_length oneC_len, List.length_drop]
    rw [app_eq, app_eq, List.nil_append, List.drop_zero, w2, Int.toNat_natCast]
    show (fcs oneC L).take (i * 4) ++ ((fcs oneC L).drop ((i + 1) * 4)).take _ = _
    rw [s1, s2, ← s3, List.take_length, List.eraseIdx_eq_take_drop_succ]
    simp only [fcs, List.map_append, List.flatten_append]
  refine rn [(5, .dec true)] rfl (by (repeat' (first | exact trivial | exact rfl | exact trivial | exact fun _ => trivial | first | exact c0 | exact c2 | exact c3 | exact c4 | exact ⟨c0, c2⟩ | exact ⟨c3, c4⟩ | exact m1 | exact m2 | exact m3 | exact m4 | exact m5 | exact m6 | exact o1 | decide | refine And.intro ?_ ?_))) ?_
  exact retN tysOk [(nx, 4)] rfl (by simp only [retS, SV.eqs, eqsT, TV.eqs, CV.eqs, ren_one]; repeat' (first | exact trivial | exact rfl | refine And.intro ?_ ?_)) (by simp only [newsH, subH, ren_one]; (repeat' (first | exact trivial | exact rfl | exact trivial | exact fun _ => trivial | first | exact e5 | exact e6 | refine And.intro ?_ ?_))) (by simp [injK, keysH, newsH, inL]) rfl
end
theorem rcs_app (L : List (Int × Bd)) (p : Int × Bd) : app (rcs L) (oneC p) = rcs (L ++ [p]) := by rw [app_eq]; exact (fcs_app oneC L p).symm
section
variable {H : HL} {nx d b : Nat} {room : Int} {L : List (Int × Bd)}
theorem rcfi (z : L.length ≤ 256) (k : Int) (H : HL) (nx : Nat) (h1 : lookH H 1 = some (true, .cells [iT room, .nm 2] 67)) (h2 : lookH H 2 = some (true, .own 73 4 L.length (rcs L))) :
    FnH Try.prog 41 [.c (.p 1 0), .c (iT k)] H nx ⟨.t (.c (iT (fxC k L))), [], [], []⟩ := rcfind h1 h2 (by omega) k
theorem rcwi (z : L.length ≤ 256) {i : Nat} (h0 : i < L.length) (H : HL) (nx : Nat) (h1 : lookH H 1 = some (true, .cells [iT room, .nm 2] 67)) (h2 : lookH H 2 = some (true, .own 73 4 L.length (rcs L))) :
    FnH Try.prog 42 [.c (.p 1 0), .c (iT (i : Nat))] H nx ⟨.t (.c (.nm nx)), [(true, .own 73 4 (L.eraseIdx i).length (rcs (L.eraseIdx i)))], [], []⟩ := rcwithout h1 h2 (by omega) h0
set_option maxRecDepth 100000 in
set_option maxHeartbeats 2000000 in
theorem rgetA (hd : lookH H d = some (true, .ab (rcP room L b))) (z : L.length ≤ 256) (k : Int) :
    FnH Try.prog 29 [.c (.nm d), .c (iT k)] H nx ⟨.tup [.c (.s (getR L k)), .c (.b (getB L k))], [], [(d, some (.ab (rcP room (getS L k) b)))], []⟩ := by
  refine fnA (fn := Try.f29) 31 rfl rfl rfl hd (ptr b) (rc_pins _ _ _) (rc_pins _ _ _) rfl rfl rfl (v' := .tup [.c (.s (getR L k)), .c (.b (getB L k))]) (news' := []) rfl rfl rfl rfl fun w Wr => ?_
  refine At.unfoldTo 0 (L1 := (0, .t (.c (.p 1 0))) :: [(1, .t (.c (iT k)))]) (H1 := [(1, some (true, .cells [iT room, .nm 2] 67)), (2, some (true, .own 73 4 L.length (rcs L))), (3, some (false, .pin 1 b)), (0, none), (0, some (true, .ab (rcP room L b)))]) (nx1 := 4) rfl rfl rfl rfl rfl rfl ?_
  have hfi := rcfi (room := room) z k
  unfold getR getB getS
  rcases fxC_ok k L with ⟨h1, h2⟩ | ⟨i, h0, h1, h2, h3, h4, _⟩
  · have e0 : fxC k L = -1 := by rw [fxC, if_neg (by omega)]
    rw [e0] at hfi
    rw [h1]
    refine rn [(10, .spec ⟨.t (.c (iT (-1))), [], [], []⟩), (12, .dec true)] rfl (by (repeat' (first | exact trivial | exact rfl | exact trivial | exact fun _ => trivial | first | exact hfi _ _ rfl rfl | decide | refine And.intro ?_ ?_))) ?_
    refine Done.fold [(0, 1), (1, 2), (2, 3)] (rcO room (L) b) (.p 0 0) (by (repeat' (first | exact trivial | exact rfl | exact trivial | exact fun _ => trivial | trivial | refine And.intro ?_ ?_))) rfl rfl (fun _ => rfl) ?_
    exact retM tysOk [(0, 4)] rfl (by (repeat' (first | exact trivial | exact rfl | exact trivial | exact fun _ => trivial | trivial | refine And.intro ?_ ?_))) (by repeat' (first | exact trivial | exact rfl | refine And.intro ?_ ?_)) rfl rfl
  · have e0 : fxC k L = (i : Nat) := by rw [fxC, h1, if_pos h0]
    have hwi := rcwi (room := room) z h0
    rw [e0] at hfi
    rw [h2, h4]
    have r1 := rcs_rd h0
    have g1 : decide ((i : Int) < 0) = false := decide_eq_false (by omega)
    have c0 : (0 : Int) ≤ (i : Int) := by omega
    have c1 : (i : Int) < (L.length : Int) := by omega
    have c5 : (i : Int).toNat * 4 < (rcs L).length := by rw [rcs_length]; omega
    have o1 := rcs_one (L.eraseIdx i)
    have o2 := oneC_one L[i]
    have hle : (L.eraseIdx i).length ≤ L.length := (List.eraseIdx_sublist L i).length_le
    have m1 : (L.eraseIdx i).length + 1 ≤ maxLen := by simp [maxLen]; omega
    have m2 : ((L.eraseIdx i).length + 1) * 40 ≤ 140737488355328 := by omega
    have e5 : (L.eraseIdx i).length + 1 = (L.eraseIdx i ++ [L[i]]).length := by simp
    have e6 := rcs_app (L.eraseIdx i) L[i]
    have e7 : (k, L[i].2) = L[i] := by rw [← h3]
    rw [show (some L[i].2).isSome = true from rfl]
    simp only [e7]
    refine rn [(10, .spec ⟨.t (.c (iT (i : Nat))), [], [], []⟩), (12, .dec false), (19, .ld (oneV L[i])), (23, .spec ⟨.t (.c (.nm 5)), [(true, .own 73 4 (L.eraseIdx i).length (rcs (L.eraseIdx i)))], [], []⟩), (25, .dec true)] rfl (by (repeat' (first | exact trivial | exact rfl | exact trivial | exact fun _ => trivial | first | exact hfi _ _ rfl rfl | exact hwi _ _ rfl rfl | exact g1 | exact r1 | exact c0 | exact c1 | exact c5 | exact m1 | exact m2 | exact o1 | exact o2 | decide | refine And.intro ?_ ?_))) ?_
    refine Done.fold [(0, 1), (1, 7), (2, 3)] (rcO room (L.eraseIdx i ++ [L[i]]) b) (.p 0 0) (by (repeat' (first | exact trivial | exact rfl | exact trivial | exact fun _ => trivial | first | exact e5 | exact e6 | refine And.intro ?_ ?_))) rfl rfl (fun _ => rfl) ?_
    exact retM tysOk [(0, 8)] rfl (by (repeat' (first | exact trivial | exact rfl | exact trivial | exact fun _ => trivial | first | exact e5 | exact e6 | refine And.intro ?_ ?_))) (by repeat' (first | exact trivial | exact rfl | refine And.intro ?_ ?_)) rfl rfl
end
theorem setAt_one {xs : List Value} {k : Nat} {v : Value} (h : k < xs.length) : Vc.setAt xs k [v] = xs.set k v := by
  rw [List.set_eq_take_append_cons_drop, if_pos h]
  simp [Vc.setAt]
theorem set_fcs {α : Type} {f : α → List Value} {c : Nat} (hc : ∀ a, (f a).length = c) {l : List α} {i j : Nat} {v : Value} {a' : α} (h : i < l.length) (hj : j < c) (ha : (f l[i]).set j v = f a') : Vc.setAt (fcs f l) (i * c + j) [v] = fcs f (l.set i a') := by
  have e0 : ∀ (x y : List α), fcs f (x ++ y) = fcs f x ++ fcs f y := fun x y => by simp only [fcs, List.map_append, List.flatten_append]
  have e1 : fcs f l = fcs f (l.take i) ++ (f l[i] ++ fcs f (l.drop (i + 1))) := by
    have : l = l.take i ++ l[i] :: l.drop (i + 1) := by rw [List.getElem_cons_drop, List.take_append_drop]
    conv => lhs; rw [this, e0]
    rfl
  have hl : (fcs f (l.take i)).length = i * c := by rw [fcs_length hc, List.length_take, Nat.min_eq_left (by omega)]
  have hlt : i * c + j < (fcs f l).length := by
    rw [fcs_length hc]
    have : (i + 1) * c ≤ l.length * c := Nat.mul_le_mul_right _ (by omega)
    rw [Nat.add_mul] at this
    omega
  rw [setAt_one hlt, e1, List.set_append_right _ _ (by omega), hl, Nat.add_sub_cancel_left, List.set_append_left _ _ (by rw [hc]; exact hj), ha, List.set_eq_take_append_cons_drop, if_pos h, e0]
  rfl
section
variable {H : HL} {nx d b : Nat} {room : Int} {L : List (Int × Bd)}
set_option maxRecDepth 100000 in
set_option maxHeartbeats 2000000 in
theorem rchNo (hd : lookH H d = some (true, .ab (rcP room L b))) (z : L.length ≤ 256) (k by' : Int) (hg : gget k L = none) :
    FnH Try.prog 43 [.c (.nm d), .c (iT k), .c (iT by')] H nx ⟨.t (.c (iT 5)), [], [(d, some (.ab (rcP room L b)))], []⟩ := by
  refine fnA (fn := Try.f43) 47 rfl rfl rfl hd (ptr b) (rc_pins _ _ _) (rc_pins _ _ _) rfl rfl rfl (v' := .t (.c (iT 5))) (news' := []) rfl rfl rfl rfl fun w Wr => ?_
  refine At.unfoldTo 0 (L1 := (0, .t (.c (.p 1 0))) :: [(1, .t (.c (iT k))), (2, .t (.c (iT by')))]) (H1 := [(1, some (true, .cells [iT room, .nm 2] 67)), (2, some (true, .own 73 4 L.length (rcs L))), (3, some (false, .pin 1 b)), (0, none), (0, some (true, .ab (rcP room L b)))]) (nx1 := 4) rfl rfl rfl rfl rfl rfl ?_
  have hfi := rcfi (room := room) z k
  rcases fxC_ok k L with ⟨h1, h2⟩ | ⟨i, h0, h1, h2, _⟩
  · have e0 : fxC k L = -1 := by rw [fxC, if_neg (by omega)]
    rw [e0] at hfi
    refine rn [(10, .spec ⟨.t (.c (iT (-1))), [], [], []⟩), (12, .dec true)] rfl (by (repeat' (first | exact trivial | exact rfl | exact trivial | exact fun _ => trivial | first | exact hfi _ _ rfl rfl | decide | refine And.intro ?_ ?_))) ?_
    refine Done.fold [(0, 1), (1, 2), (2, 3)] (rcO room (L) b) (.p 0 0) (by (repeat' (first | exact trivial | exact rfl | exact trivial | exact fun _ => trivial | trivial | refine And.intro ?_ ?_))) rfl rfl (fun _ => rfl) ?_
    exact retM tysOk [(0, 4)] rfl (by (repeat' (first | exact trivial | exact rfl | exact trivial | exact fun _ => trivial | trivial | refine And.intro ?_ ?_))) (by repeat' (first | exact trivial | exact rfl | refine And.intro ?_ ?_)) rfl rfl
  · rw [h2] at hg; cases hg
set_option maxRecDepth 100000 in
set_option maxHeartbeats 4000000 in
theorem rholdA (hd : lookH H d = some (true, .ab (rcP room L b))) (z : L.length ≤ 256) (k : Int) {x : Bd} (hg : gget k L = some x) (hx : 0 ≤ x.h ∧ x.h ≤ 1000000) :
    FnH Try.prog 43 [.c (.nm d), .c (iT k), .c (iT 1)] H nx ⟨.t (.c (iT 0)), [], [(d, some (.ab (rcP room (gset k { x with h := x.h + 1 } L) b)))], []⟩ := by
  refine fnA (fn := Try.f43) 47 rfl rfl rfl hd (ptr b) (rc_pins _ _ _) (rc_pins _ _ _) rfl rfl rfl (v' := .t (.c (iT 0))) (news' := []) rfl rfl rfl rfl fun w Wr => ?_
  refine At.unfoldTo 0 (L1 := (0, .t (.c (.p 1 0))) :: [(1, .t (.c (iT k))), (2, .t (.c (iT 1)))]) (H1 := [(1, some (true, .cells [iT room, .nm 2] 67)), (2, some (true, .own 73 4 L.length (rcs L))), (3, some (false, .pin 1 b)), (0, none), (0, some (true, .ab (rcP room L b)))]) (nx1 := 4) rfl rfl rfl rfl rfl rfl ?_
  have hfi := rcfi (room := room) z k
  rcases fxC_ok k L with ⟨h1, h2⟩ | ⟨i, h0, h1, h2, h3, _, h5⟩
  · rw [h1] at hg; cases hg
  have hxi : L[i].2 = x := by rw [h2] at hg; exact Option.some.inj hg
  have e0 : fxC k L = (i : Nat) := by rw [fxC, h1, if_pos h0]
  rw [e0] at hfi
  have q1 := rcs_h h0
  rw [hxi] at q1
  have g1 : decide ((i : Int) < 0) = false := decide_eq_false (by omega)
  have c0 : (0 : Int) ≤ (i : Int) := by omega
  have c1 : (i : Int) < (L.length : Int) := by omega
  have c5 : (i : Int).toNat * 4 < (rcs L).length := by rw [rcs_length]; omega
  have c6 : (i : Int).toNat * 4 + 3 + 1 ≤ (rcs L).length := by rw [rcs_length]; omega
  have w1 : IntKind.i64.wrap (x.h + 1) = x.h + 1 := wrap_small (by omega) (by omega)
  have e6 : Vc.setAt (rcs L) ((i : Int).toNat * 4 + 3) [Value.int .i64 (IntKind.i64.wrap (x.h + 1))] = rcs (L.set i (k, { x with h := x.h + 1 })) := by
    rw [w1, Int.toNat_natCast]
    exact set_fcs oneC_len h0 (by decide) (by rw [show L[i] = (L[i].1, L[i].2) from rfl, h3, hxi]; rfl)
  rw [h5]
  refine rn [(10, .spec ⟨.t (.c (iT (i : Nat))), [], [], []⟩), (12, .dec false), (15, .dec false), (25, .dec false), (33, .ld [iT x.h]), (39, .dec false)] rfl (by (repeat' (first | exact trivial | exact rfl | exact trivial | exact fun _ => trivial | first | exact hfi _ _ rfl rfl | exact g1 | exact q1 | exact ⟨q1, trivial⟩ | exact c0 | exact c1 | exact c5 | exact c6 | decide | refine And.intro ?_ ?_))) ?_
  refine Done.fold [(0, 1), (1, 2), (2, 3)] (rcO room (L.set i (k, { x with h := x.h + 1 })) b) (.p 0 0) (by (repeat' (first | exact trivial | exact rfl | exact trivial | exact fun _ => trivial | first | exact e6 | (simp; done) | refine And.intro ?_ ?_))) rfl rfl (fun _ => rfl) ?_
  exact retM tysOk [(0, 4)] rfl (by (repeat' (first | exact trivial | exact rfl | exact trivial | exact fun _ => trivial | first | exact e6 | (simp; done) | refine And.intro ?_ ?_))) (by repeat' (first | exact trivial | exact rfl | refine And.intro ?_ ?_)) rfl rfl
set_option maxRecDepth 100000 in
set_option maxHeartbeats 4000000 in
theorem rfreeZ (hd : lookH H d = some (true, .ab (rcP room L b))) (z : L.length ≤ 256) (k : Int) {x : Bd} (hg : gget k L = some x) (hx : x.h = 0) :
    FnH Try.prog 43 [.c (.nm d), .c (iT k), .c (iT (-1))] H nx ⟨.t (.c (iT 130)), [], [(d, some (.ab (rcP room L b)))], []⟩ := by
  refine fnA (fn := Try.f43) 47 rfl rfl rfl hd (ptr b) (rc_pins _ _ _) (rc_pins _ _ _) rfl rfl rfl (v' := .t (.c (iT 130))) (news' := []) rfl rfl rfl rfl fun w Wr => ?_
  refine At.unfoldTo 0 (L1 := (0, .t (.c (.p 1 0))) :: [(1, .t (.c (iT k))), (2, .t (.c (iT (-1))))]) (H1 := [(1, some (true, .cells [iT room, .nm 2] 67)), (2, some (true, .own 73 4 L.length (rcs L))), (3, some (false, .pin 1 b)), (0, none), (0, some (true, .ab (rcP room L b)))]) (nx1 := 4) rfl rfl rfl rfl rfl rfl ?_
  have hfi := rcfi (room := room) z k
  rcases fxC_ok k L with ⟨h1, h2⟩ | ⟨i, h0, h1, h2, h3, _, h5⟩
  · rw [h1] at hg; cases hg
  have hxi : L[i].2 = x := by rw [h2] at hg; exact Option.some.inj hg
  have e0 : fxC k L = (i : Nat) := by rw [fxC, h1, if_pos h0]
  rw [e0] at hfi
  have q1 := rcs_h h0
  rw [hxi, hx] at q1
  have g1 : decide ((i : Int) < 0) = false := decide_eq_false (by omega)
  have c0 : (0 : Int) ≤ (i : Int) := by omega
  have c1 : (i : Int) < (L.length : Int) := by omega
  have c5 : (i : Int).toNat * 4 < (rcs L).length := by rw [rcs_length]; omega
  refine rn [(10, .spec ⟨.t (.c (iT (i : Nat))), [], [], []⟩), (12, .dec false), (15, .dec true), (23, .ld [iT 0]), (25, .dec true)] rfl (by (repeat' (first | exact trivial | exact rfl | exact trivial | exact fun _ => trivial | first | exact hfi _ _ rfl rfl | exact g1 | exact q1 | exact ⟨q1, trivial⟩ | exact c0 | exact c1 | exact c5 | decide | refine And.intro ?_ ?_))) ?_
  refine Done.fold [(0, 1), (1, 2), (2, 3)] (rcO room (L) b) (.p 0 0) (by (repeat' (first | exact trivial | exact rfl | exact trivial | exact fun _ => trivial | trivial | refine And.intro ?_ ?_))) rfl rfl (fun _ => rfl) ?_
  exact retM tysOk [(0, 4)] rfl (by (repeat' (first | exact trivial | exact rfl | exact trivial | exact fun _ => trivial | trivial | refine And.intro ?_ ?_))) (by repeat' (first | exact trivial | exact rfl | refine And.intro ?_ ?_)) rfl rfl
set_option maxRecDepth 100000 in
set_option maxHeartbeats 4000000 in
theorem rfreeA (hd : lookH H d = some (true, .ab (rcP room L b))) (z : L.length ≤ 256) (k : Int) {x : Bd} (hg : gget k L = some x) (hx : 1 ≤ x.h ∧ x.h ≤ 1000000) :
    FnH Try.prog 43 [.c (.nm d), .c (iT k), .c (iT (-1))] H nx ⟨.t (.c (iT 0)), [], [(d, some (.ab (rcP room (gset k { x with h := x.h - 1 } L) b)))], []⟩ := by
  refine fnA (fn := Try.f43) 47 rfl rfl rfl hd (ptr b) (rc_pins _ _ _) (rc_pins _ _ _) rfl rfl rfl (v' := .t (.c (iT 0))) (news' := []) rfl rfl rfl rfl fun w Wr => ?_
  refine At.unfoldTo 0 (L1 := (0, .t (.c (.p 1 0))) :: [(1, .t (.c (iT k))), (2, .t (.c (iT (-1))))]) (H1 := [(1, some (true, .cells [iT room, .nm 2] 67)), (2, some (true, .own 73 4 L.length (rcs L))), (3, some (false, .pin 1 b)), (0, none), (0, some (true, .ab (rcP room L b)))]) (nx1 := 4) rfl rfl rfl rfl rfl rfl ?_
  have hfi := rcfi (room := room) z k
  rcases fxC_ok k L with ⟨h1, h2⟩ | ⟨i, h0, h1, h2, h3, _, h5⟩
  · rw [h1] at hg; cases hg
  have hxi : L[i].2 = x := by rw [h2] at hg; exact Option.some.inj hg
  have e0 : fxC k L = (i : Nat) := by rw [fxC, h1, if_pos h0]
  rw [e0] at hfi
  have q1 := rcs_h h0
  rw [hxi] at q1
  have g1 : decide ((i : Int) < 0) = false := decide_eq_false (by omega)
  have g2 : (x.h == 0) = false := by simp; omega
  have c0 : (0 : Int) ≤ (i : Int) := by omega
  have c1 : (i : Int) < (L.length : Int) := by omega
  have c5 : (i : Int).toNat * 4 < (rcs L).length := by rw [rcs_length]; omega
  have c6 : (i : Int).toNat * 4 + 3 + 1 ≤ (rcs L).length := by rw [rcs_length]; omega
  have w1 : IntKind.i64.wrap (x.h + (-1)) = x.h - 1 := wrap_small (by omega) (by omega)
  have e6 : Vc.setAt (rcs L) ((i : Int).toNat * 4 + 3) [Value.int .i64 (IntKind.i64.wrap (x.h + (-1)))] = rcs (L.set i (k, { x with h := x.h - 1 })) := by
    rw [w1, Int.toNat_natCast]
    exact set_fcs oneC_len h0 (by decide) (by rw [show L[i] = (L[i].1, L[i].2) from rfl, h3, hxi]; rfl)
  rw [h5]
  refine rn [(10, .spec ⟨.t (.c (iT (i : Nat))), [], [], []⟩), (12, .dec false), (15, .dec true), (23, .ld [iT x.h]), (25, .dec false), (33, .ld [iT x.h]), (39, .dec false)] rfl (by (repeat' (first | exact trivial | exact rfl | exact trivial | exact fun _ => trivial | first | exact hfi _ _ rfl rfl | exact g1 | exact g2 | exact q1 | exact ⟨q1, trivial⟩ | exact c0 | exact c1 | exact c5 | exact c6 | decide | refine And.intro ?_ ?_))) ?_
  refine Done.fold [(0, 1), (1, 2), (2, 3)] (rcO room (L.set i (k, { x with h := x.h - 1 })) b) (.p 0 0) (by (repeat' (first | exact trivial | exact rfl | exact trivial | exact fun _ => trivial | first | exact e6 | (simp; done) | refine And.intro ?_ ?_))) rfl rfl (fun _ => rfl) ?_
  exact retM tysOk [(0, 4)] rfl (by (repeat' (first | exact trivial | exact rfl | exact trivial | exact fun _ => trivial | first | exact e6 | (simp; done) | refine And.intro ?_ ?_))) (by repeat' (first | exact trivial | exact rfl | refine And.intro ?_ ?_)) rfl rfl
set_option maxRecDepth 100000 in
set_option maxHeartbeats 4000000 in
theorem rcleanA (hd : lookH H d = some (true, .ab (rcP room L b))) (z : L.length ≤ 256) (k : Int) {x : Bd} (hg : gget k L = some x) (hx : 0 ≤ x.h ∧ x.h ≤ 1000000) :
    FnH Try.prog 43 [.c (.nm d), .c (iT k), .c (iT 0)] H nx ⟨.t (.c (iT 0)), [], [(d, some (.ab (rcP room (gset k { x with d := false } L) b)))], []⟩ := by
  refine fnA (fn := Try.f43) 47 rfl rfl rfl hd (ptr b) (rc_pins _ _ _) (rc_pins _ _ _) rfl rfl rfl (v' := .t (.c (iT 0))) (news' := []) rfl rfl rfl rfl fun w Wr => ?_
  refine At.unfoldTo 0 (L1 := (0, .t (.c (.p 1 0))) :: [(1, .t (.c (iT k))), (2, .t (.c (iT 0)))]) (H1 := [(1, some (true, .cells [iT room, .nm 2] 67)), (2, some (true, .own 73 4 L.length (rcs L))), (3, some (false, .pin 1 b)), (0, none), (0, some (true, .ab (rcP room L b)))]) (nx1 := 4) rfl rfl rfl rfl rfl rfl ?_
  have hfi := rcfi (room := room) z k
  rcases fxC_ok k L with ⟨h1, h2⟩ | ⟨i, h0, h1, h2, h3, _, h5⟩
  · rw [h1] at hg; cases hg
  have hxi : L[i].2 = x := by rw [h2] at hg; exact Option.some.inj hg
  have e0 : fxC k L = (i : Nat) := by rw [fxC, h1, if_pos h0]
  rw [e0] at hfi
  have q1 := rcs_h h0
  rw [hxi] at q1
  have g1 : decide ((i : Int) < 0) = false := decide_eq_false (by omega)
  have c0 : (0 : Int) ≤ (i : Int) := by omega
  have c1 : (i : Int) < (L.length : Int) := by omega
  have c5 : (i : Int).toNat * 4 < (rcs L).length := by rw [rcs_length]; omega
  have c6 : (i : Int).toNat * 4 + 3 + 1 ≤ (rcs L).length := by rw [rcs_length]; omega
  have w1 : IntKind.i64.wrap (x.h + 0) = x.h := by rw [wrap_small (by omega) (by omega)]; omega
  have e6 : Vc.setAt (rcs L) ((i : Int).toNat * 4 + 3) [Value.int .i64 (IntKind.i64.wrap (x.h + 0))] = rcs (L.set i (k, x)) := by
    rw [w1, Int.toNat_natCast]
    exact set_fcs oneC_len h0 (by decide) (by rw [show L[i] = (L[i].1, L[i].2) from rfl, h3, hxi]; rfl)
  have hs : i < (L.set i (k, x)).length := by simpa using h0
  have e7 : Vc.setAt (Vc.setAt (rcs L) ((i : Int).toNat * 4 + 3) [Value.int .i64 (IntKind.i64.wrap (x.h + 0))]) ((i : Int).toNat * 4 + 2) [Value.bool false] = rcs (L.set i (k, { x with d := false })) := by
    rw [e6, Int.toNat_natCast]
    have := set_fcs (f := oneC) (v := Value.bool false) (a' := (k, { x with d := false })) oneC_len hs (j := 2) (by decide) (by rw [List.getElem_set_self]; rfl)
    rw [List.set_set] at this
    exact this
  have c8 : (i : Int).toNat * 4 < (Vc.setAt (rcs L) ((i : Int).toNat * 4 + 3) [Value.int .i64 (IntKind.i64.wrap (x.h + 0))]).length := by rw [e6, rcs_length, List.length_set]; omega
  have c9 : (i : Int).toNat * 4 + 2 + 1 ≤ (Vc.setAt (rcs L) ((i : Int).toNat * 4 + 3) [Value.int .i64 (IntKind.i64.wrap (x.h + 0))]).length := by rw [e6, rcs_length, List.length_set]; omega
  rw [h5]
  refine rn [(10, .spec ⟨.t (.c (iT (i : Nat))), [], [], []⟩), (12, .dec false), (15, .dec false), (25, .dec false), (33, .ld [iT x.h]), (39, .dec true)] rfl (by (repeat' (first | exact trivial | exact rfl | exact trivial | exact fun _ => trivial | first | exact hfi _ _ rfl rfl | exact g1 | exact q1 | exact ⟨q1, trivial⟩ | exact c0 | exact c1 | exact c5 | exact c6 | exact c8 | exact c9 | decide | refine And.intro ?_ ?_))) ?_
  refine Done.fold [(0, 1), (1, 2), (2, 3)] (rcO room (L.set i (k, { x with d := false })) b) (.p 0 0) (by (repeat' (first | exact trivial | exact rfl | exact trivial | exact fun _ => trivial | first | exact e7 | (simp; done) | refine And.intro ?_ ?_))) rfl rfl (fun _ => rfl) ?_
  exact retM tysOk [(0, 4)] rfl (by (repeat' (first | exact trivial | exact rfl | exact trivial | exact fun _ => trivial | first | exact e7 | (simp; done) | refine And.intro ?_ ?_))) (by repeat' (first | exact trivial | exact rfl | refine And.intro ?_ ?_)) rfl rfl
end
section
variable {H : HL} {nx d : Nat} {n room : Int} {L : List (Int × Bd)}
theorem rcX_st (room : Int) (L : List (Int × Bd)) : ∀ b, stable (rcP room L b) := fun b => absP_stable _ _
theorem rclen (ok : LOk n room L) : L.length ≤ 256 := by have := ok.len; have := ok.rm; omega
theorem rgetL (hd : lookH H d = some (true, .ab (rcX room L))) (ok : LOk n room L) (k : Int) :
    FnH Try.prog 29 [.c (.nm d), .c (iT k)] H nx ⟨.tup [.c (.s (getR L k)), .c (.b (getB L k))], [], [(d, some (.ab (rcX room (getS L k))))], []⟩ :=
  fnh_ex hd (rcX_st _ _) (rcX_st _ _) fun b => rgetA (by rw [lookH_cons, if_pos rfl]) (rclen ok) k
theorem rchangeL {b : Nat} (hd : lookH H d = some (true, .ab (rcP room L b))) (ok : LOk n room L) (hz : n ≤ 1000) (k : Int) :
    FnH Try.prog 43 [.c (.nm d), .c (iT k), .c (iT 1)] H nx ⟨.t (.c (iT (holdR L k).1)), [], [(d, some (.ab (rcP room (holdR L k).2 b)))], []⟩ ∧
    FnH Try.prog 43 [.c (.nm d), .c (iT k), .c (iT (-1))] H nx ⟨.t (.c (iT (freeR L k).1)), [], [(d, some (.ab (rcP room (freeR L k).2 b)))], []⟩ ∧
    FnH Try.prog 43 [.c (.nm d), .c (iT k), .c (iT 0)] H nx ⟨.t (.c (iT (cleanR L k).1)), [], [(d, some (.ab (rcP room (cleanR L k).2 b)))], []⟩ := by
  have hl := rclen ok
  unfold holdR freeR cleanR
  cases hg : gget k L with
  | none => exact ⟨rchNo hd hl k 1 hg, rchNo hd hl k (-1) hg, rchNo hd hl k 0 hg⟩
  | some x =>
    have hx := ok.h _ (gget_mem hg)
    simp only at hx
    refine ⟨rholdA hd hl k hg (by omega), ?_, rcleanA hd hl k hg (by omega)⟩
    by_cases h0 : x.h = 0
    · simp only [if_pos h0]
      exact rfreeZ hd hl k hg h0
    · simp only [if_neg h0]
      exact rfreeA hd hl k hg (by omega)
theorem rholdP {b : Nat} (hd : lookH H d = some (true, .ab (rcP room L b))) (ok : LOk n room L) (hz : n ≤ 1000) (k : Int) :
    FnH Try.prog 30 [.c (.nm d), .c (iT k)] H nx ⟨.t (.c (iT (holdR L k).1)), [], [(d, some (.ab (rcP room (holdR L k).2 b)))], []⟩ := by
  refine fnA (fn := Try.f30) 8 rfl rfl rfl hd (ptr b) (rc_pins _ _ _) (rc_pins _ _ _) rfl rfl rfl (v' := .t (.c (iT (holdR L k).1))) (news' := []) rfl rfl rfl rfl fun w Wr => ?_
  refine rn [(7, .spec ⟨.t (.c (iT (holdR L k).1)), [], [(0, some (.ab (rcP room (holdR L k).2 b)))], []⟩)] rfl (by (repeat' (first | exact trivial | exact rfl | exact (rchangeL rfl ok hz k).1 | exact fun _ => (rchangeL rfl ok hz k).1 | refine And.intro ?_ ?_))) ?_
  exact retM tysOk [(0, 0)] rfl (by repeat' (first | exact trivial | exact rfl | refine And.intro ?_ ?_)) (by repeat' (first | exact trivial | exact rfl | refine And.intro ?_ ?_)) rfl rfl
theorem rholdL (hd : lookH H d = some (true, .ab (rcX room L))) (ok : LOk n room L) (hz : n ≤ 1000) (k : Int) :
    FnH Try.prog 30 [.c (.nm d), .c (iT k)] H nx ⟨.t (.c (iT (holdR L k).1)), [], [(d, some (.ab (rcX room (holdR L k).2)))], []⟩ :=
  fnh_ex hd (rcX_st _ _) (rcX_st _ _) fun b => rholdP (by rw [lookH_cons, if_pos rfl]) ok hz k
theorem rfreeP {b : Nat} (hd : lookH H d = some (true, .ab (rcP room L b))) (ok : LOk n room L) (hz : n ≤ 1000) (k : Int) :
    FnH Try.prog 31 [.c (.nm d), .c (iT k)] H nx ⟨.t (.c (iT (freeR L k).1)), [], [(d, some (.ab (rcP room (freeR L k).2 b)))], []⟩ := by
  refine fnA (fn := Try.f31) 8 rfl rfl rfl hd (ptr b) (rc_pins _ _ _) (rc_pins _ _ _) rfl rfl rfl (v' := .t (.c (iT (freeR L k).1))) (news' := []) rfl rfl rfl rfl fun w Wr => ?_
  refine rn [(7, .spec ⟨.t (.c (iT (freeR L k).1)), [], [(0, some (.ab (rcP room (freeR L k).2 b)))], []⟩)] rfl (by (repeat' (first | exact trivial | exact rfl | exact (rchangeL rfl ok hz k).2.1 | exact fun _ => (rchangeL rfl ok hz k).2.1 | refine And.intro ?_ ?_))) ?_
  exact retM tysOk [(0, 0)] rfl (by repeat' (first | exact trivial | exact rfl | refine And.intro ?_ ?_)) (by repeat' (first | exact trivial | exact rfl | refine And.intro ?_ ?_)) rfl rfl
theorem rfreeL (hd : lookH H d = some (true, .ab (rcX room L))) (ok : LOk n room L) (hz : n ≤ 1000) (k : Int) :
    FnH Try.prog 31 [.c (.nm d), .c (iT k)] H nx ⟨.t (.c (iT (freeR L k).1)), [], [(d, some (.ab (rcX room (freeR L k).2)))], []⟩ :=
  fnh_ex hd (rcX_st _ _) (rcX_st _ _) fun b => rfreeP (by rw [lookH_cons, if_pos rfl]) ok hz k
theorem rcleanP {b : Nat} (hd : lookH H d = some (true, .ab (rcP room L b))) (ok : LOk n room L) (hz : n ≤ 1000) (k : Int) :
    FnH Try.prog 32 [.c (.nm d), .c (iT k)] H nx ⟨.t (.c (iT (cleanR L k).1)), [], [(d, some (.ab (rcP room (cleanR L k).2 b)))], []⟩ := by
  refine fnA (fn := Try.f32) 8 rfl rfl rfl hd (ptr b) (rc_pins _ _ _) (rc_pins _ _ _) rfl rfl rfl (v' := .t (.c (iT (cleanR L k).1))) (news' := []) rfl rfl rfl rfl fun w Wr => ?_
  refine rn [(7, .spec ⟨.t (.c (iT (cleanR L k).1)), [], [(0, some (.ab (rcP room (cleanR L k).2 b)))], []⟩)] rfl (by (repeat' (first | exact trivial | exact rfl | exact (rchangeL rfl ok hz k).2.2 | exact fun _ => (rchangeL rfl ok hz k).2.2 | refine And.intro ?_ ?_))) ?_
  exact retM tysOk [(0, 0)] rfl (by repeat' (first | exact trivial | exact rfl | refine And.intro ?_ ?_)) (by repeat' (first | exact trivial | exact rfl | refine And.intro ?_ ?_)) rfl rfl
theorem rcleanL (hd : lookH H d = some (true, .ab (rcX room L))) (ok : LOk n room L) (hz : n ≤ 1000) (k : Int) :
    FnH Try.prog 32 [.c (.nm d), .c (iT k)] H nx ⟨.t (.c (iT (cleanR L k).1)), [], [(d, some (.ab (rcX room (cleanR L k).2)))], []⟩ :=
  fnh_ex hd (rcX_st _ _) (rcX_st _ _) fun b => rcleanP (by rw [lookH_cons, if_pos rfl]) ok hz k
theorem rcnewBad {m : Int} (h : m < 1 ∨ 256 < m) : FnH Try.prog 18 [.c (iT m)] H nx ⟨.tup [.c .np, .c (iT 1)], [], [], []⟩ := by
  refine fnR (fn := Try.f18) 13 rfl rfl rfl (args' := [.c (iT m)]) (H' := []) (nx' := 0) (fun e w M => ⟨e, ⟨fun n b o h => (by cases h), fun n o m c q h => (by cases h)⟩, rfl⟩) rfl rfl rfl rfl fun w => ?_
  have hc : (decide (m < 1) || decide (256 < m)) = true := by rw [Bool.or_eq_true, decide_eq_true_eq, decide_eq_true_eq]; exact h
  refine rn [(9, .dec true)] rfl (by (repeat' (first | exact trivial | exact rfl | exact hc | exact fun _ => hc | refine And.intro ?_ ?_))) ?_
  exact ret0 tysOk rfl (by repeat' (first | exact trivial | exact rfl | refine And.intro ?_ ?_)) rfl
theorem rcnewL {m : Int} (h0 : 1 ≤ m) (h1 : m ≤ 256) : FnH Try.prog 18 [.c (iT m)] H nx ⟨.tup [.c (.nm nx), .c (iT 0)], [(true, .ab (rcX m []))], [], []⟩ := by
  refine fnM (fn := Try.f18) 13 rfl rfl rfl (args' := [.c (iT m)]) (H' := []) (nx' := 0) [] (fun e w M => ⟨e, ⟨fun n b o h => (by cases h), fun n o m c q h => (by cases h)⟩, rfl⟩) rfl rfl rfl (fun e w M u hu => by cases hu) (fun u hu => by cases hu) (by simp) (v' := .tup [.c (.nm 0), .c (iT 0)]) (news' := [(true, .ab (rcX m []))]) rfl rfl rfl rfl rfl fun w Wr => ?_
  have hc : (decide (m < 1) || decide (256 < m)) = false := by
    rw [Bool.or_eq_false_iff]
    exact ⟨decide_eq_false (by omega), decide_eq_false (by omega)⟩
  refine rn [(9, .dec false)] rfl (by (repeat' (first | exact trivial | exact rfl | exact hc | exact fun _ => hc | refine And.intro ?_ ?_))) ?_
  refine Done.nilCell 0 1 73 4 rfl rfl rfl ?_
  refine Done.pin 0 rfl fun b => ?_
  refine Done.foldR 2 (.p 0 0) [(0, 0), (1, 1), (2, 2)] (rcO m [] b) (.p 0 0) rfl (by repeat' (first | exact trivial | exact rfl | refine And.intro ?_ ?_)) (by repeat' (first | exact trivial | exact rfl | refine And.intro ?_ ?_)) rfl rfl (fun _ => rfl) ?_
  refine Done.weak 3 (φ' := rcX m []) rfl (exP_stable fun b => absP_stable _ _) (fun v F w h => ⟨b, h⟩) ?_
  exact retM tysOk [(0, 3)] rfl (by repeat' (first | exact trivial | exact rfl | refine And.intro ?_ ?_)) (by repeat' (first | exact trivial | exact rfl | refine And.intro ?_ ?_)) rfl rfl
end
end Cw
