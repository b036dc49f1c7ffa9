/- The disk: Apply, About, Issue, Raise by reckoning. -/
import Derived.Test.YtokhlioogjalkaaGreatDisk2
namespace Cw
open Go Vc
open Go.Proofs
set_option maxRecDepth 100000
section
variable {H : HL} {nx d b : Nat} {S : List ByteArray} {W : List (Int × Wr)} {last : Int}
def apB (S : List ByteArray) (W : List (Int × Wr)) (k : Int) : Bool := match wget k W with
  | some x => psD (s1 S) x.node x.ep
  | none => false
def apS (S : List ByteArray) (W : List (Int × Wr)) (k : Int) : List ByteArray := match wget k W with
  | some x => if psD (s1 S) x.node x.ep then S.set x.pl.toNat x.s else S
  | none => S
set_option maxRecDepth 100000 in
set_option maxHeartbeats 1000000 in
theorem applyA (hd : lookH H d = some (true, .ab (dP S W last b))) (h2 : 2 ≤ S.length) (hz : ∀ s ∈ S, s.size = 64) (hw : ∀ p ∈ W, inS S.length p.2.pl = true) (k : Int) :
    FnH Tryz.prog 27 [.c (.nm d), .c (iT k)] H nx ⟨.tup [.c (.b (apB S W k)), .c (iT (drE W k))], [], [(d, some (.ab (dP (apS S W k) (wdel k W) last b)))], []⟩ := by
  refine fnA (fn := Tryz.f27) 41 rfl rfl rfl hd (ptr b) (disk_pins _ _ _ _) (disk_pins _ _ _ _) rfl rfl rfl (v' := .tup [.c (.b (apB S W k)), .c (iT (drE W k))]) (news' := []) rfl rfl rfl rfl fun w Wr => ?_
  refine At.unfoldTo 0 (L1 := (0, .t (.c (.p 1 0))) :: [(1, .t (.c (iT k)))]) (H1 := [(1, some (true, .cells [.nm 2, .mp 3, iT (last)] 58)), (2, some (true, .own 9 1 (S).length (svs (S)))), (3, some (true, .mp (wm (W)))), (4, some (false, .pin 1 b)), (0, none), (0, some (true, .ab (dP (S) (W) (last) b)))]) (nx1 := 5) rfl rfl rfl rfl rfl rfl ?_
  cases h : wget k W with
  | none =>
    have e1 : drE W k = 5 := by simp [drE, h]
    have e2 : apB S W k = false := by simp [apB, h]
    have e3 : apS S W k = S := by simp [apS, h]
    rw [e1, e2, e3, wdel_none h]
    refine rn [(14, .ret (.tup [wT ⟨0, 0, 0, ⟨#[]⟩⟩, .c (.b false)])), (18, .dec true)] rfl (by (repeat' (first | exact trivial | exact rfl | exact lk_none h | exact fun _ => lk_none h | refine And.intro ?_ ?_))) ?_
    refine Done.fold [(0, 1), (1, 2), (2, 3), (3, 4)] (diskO b (S) (wm (W)) (last)) (.p 0 0) (by repeat' (first | exact trivial | exact rfl | refine And.intro ?_ ?_)) rfl rfl (fun _ => rfl) ?_
    exact retM tysOk [(0, 6)] rfl (by repeat' (first | exact trivial | exact rfl | refine And.intro ?_ ?_)) (by repeat' (first | exact trivial | exact rfl | refine And.intro ?_ ?_)) rfl rfl
  | some x =>
    have e1 : drE W k = 0 := by simp [drE, h]
    have e2 : apB S W k = psD (s1 S) x.node x.ep := by simp [apB, h]
    have e3 : apS S W k = if psD (s1 S) x.node x.ep then S.set x.pl.toNat x.s else S := by simp [apS, h]
    have hin := hw _ (wget_mem h)
    have hb := inS_iff.1 hin
    have hlt : x.pl.toNat < S.length := by have := hb.2; have := hb.1; simp only at *; omega
    have hsl : (svs S).length = S.length := svs_length S
    rw [e1, e2, e3]
    refine rn [(14, .ret (.tup [wT x, .c (.b true)])), (18, .dec false), (29, .spec ⟨.t (.c (.b (psD (s1 S) x.node x.ep))), [], [], []⟩)] rfl (by (repeat' (first | exact trivial | exact rfl | exact lk_some h _ | exact fun _ => lk_some h _ | exact passesU rfl rfl h2 hz x.node x.ep | refine And.intro ?_ ?_))) ?_
    refine ⟨fun hp => ?_, fun hp => ?_⟩
    · rw [hp, if_pos rfl]
      refine rn [] rfl (by (repeat' (first | exact trivial | exact rfl | exact trivial | exact fun _ => trivial | first | exact hb.1 | exact hb.2 | (show x.pl.toNat * 1 + 1 ≤ (svs S).length; omega) | decide | refine And.intro ?_ ?_))) ?_
      refine Done.fold [(0, 1), (1, 2), (2, 3), (3, 4)] (diskO b (S.set x.pl.toNat x.s) (wm (wdel k W)) last) (.p 0 0) ?_ rfl rfl (fun _ => rfl) ?_
      · (repeat' (first | exact trivial | exact rfl | exact wm_del k W | exact fun _ => wm_del k W | first | exact (List.length_set ..).symm | exact set_svs hlt | refine And.intro ?_ ?_))
      · exact retM tysOk [(0, 6)] rfl (by (repeat' (first | exact trivial | exact rfl | exact trivial | exact fun _ => trivial | exact hp | refine And.intro ?_ ?_))) (by repeat' (first | exact trivial | exact rfl | refine And.intro ?_ ?_)) rfl rfl
    · rw [hp, if_neg (by simp)]
      refine rn [] rfl (by repeat' (first | exact trivial | exact rfl | refine And.intro ?_ ?_)) ?_
      refine Done.fold [(0, 1), (1, 2), (2, 3), (3, 4)] (diskO b S (wm (wdel k W)) last) (.p 0 0) (by (repeat' (first | exact trivial | exact rfl | exact wm_del k W | exact fun _ => wm_del k W | refine And.intro ?_ ?_))) rfl rfl (fun _ => rfl) ?_
      exact retM tysOk [(0, 6)] rfl (by (repeat' (first | exact trivial | exact rfl | exact trivial | exact fun _ => trivial | exact hp | refine And.intro ?_ ?_))) (by repeat' (first | exact trivial | exact rfl | refine And.intro ?_ ?_)) rfl rfl
def abW (W : List (Int × Wr)) (k : Int) : Wr := (wget k W).getD ⟨0, 0, 0, ⟨#[]⟩⟩
set_option maxRecDepth 100000 in
set_option maxHeartbeats 1000000 in
theorem aboutA (hd : lookH H d = some (true, .ab (dP S W last b))) (k : Int) :
    FnH Tryz.prog 20 [.c (.nm d), .c (iT k)] H nx ⟨.tup [.c (iT (abW W k).node), .c (iT (abW W k).ep), .c (iT (abW W k).pl), .c (iT (drE W k))], [], [(d, some (.ab (dP S W last b)))], []⟩ := by
  refine fnA (fn := Tryz.f20) 27 rfl rfl rfl hd (ptr b) (disk_pins _ _ _ _) (disk_pins _ _ _ _) rfl rfl rfl (v' := .tup [.c (iT (abW W k).node), .c (iT (abW W k).ep), .c (iT (abW W k).pl), .c (iT (drE W k))]) (news' := []) rfl rfl rfl rfl fun w Wr => ?_
  refine At.unfoldTo 0 (L1 := (0, .t (.c (.p 1 0))) :: [(1, .t (.c (iT k)))]) (H1 := [(1, some (true, .cells [.nm 2, .mp 3, iT (last)] 58)), (2, some (true, .own 9 1 (S).length (svs (S)))), (3, some (true, .mp (wm (W)))), (4, some (false, .pin 1 b)), (0, none), (0, some (true, .ab (dP (S) (W) (last) b)))]) (nx1 := 5) rfl rfl rfl rfl rfl rfl ?_
  cases h : wget k W with
  | none =>
    have e1 : drE W k = 5 := by simp [drE, h]
    have e2 : abW W k = ⟨0, 0, 0, ⟨#[]⟩⟩ := by simp [abW, h]
    rw [e1, e2]
    refine rn [(16, .ret (.tup [wT ⟨0, 0, 0, ⟨#[]⟩⟩, .c (.b false)])), (20, .dec true)] rfl (by (repeat' (first | exact trivial | exact rfl | exact lk_none h | exact fun _ => lk_none h | refine And.intro ?_ ?_))) ?_
    refine Done.fold [(0, 1), (1, 2), (2, 3), (3, 4)] (diskO b (S) (wm (W)) (last)) (.p 0 0) (by repeat' (first | exact trivial | exact rfl | refine And.intro ?_ ?_)) rfl rfl (fun _ => rfl) ?_
    exact retM tysOk [(0, 6)] rfl (by repeat' (first | exact trivial | exact rfl | refine And.intro ?_ ?_)) (by repeat' (first | exact trivial | exact rfl | refine And.intro ?_ ?_)) rfl rfl
  | some x =>
    have e1 : drE W k = 0 := by simp [drE, h]
    have e2 : abW W k = x := by simp [abW, h]
    rw [e1, e2]
    refine rn [(16, .ret (.tup [wT x, .c (.b true)])), (20, .dec false)] rfl (by (repeat' (first | exact trivial | exact rfl | exact lk_some h _ | exact fun _ => lk_some h _ | refine And.intro ?_ ?_))) ?_
    refine Done.fold [(0, 1), (1, 2), (2, 3), (3, 4)] (diskO b (S) (wm (W)) (last)) (.p 0 0) (by repeat' (first | exact trivial | exact rfl | refine And.intro ?_ ?_)) rfl rfl (fun _ => rfl) ?_
    exact retM tysOk [(0, 6)] rfl (by repeat' (first | exact trivial | exact rfl | refine And.intro ?_ ?_)) (by repeat' (first | exact trivial | exact rfl | refine And.intro ?_ ?_)) rfl rfl
def isuE (S : List ByteArray) (W : List (Int × Wr)) (node ep pl : Int) (s : ByteArray) : Int :=
  if isE node ep ≠ 0 then 1 else if wrE S.length pl s ≠ 0 then wrE S.length pl s else if 1024 ≤ W.length then 2 else if psD (s1 S) node ep then 0 else 110
def isuN (S : List ByteArray) (W : List (Int × Wr)) (last node ep pl : Int) (s : ByteArray) : Int := if isuE S W node ep pl s = 0 then last + 1 else 0
def isuL (S : List ByteArray) (W : List (Int × Wr)) (last node ep pl : Int) (s : ByteArray) : Int := if isuE S W node ep pl s = 0 then last + 1 else last
def isuW (S : List ByteArray) (W : List (Int × Wr)) (last node ep pl : Int) (s : ByteArray) : List (Int × Wr) := if isuE S W node ep pl s = 0 then W ++ [(last + 1, ⟨node, ep, pl, s⟩)] else W
theorem isE_cases (node ep : Int) : isE node ep = 0 ∨ isE node ep = 1 := by unfold isE; split <;> simp
set_option maxRecDepth 100000 in
set_option maxHeartbeats 2000000 in
theorem issueA (hd : lookH H d = some (true, .ab (dP S W last b))) (h2 : 2 ≤ S.length) (hz : ∀ s ∈ S, s.size = 64) (hl0 : 0 ≤ last) (hl1 : last ≤ 1000000) (hlw : ∀ p ∈ W, p.1 ≤ last) (node ep pl : Int) (s : ByteArray) :
    FnH Tryz.prog 16 [.c (.nm d), .c (iT node), .c (iT ep), .c (iT pl), .c (.s s)] H nx ⟨.tup [.c (iT (isuN S W last node ep pl s)), .c (iT (isuE S W node ep pl s))], [], [(d, some (.ab (dP S (isuW S W last node ep pl s) (isuL S W last node ep pl s) b)))], []⟩ := by
  refine fnA (fn := Tryz.f16) 64 rfl rfl rfl hd (ptr b) (disk_pins _ _ _ _) (disk_pins _ _ _ _) rfl rfl rfl (v' := .tup [.c (iT (isuN S W last node ep pl s)), .c (iT (isuE S W node ep pl s))]) (news' := []) rfl rfl rfl rfl fun w Wr => ?_
  refine At.unfoldTo 0 (L1 := (0, .t (.c (.p 1 0))) :: [(1, .t (.c (iT node))), (2, .t (.c (iT ep))), (3, .t (.c (iT pl))), (4, .t (.c (.s s)))]) (H1 := [(1, some (true, .cells [.nm 2, .mp 3, iT (last)] 58)), (2, some (true, .own 9 1 (S).length (svs (S)))), (3, some (true, .mp (wm (W)))), (4, some (false, .pin 1 b)), (0, none), (0, some (true, .ab (dP (S) (W) (last) b)))]) (nx1 := 5) rfl rfl rfl rfl rfl rfl ?_
  have hi := issuer0 node ep
  rcases isE_cases node ep with q1 | q1
  · rw [q1] at hi
    have hwr := wrongU (H := [(1, some (true, .cells [.nm 2, .mp 3, iT last] 58)), (2, some (true, .own 9 1 S.length (svs S))), (3, some (true, .mp (wm W))), (4, some (false, .pin 1 b)), (0, none), (0, some (true, .ab (dP S W last b)))]) (nx := 5) (d := 1) (l := 2) (m := 3) (b1 := true) (b2 := true) (S := S) (last := last) rfl rfl pl s
    by_cases q2 : wrE S.length pl s = 0
    · rw [q2] at hwr
      by_cases q3 : 1024 ≤ W.length
      · have e0 : isuE S W node ep pl s = 2 := by simp [isuE, q1, q2, q3]
        have e1 : isuN S W last node ep pl s = 0 := by simp [isuN, e0]
        have e2 : isuL S W last node ep pl s = last := by simp [isuL, e0]
        have e3 : isuW S W last node ep pl s = W := by simp [isuW, e0]
        have d3 : decide ((1024 : Int) ≤ ((wm W).length : Nat)) = true := decide_eq_true (by rw [wm_length]; omega)
        rw [e0, e1, e2, e3]
        refine rn [(16, .ret (.t (.c (iT 0)))), (18, .dec false), (23, .spec ⟨.t (.c (iT 0)), [], [], []⟩), (25, .dec false), (27, .dec true)] rfl (by (repeat' (first | exact trivial | exact rfl | exact hi | exact fun _ => hi | first | exact hwr | exact d3 | decide | refine And.intro ?_ ?_))) ?_
        refine Done.fold [(0, 1), (1, 2), (2, 3), (3, 4)] (diskO b (S) (wm (W)) (last)) (.p 0 0) (by repeat' (first | exact trivial | exact rfl | refine And.intro ?_ ?_)) rfl rfl (fun _ => rfl) ?_
        exact retM tysOk [(0, 5)] rfl (by repeat' (first | exact trivial | exact rfl | refine And.intro ?_ ?_)) (by repeat' (first | exact trivial | exact rfl | refine And.intro ?_ ?_)) rfl rfl
      · have d3 : decide ((1024 : Int) ≤ ((wm W).length : Nat)) = false := decide_eq_false (by rw [wm_length]; omega)
        have hps := passesU (H := [(1, some (true, .cells [.nm 2, .mp 3, iT last] 58)), (2, some (true, .own 9 1 S.length (svs S))), (3, some (true, .mp (wm W))), (4, some (false, .pin 1 b)), (0, none), (0, some (true, .ab (dP S W last b)))]) (nx := 5) (d := 1) (l := 2) (m := 3) (b1 := true) (b2 := true) (S := S) (last := last) rfl rfl h2 hz node ep
        cases q4 : psD (s1 S) node ep with
        | true =>
          rw [show psD (S.getD 1 ⟨#[]⟩) node ep = true from q4] at hps
          have e0 : isuE S W node ep pl s = 0 := by simp [isuE, q1, q2, q3, q4]
          have e1 : isuN S W last node ep pl s = last + 1 := by simp [isuN, e0]
          have e2 : isuL S W last node ep pl s = last + 1 := by simp [isuL, e0]
          have e3 : isuW S W last node ep pl s = W ++ [(last + 1, ⟨node, ep, pl, s⟩)] := by simp [isuW, e0]
          have w1 : IntKind.i64.wrap (last + 1) = last + 1 := wrap_sm (by omega) (by omega)
          have hin : inI64 (IntKind.i64.wrap (last + 1)) := by rw [w1]; exact ⟨by omega, by omega⟩
          have hput : mput (IntKind.i64.wrap (last + 1)) (wv ⟨node, ep, pl, s⟩) (wm W) = wm (W ++ [(last + 1, ⟨node, ep, pl, s⟩)]) := by rw [w1]; exact wm_put fun p hp => by have := hlw p hp; omega
          rw [e0, e1, e2, e3]
          refine rn [(16, .ret (.t (.c (iT 0)))), (18, .dec false), (23, .spec ⟨.t (.c (iT 0)), [], [], []⟩), (25, .dec false), (27, .dec false), (38, .spec ⟨.t (.c (.b true)), [], [], []⟩), (34, .dec false)] rfl (by (repeat' (first | exact trivial | exact rfl | exact hi | exact fun _ => hi | first | exact hwr | exact d3 | exact hps | exact hin | decide | refine And.intro ?_ ?_))) ?_
          refine Done.fold [(0, 1), (1, 2), (2, 3), (3, 4)] (diskO b S (wm (W ++ [(last + 1, ⟨node, ep, pl, s⟩)])) (last + 1)) (.p 0 0) (by (repeat' (first | exact trivial | exact rfl | exact hput | exact fun _ => hput | exact w1 | refine And.intro ?_ ?_))) rfl rfl (fun _ => rfl) ?_
          exact retM tysOk [(0, 5)] rfl (by (repeat' (first | exact trivial | exact rfl | exact w1 | exact fun _ => w1 | refine And.intro ?_ ?_))) (by repeat' (first | exact trivial | exact rfl | refine And.intro ?_ ?_)) rfl rfl
        | false =>
          rw [show psD (S.getD 1 ⟨#[]⟩) node ep = false from q4] at hps
          have e0 : isuE S W node ep pl s = 110 := by simp [isuE, q1, q2, q3, q4]
          have e1 : isuN S W last node ep pl s = 0 := by simp [isuN, e0]
          have e2 : isuL S W last node ep pl s = last := by simp [isuL, e0]
          have e3 : isuW S W last node ep pl s = W := by simp [isuW, e0]
          rw [e0, e1, e2, e3]
          refine rn [(16, .ret (.t (.c (iT 0)))), (18, .dec false), (23, .spec ⟨.t (.c (iT 0)), [], [], []⟩), (25, .dec false), (27, .dec false), (38, .spec ⟨.t (.c (.b false)), [], [], []⟩), (34, .dec true)] rfl (by (repeat' (first | exact trivial | exact rfl | exact hi | exact fun _ => hi | first | exact hwr | exact d3 | exact hps | decide | refine And.intro ?_ ?_))) ?_
          refine Done.fold [(0, 1), (1, 2), (2, 3), (3, 4)] (diskO b (S) (wm (W)) (last)) (.p 0 0) (by repeat' (first | exact trivial | exact rfl | refine And.intro ?_ ?_)) rfl rfl (fun _ => rfl) ?_
          exact retM tysOk [(0, 5)] rfl (by repeat' (first | exact trivial | exact rfl | refine And.intro ?_ ?_)) (by repeat' (first | exact trivial | exact rfl | refine And.intro ?_ ?_)) rfl rfl
    · have e0 : isuE S W node ep pl s = wrE S.length pl s := by simp [isuE, q1, q2]
      have e1 : isuN S W last node ep pl s = 0 := by simp [isuN, e0, q2]
      have e2 : isuL S W last node ep pl s = last := by simp [isuL, e0, q2]
      have e3 : isuW S W last node ep pl s = W := by simp [isuW, e0, q2]
      have d2 : (wrE S.length pl s != 0) = true := by simpa using q2
      rw [e0, e1, e2, e3]
      refine rn [(16, .ret (.t (.c (iT 0)))), (18, .dec false), (23, .spec ⟨.t (.c (iT (wrE S.length pl s))), [], [], []⟩), (25, .dec true)] rfl (by (repeat' (first | exact trivial | exact rfl | exact hi | exact fun _ => hi | first | exact hwr | exact d2 | decide | refine And.intro ?_ ?_))) ?_
      refine Done.fold [(0, 1), (1, 2), (2, 3), (3, 4)] (diskO b (S) (wm (W)) (last)) (.p 0 0) (by repeat' (first | exact trivial | exact rfl | refine And.intro ?_ ?_)) rfl rfl (fun _ => rfl) ?_
      exact retM tysOk [(0, 5)] rfl (by repeat' (first | exact trivial | exact rfl | refine And.intro ?_ ?_)) (by repeat' (first | exact trivial | exact rfl | refine And.intro ?_ ?_)) rfl rfl
  · rw [q1] at hi
    have e0 : isuE S W node ep pl s = 1 := by simp [isuE, q1]
    have e1 : isuN S W last node ep pl s = 0 := by simp [isuN, e0]
    have e2 : isuL S W last node ep pl s = last := by simp [isuL, e0]
    have e3 : isuW S W last node ep pl s = W := by simp [isuW, e0]
    rw [e0, e1, e2, e3]
    refine rn [(16, .ret (.t (.c (iT 1)))), (18, .dec true)] rfl (by (repeat' (first | exact trivial | exact rfl | exact hi | exact fun _ => hi | decide | refine And.intro ?_ ?_))) ?_
    refine Done.fold [(0, 1), (1, 2), (2, 3), (3, 4)] (diskO b (S) (wm (W)) (last)) (.p 0 0) (by repeat' (first | exact trivial | exact rfl | refine And.intro ?_ ?_)) rfl rfl (fun _ => rfl) ?_
    exact retM tysOk [(0, 5)] rfl (by repeat' (first | exact trivial | exact rfl | refine And.intro ?_ ?_)) (by repeat' (first | exact trivial | exact rfl | refine And.intro ?_ ?_)) rfl rfl
def rsE (S : List ByteArray) (node n : Int) : Int := if raiseE (s1 S) node n = 40 then 110 else raiseE (s1 S) node n
def rsS (S : List ByteArray) (node n : Int) : List ByteArray := if raiseE (s1 S) node n = 0 then S.set 1 (setE (s1 S) node n) else S
theorem raiseE_cases (s : ByteArray) (node n : Int) : raiseE s node n = 0 ∨ raiseE s node n = 1 ∨ raiseE s node n = 40 := by
  unfold raiseE
  split
  · split <;> simp
  · simp
set_option maxRecDepth 100000 in
set_option maxHeartbeats 2000000 in
theorem raiseA (hd : lookH H d = some (true, .ab (dP S W last b))) (h2 : 2 ≤ S.length) (hz : ∀ s ∈ S, s.size = 64) (node n : Int) :
    FnH Tryz.prog 26 [.c (.nm d), .c (iT node), .c (iT n)] H nx ⟨.t (.c (iT (rsE S node n))), [], [(d, some (.ab (dP (rsS S node n) W last b)))], []⟩ := by
  refine fnA (fn := Tryz.f26) 33 rfl rfl rfl hd (ptr b) (disk_pins _ _ _ _) (disk_pins _ _ _ _) rfl rfl rfl (v' := .t (.c (iT (rsE S node n)))) (news' := []) rfl rfl rfl rfl fun w Wr => ?_
  refine At.unfoldTo 0 (L1 := (0, .t (.c (.p 1 0))) :: [(1, .t (.c (iT node))), (2, .t (.c (iT n)))]) (H1 := [(1, some (true, .cells [.nm 2, .mp 3, iT (last)] 58)), (2, some (true, .own 9 1 (S).length (svs (S)))), (3, some (true, .mp (wm (W)))), (4, some (false, .pin 1 b)), (0, none), (0, some (true, .ab (dP (S) (W) (last) b)))]) (nx1 := 5) rfl rfl rfl rfl rfl rfl ?_
  have hg : s1 S = S[1] := by rw [s1, List.getD_eq_getElem?_getD, List.getElem?_eq_getElem (by omega)]; rfl
  have l1 : (svs S)[(1 : Int).toNat * 1]? = some (.string (s1 S)) := by rw [hg]; exact svs_at (by omega)
  have hs : (s1 S).size = 64 := by rw [hg]; exact hz _ (List.getElem_mem _)
  have hr := raise0 (s1 S) node n (by omega)
  have b1 : (1 : Int) < (S.length : Int) := by omega
  have hsl : (svs S).length = S.length := svs_length S
  rcases raiseE_cases (s1 S) node n with q | q | q
  · have e0 : rsE S node n = 0 := by simp [rsE, q]
    have e1 : rsS S node n = S.set 1 (setE (s1 S) node n) := by simp [rsS, q]
    have e2 : raiseS (s1 S) node n = setE (s1 S) node n := by rw [raiseS, if_pos q]
    rw [q, e2] at hr
    rw [e0, e1]
    refine rn [(15, .ld [.s (s1 S)]), (18, .ret (.tup [.c (.s (setE (s1 S) node n)), .c (iT 0)])), (22, .dec true)] rfl (by (repeat' (first | exact trivial | exact rfl | exact l1 | exact fun _ => l1 | first | exact hr | exact b1 | (show (1 : Int).toNat * 1 + 1 ≤ (svs S).length; omega) | decide | refine And.intro ?_ ?_))) ?_
    refine Done.fold [(0, 1), (1, 2), (2, 3), (3, 4)] (diskO b (S.set 1 (setE (s1 S) node n)) (wm W) last) (.p 0 0) ?_ rfl rfl (fun _ => rfl) ?_
    · (repeat' (first | exact trivial | exact rfl | exact trivial | exact fun _ => trivial | first | exact (List.length_set ..).symm | exact set_svs (k := 1) (by omega) | refine And.intro ?_ ?_))
    · exact retM tysOk [(0, 5)] rfl (by repeat' (first | exact trivial | exact rfl | refine And.intro ?_ ?_)) (by repeat' (first | exact trivial | exact rfl | refine And.intro ?_ ?_)) rfl rfl
  · have e0 : rsE S node n = 1 := by simp [rsE, q]
    have e1 : rsS S node n = S := by simp [rsS, q]
    rw [q] at hr
    rw [e0, e1]
    refine rn [(15, .ld [.s (s1 S)]), (18, .ret (.tup [.c (.s (raiseS (s1 S) node n)), .c (iT 1)])), (22, .dec false), (30, .dec false)] rfl (by (repeat' (first | exact trivial | exact rfl | exact l1 | exact fun _ => l1 | first | exact hr | exact b1 | decide | refine And.intro ?_ ?_))) ?_
    refine Done.fold [(0, 1), (1, 2), (2, 3), (3, 4)] (diskO b (S) (wm (W)) (last)) (.p 0 0) (by repeat' (first | exact trivial | exact rfl | refine And.intro ?_ ?_)) rfl rfl (fun _ => rfl) ?_
    exact retM tysOk [(0, 5)] rfl (by repeat' (first | exact trivial | exact rfl | refine And.intro ?_ ?_)) (by repeat' (first | exact trivial | exact rfl | refine And.intro ?_ ?_)) rfl rfl
  · have e0 : rsE S node n = 110 := by simp [rsE, q]
    have e1 : rsS S node n = S := by simp [rsS, q]
    rw [q] at hr
    rw [e0, e1]
    refine rn [(15, .ld [.s (s1 S)]), (18, .ret (.tup [.c (.s (raiseS (s1 S) node n)), .c (iT 40)])), (22, .dec false), (30, .dec true)] rfl (by (repeat' (first | exact trivial | exact rfl | exact l1 | exact fun _ => l1 | first | exact hr | exact b1 | decide | refine And.intro ?_ ?_))) ?_
    refine Done.fold [(0, 1), (1, 2), (2, 3), (3, 4)] (diskO b (S) (wm (W)) (last)) (.p 0 0) (by repeat' (first | exact trivial | exact rfl | refine And.intro ?_ ?_)) rfl rfl (fun _ => rfl) ?_
    exact retM tysOk [(0, 5)] rfl (by repeat' (first | exact trivial | exact rfl | refine And.intro ?_ ?_)) (by repeat' (first | exact trivial | exact rfl | refine And.intro ?_ ?_)) rfl rfl
end
end Cw
