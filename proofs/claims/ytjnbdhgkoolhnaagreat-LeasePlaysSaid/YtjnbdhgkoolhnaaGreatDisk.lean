/- The disk: its methods by reckoning. -/
import Derived.Test.YtjnbdhgkoolhnaaGreatVcAb
import Derived.Test.YtjnbdhgkoolhnaaGreatSupV
import Derived.Test.YtjnbdhgkoolhnaaGreatMapK
import Derived.Test.YtjnbdhgkoolhnaaGreatAmV
namespace Cw
open Go Vc
open Go.Proofs
set_option maxRecDepth 100000
/-- A disk: its sectors, the writes that wait, the last number. -/
def diskO (b : Nat) (S : List ByteArray) (W : List (Int × Value)) (last : Int) : List (Bool × Ob) :=
  [(true, .cells [.nm 1, .mp 2, iT last] 117), (true, .own 9 1 S.length (svs S)), (true, .mp W), (false, .pin 0 b)]
def diskP (S : List ByteArray) (W : List (Int × Value)) (last : Int) (b : Nat) : AbP := absP (diskO b S W last) (.p 0 0)
theorem disk_pins (S : List ByteArray) (W : List (Int × Value)) (last : Int) (b : Nat) : Pins (diskP S W last b) (ptr b) := pins_abs (k := 3) rfl
def inS (n : Nat) (at' : Int) : Bool := decide (0 ≤ at') && decide (at' < (n : Int))
def rdE (n : Nat) (at' : Int) : Int := if inS n at' then 0 else 1
def rdT (S : List ByteArray) (at' : Int) : ByteArray := if inS S.length at' then S.getD at'.toNat ⟨#[]⟩ else ⟨#[]⟩
def wrE (n : Nat) (at' : Int) (s : ByteArray) : Int := if inS n at' then (if s.size = 64 then 0 else 3) else 1
theorem inS_iff {n : Nat} {k : Int} : inS n k = true ↔ 0 ≤ k ∧ k < (n : Int) := by simp [inS]
theorem not_inS {n : Nat} {k : Int} (h : inS n k = false) : (decide (k < 0) || decide ((n : Int) ≤ k)) = true := by
  have : ¬ (0 ≤ k ∧ k < (n : Int)) := fun hh => by rw [inS_iff.2 hh] at h; cases h
  rw [Bool.or_eq_true, decide_eq_true_eq, decide_eq_true_eq]
  omega
theorem is_inS {n : Nat} {k : Int} (h : inS n k = true) : (decide (k < 0) || decide ((n : Int) ≤ k)) = false := by
  have := inS_iff.1 h
  rw [Bool.or_eq_false_iff]
  exact ⟨decide_eq_false (by omega), decide_eq_false (by omega)⟩
theorem svs_rd {S : List ByteArray} {k : Int} (h : inS S.length k = true) : (svs S)[k.toNat * 1]? = some (.string (rdT S k)) := by
  have hb := inS_iff.1 h
  have hlt : k.toNat < S.length := by omega
  rw [Nat.mul_one, svs_at hlt, rdT, if_pos h, List.getD_eq_getElem?_getD, List.getElem?_eq_getElem hlt]
  rfl
section
variable {H : HL} {nx d l m : Nat} {b1 b2 : Bool} {S : List ByteArray} {last : Int}
def rD (d l m : Nat) (n : Nat) : Nat := if n = 0 then d else if n = 1 then l else m
theorem memD (hd : lookH H d = some (b1, .cells [.nm l, .mp m, iT last] 117)) (hl : lookH H l = some (b2, .own 9 1 S.length (svs S))) :
    rdsOk (rD d l m) H [(0, some (false, .cells [.nm 1, .mp 2, iT last] 117)), (1, some (false, .own 9 1 S.length (svs S)))] := ⟨⟨b1, hd⟩, ⟨b2, hl⟩, trivial⟩
theorem readU (hd : lookH H d = some (b1, .cells [.nm l, .mp m, iT last] 117)) (hl : lookH H l = some (b2, .own 9 1 S.length (svs S))) (k : Int) :
    FnH Tryz.prog 56 [.c (.p d 0), .c (iT k)] H nx ⟨.tup [.c (.s (rdT S k)), .c (iT (rdE S.length k))], [], [], []⟩ := by
  refine fnR (fn := Tryz.f56) 24 rfl rfl rfl (args' := [.c (.p 0 0), .c (iT k)]) (H' := [(0, some (false, .cells [.nm 1, .mp 2, iT last] 117)), (1, some (false, .own 9 1 S.length (svs S)))]) (nx' := 3) (fun e w M => ⟨_, mem_rd (rD d l m) (memD hd hl) M, rfl⟩) rfl rfl rfl rfl fun w => ?_
  cases h : inS S.length k with
  | false =>
    have e1 : rdT S k = ⟨#[]⟩ := by simp [rdT, h]
    have e2 : rdE S.length k = 1 := by simp [rdE, h]
    rw [e1, e2]
    refine rn [(16, .dec true)] rfl (by (repeat' (first | exact trivial | exact rfl | exact not_inS h | exact fun _ => not_inS h | refine And.intro ?_ ?_))) ?_
    exact ret0 tysOk rfl (by repeat' (first | exact trivial | exact rfl | refine And.intro ?_ ?_)) rfl
  | true =>
    have e2 : rdE S.length k = 0 := by simp [rdE, h]
    have hb := inS_iff.1 h
    rw [e2]
    refine rn [(16, .dec false), (23, .ld [.s (rdT S k)])] rfl (by (repeat' (first | exact trivial | exact rfl | exact is_inS h | exact fun _ => is_inS h | first | exact svs_rd h | exact hb.1 | exact hb.2 | decide | refine And.intro ?_ ?_))) ?_
    exact ret0 tysOk rfl (by repeat' (first | exact trivial | exact rfl | refine And.intro ?_ ?_)) rfl
theorem wrongU (hd : lookH H d = some (b1, .cells [.nm l, .mp m, iT last] 117)) (hl : lookH H l = some (b2, .own 9 1 S.length (svs S))) (k : Int) (s : ByteArray) :
    FnH Tryz.prog 81 [.c (.p d 0), .c (iT k), .c (.s s)] H nx ⟨.t (.c (iT (wrE S.length k s))), [], [], []⟩ := by
  refine fnR (fn := Tryz.f81) 23 rfl rfl rfl (args' := [.c (.p 0 0), .c (iT k), .c (.s s)]) (H' := [(0, some (false, .cells [.nm 1, .mp 2, iT last] 117)), (1, some (false, .own 9 1 S.length (svs S)))]) (nx' := 3) (fun e w M => ⟨_, mem_rd (rD d l m) (memD hd hl) M, rfl⟩) rfl rfl rfl rfl fun w => ?_
  cases h : inS S.length k with
  | false =>
    have e2 : wrE S.length k s = 1 := by simp [wrE, h]
    rw [e2]
    refine rn [(7, .dec true)] rfl (by (repeat' (first | exact trivial | exact rfl | exact not_inS h | exact fun _ => not_inS h | refine And.intro ?_ ?_))) ?_
    exact ret0 tysOk rfl (by repeat' (first | exact trivial | exact rfl | refine And.intro ?_ ?_)) rfl
  | true =>
    by_cases hs : s.size = 64
    · have e2 : wrE S.length k s = 0 := by simp [wrE, h, hs]
      have hs' : (((s.size : Nat) : Int) != 64) = false := by rw [hs]; rfl
      rw [e2]
      refine rn [(7, .dec false), (19, .dec false)] rfl (by (repeat' (first | exact trivial | exact rfl | exact is_inS h | exact fun _ => is_inS h | exact hs' | refine And.intro ?_ ?_))) ?_
      exact ret0 tysOk rfl (by repeat' (first | exact trivial | exact rfl | refine And.intro ?_ ?_)) rfl
    · have e2 : wrE S.length k s = 3 := by simp [wrE, h, hs]
      have hs' : (((s.size : Nat) : Int) != 64) = true := by simp; omega
      rw [e2]
      refine rn [(7, .dec false), (19, .dec true)] rfl (by (repeat' (first | exact trivial | exact rfl | exact is_inS h | exact fun _ => is_inS h | exact hs' | refine And.intro ?_ ?_))) ?_
      exact ret0 tysOk rfl (by repeat' (first | exact trivial | exact rfl | refine And.intro ?_ ?_)) rfl
/-- Whether a write passes. -/
def psD (s : ByteArray) (node n : Int) : Bool := passB s node n || (passE s node != 0)
theorem passesU (hd : lookH H d = some (b1, .cells [.nm l, .mp m, iT last] 117)) (hl : lookH H l = some (b2, .own 9 1 S.length (svs S))) (h2 : 2 ≤ S.length) (hz : ∀ s ∈ S, s.size = 64) (node n : Int) :
    FnH Tryz.prog 141 [.c (.p d 0), .c (iT node), .c (iT n)] H nx ⟨.t (.c (.b (psD (S.getD 1 ⟨#[]⟩) node n))), [], [], []⟩ := by
  refine fnR (fn := Tryz.f141) 26 rfl rfl rfl (args' := [.c (.p 0 0), .c (iT node), .c (iT n)]) (H' := [(0, some (false, .cells [.nm 1, .mp 2, iT last] 117)), (1, some (false, .own 9 1 S.length (svs S)))]) (nx' := 3) (fun e w M => ⟨_, mem_rd (rD d l m) (memD hd hl) M, rfl⟩) rfl rfl rfl rfl fun w => ?_
  have hg : S.getD 1 ⟨#[]⟩ = S[1] := by rw [List.getD_eq_getElem?_getD, List.getElem?_eq_getElem (by omega)]; rfl
  have e1 : (svs S)[(1 : Int).toNat * 1]? = some (.string (S.getD 1 ⟨#[]⟩)) := by rw [hg]; exact svs_at (by omega)
  have hs : (S.getD 1 ⟨#[]⟩).size = 64 := by rw [hg]; exact hz _ (List.getElem_mem _)
  have hp := passes0 (S.getD 1 ⟨#[]⟩) node n (by omega)
  generalize S.getD 1 ⟨#[]⟩ = t at *
  have b1 : (1 : Int) < (S.length : Int) := by omega
  refine rn [(15, .ld [.s t]), (18, .ret (.tup [.c (.b (passB t node n)), .c (iT (passE t node))]))] rfl (by (repeat' (first | exact trivial | exact rfl | exact e1 | exact fun _ => e1 | first | exact hp | exact b1 | decide | refine And.intro ?_ ?_))) ?_
  exact ret0 tysOk rfl (by repeat' (first | exact trivial | exact rfl | refine And.intro ?_ ?_)) rfl
end
def isE (node ep : Int) : Int := if 0 ≤ node ∧ node < 2 ∧ 0 ≤ ep ∧ ep ≤ 4294967295 then 0 else 1
theorem issuer0 (node ep : Int) : Fn0 Tryz.prog 139 [.c (iT node), .c (iT ep)] (.t (.c (iT (isE node ep)))) := by
  refine fn0 (fn := Tryz.f139) 19 rfl rfl rfl rfl rfl fun w => ?_
  refine rn [] rfl (by repeat' (first | exact trivial | exact rfl | refine And.intro ?_ ?_)) ?_
  refine ⟨fun h => ?_, fun h => ?_⟩
  · have h' : (((decide (node < 0) || decide (2 ≤ node)) || decide (ep < 0)) || decide (4294967295 < ep)) = true := h
    simp only [Bool.or_eq_true, decide_eq_true_eq] at h'
    have e : isE node ep = 1 := if_neg (by omega)
    rw [e]
    refine rn [] rfl (by repeat' (first | exact trivial | exact rfl | refine And.intro ?_ ?_)) ?_
    exact ret0 tysOk rfl (by repeat' (first | exact trivial | exact rfl | refine And.intro ?_ ?_)) rfl
  · have h' : (((decide (node < 0) || decide (2 ≤ node)) || decide (ep < 0)) || decide (4294967295 < ep)) = false := h
    simp only [Bool.or_eq_false_iff, decide_eq_false_iff_not] at h'
    have e : isE node ep = 0 := if_pos (by omega)
    rw [e]
    refine rn [] rfl (by repeat' (first | exact trivial | exact rfl | refine And.intro ?_ ?_)) ?_
    exact ret0 tysOk rfl (by repeat' (first | exact trivial | exact rfl | refine And.intro ?_ ?_)) rfl
end Cw
namespace Cw
open Go Vc
open Go.Proofs
set_option maxRecDepth 100000
/-- A write that waits. -/
structure Wr where
  node : Int
  ep : Int
  pl : Int
  s : ByteArray
def wv (x : Wr) : Value := .agg #[.int .i64 x.node, .int .i64 x.ep, .int .i64 x.pl, .string x.s]
def wT (x : Wr) : TV := .agg [iT x.node, iT x.ep, iT x.pl, .s x.s]
def wm (W : List (Int × Wr)) : List (Int × Value) := W.map fun p => (p.1, wv p.2)
def wget (k : Int) : List (Int × Wr) → Option Wr
  | [] => none
  | (q, x) :: l => if q = k then some x else wget k l
def wdel (k : Int) : List (Int × Wr) → List (Int × Wr)
  | [] => []
  | (q, x) :: l => if q = k then l else (q, x) :: wdel k l
abbrev dP (S : List ByteArray) (W : List (Int × Wr)) (last : Int) (b : Nat) : AbP := diskP S (wm W) last b
def s1 (S : List ByteArray) : ByteArray := S.getD 1 ⟨#[]⟩
section
variable {H : HL} {nx d b : Nat} {S : List ByteArray} {W : List (Int × Wr)} {last : Int}
set_option maxRecDepth 100000 in
set_option maxHeartbeats 1000000 in
theorem readA (hd : lookH H d = some (true, .ab (dP S W last b))) (k : Int) : FnH Tryz.prog 56 [.c (.nm d), .c (iT k)] H nx ⟨.tup [.c (.s (rdT S k)), .c (iT (rdE S.length k))], [], [(d, some (.ab (dP S W last b)))], []⟩ := by
  refine fnA (fn := Tryz.f56) 24 rfl rfl rfl hd (ptr b) (disk_pins _ _ _ _) (disk_pins _ _ _ _) rfl rfl rfl (v' := .tup [.c (.s (rdT S k)), .c (iT (rdE S.length k))]) (news' := []) rfl rfl rfl rfl fun w Wr => ?_
  refine At.unfoldTo 0 (L1 := (0, .t (.c (.p 1 0))) :: [(1, .t (.c (iT k)))]) (H1 := [(1, some (true, .cells [.nm 2, .mp 3, iT (last)] 117)), (2, some (true, .own 9 1 (S).length (svs (S)))), (3, some (true, .mp (wm (W)))), (4, some (false, .pin 1 b)), (0, none), (0, some (true, .ab (dP (S) (W) (last) b)))]) (nx1 := 5) rfl rfl rfl rfl rfl rfl ?_
  cases h : inS S.length k with
  | false =>
    have e1 : rdT S k = ⟨#[]⟩ := by simp [rdT, h]
    have e2 : rdE S.length k = 1 := by simp [rdE, h]
    rw [e1, e2]
    refine rn [(16, .dec true)] rfl (by (repeat' (first | exact trivial | exact rfl | exact not_inS h | exact fun _ => not_inS h | refine And.intro ?_ ?_))) ?_
    refine Done.fold [(0, 1), (1, 2), (2, 3), (3, 4)] (diskO b S (wm W) last) (.p 0 0) (by repeat' (first | exact trivial | exact rfl | refine And.intro ?_ ?_)) rfl rfl (fun _ => rfl) ?_
    exact retM tysOk [(0, 5)] rfl (by repeat' (first | exact trivial | exact rfl | refine And.intro ?_ ?_)) (by repeat' (first | exact trivial | exact rfl | refine And.intro ?_ ?_)) rfl rfl
  | true =>
    have e2 : rdE S.length k = 0 := by simp [rdE, h]
    have hb := inS_iff.1 h
    rw [e2]
    refine rn [(16, .dec false), (23, .ld [.s (rdT S k)])] rfl (by (repeat' (first | exact trivial | exact rfl | exact is_inS h | exact fun _ => is_inS h | first | exact svs_rd h | exact hb.1 | exact hb.2 | decide | refine And.intro ?_ ?_))) ?_
    refine Done.fold [(0, 1), (1, 2), (2, 3), (3, 4)] (diskO b S (wm W) last) (.p 0 0) (by repeat' (first | exact trivial | exact rfl | refine And.intro ?_ ?_)) rfl rfl (fun _ => rfl) ?_
    exact retM tysOk [(0, 5)] rfl (by repeat' (first | exact trivial | exact rfl | refine And.intro ?_ ?_)) (by repeat' (first | exact trivial | exact rfl | refine And.intro ?_ ?_)) rfl rfl
theorem set_svs {S : List ByteArray} {k : Nat} {s : ByteArray} (h : k < S.length) : Vc.setAt (svs S) (k * 1) [Value.string s] = svs (S.set k s) := by
  apply List.ext_getElem?
  intro i
  simp only [Vc.setAt, svs]
  by_cases h1 : i < k
  · rw [List.append_assoc, List.getElem?_append_left (by simp; omega)]
    simp [List.getElem?_take, h1, List.getElem?_set, show k ≠ i by omega]
  · by_cases h2 : i = k
    · subst h2
      rw [List.append_assoc, List.getElem?_append_right (by simp; omega)]
      simp [h, show min i S.length = i by omega]
    · rw [List.getElem?_append_right (by simp; omega)]
      simp only [List.length_append, List.length_take, List.length_map, List.length_singleton, List.getElem?_drop]
      rw [show min (k * 1) S.length = k by omega, show k * 1 + 1 + (i - (k + 1)) = i by omega]
      simp [List.getElem?_set, show k ≠ i by omega]
def layS (S : List ByteArray) (k : Int) (s : ByteArray) : List ByteArray := if wrE S.length k s = 0 then S.set k.toNat s else S
theorem wrE_ok {n : Nat} {k : Int} {s : ByteArray} (h : wrE n k s = 0) : inS n k = true ∧ s.size = 64 := by
  unfold wrE at h
  split at h
  · split at h
    · exact ⟨by assumption, by assumption⟩
    · cases h
  · cases h
set_option maxRecDepth 100000 in
set_option maxHeartbeats 1000000 in
theorem layA (hd : lookH H d = some (true, .ab (dP S W last b))) (k : Int) (s : ByteArray) : FnH Tryz.prog 36 [.c (.nm d), .c (iT k), .c (.s s)] H nx ⟨.t (.c (iT (wrE S.length k s))), [], [(d, some (.ab (dP (layS S k s) W last b)))], []⟩ := by
  refine fnA (fn := Tryz.f36) 22 rfl rfl rfl hd (ptr b) (disk_pins _ _ _ _) (disk_pins _ _ _ _) rfl rfl rfl (v' := .t (.c (iT (wrE S.length k s)))) (news' := []) rfl rfl rfl rfl fun w Wr => ?_
  refine At.unfoldTo 0 (L1 := (0, .t (.c (.p 1 0))) :: [(1, .t (.c (iT k))), (2, .t (.c (.s s)))]) (H1 := [(1, some (true, .cells [.nm 2, .mp 3, iT (last)] 117)), (2, some (true, .own 9 1 (S).length (svs (S)))), (3, some (true, .mp (wm (W)))), (4, some (false, .pin 1 b)), (0, none), (0, some (true, .ab (dP (S) (W) (last) b)))]) (nx1 := 5) rfl rfl rfl rfl rfl rfl ?_
  by_cases h : wrE S.length k s = 0
  · have e1 : layS S k s = S.set k.toNat s := if_pos h
    obtain ⟨h1, h2⟩ := wrE_ok h
    have hb := inS_iff.1 h1
    have hlt : k.toNat < S.length := by omega
    have hl : (svs S).length = S.length := svs_length S
    rw [e1]
    refine rn [(11, .spec ⟨.t (.c (iT (wrE S.length k s))), [], [], []⟩), (13, .dec true)] rfl (by (repeat' (first | exact trivial | exact rfl | exact wrongU rfl rfl k s | exact fun _ => wrongU rfl rfl k s | first | exact hb.1 | exact hb.2 | (rw [h]; rfl) | (show k.toNat * 1 + 1 ≤ (svs S).length; omega) | decide | refine And.intro ?_ ?_))) ?_
    refine Done.fold [(0, 1), (1, 2), (2, 3), (3, 4)] (diskO b (S.set k.toNat s) (wm W) last) (.p 0 0) ?_ rfl rfl (fun _ => rfl) ?_
    · (repeat' (first | exact trivial | exact rfl | exact trivial | exact fun _ => trivial | first | exact (List.length_set ..).symm | exact set_svs hlt | refine And.intro ?_ ?_))
    · exact retM tysOk [(0, 5)] rfl (by repeat' (first | exact trivial | exact rfl | refine And.intro ?_ ?_)) (by repeat' (first | exact trivial | exact rfl | refine And.intro ?_ ?_)) rfl rfl
  · have e1 : layS S k s = S := if_neg h
    have hne : (wrE S.length k s == 0) = false := by simpa using h
    rw [e1]
    refine rn [(11, .spec ⟨.t (.c (iT (wrE S.length k s))), [], [], []⟩), (13, .dec false)] rfl (by (repeat' (first | exact trivial | exact rfl | exact wrongU rfl rfl k s | exact fun _ => wrongU rfl rfl k s | exact hne | refine And.intro ?_ ?_))) ?_
    refine Done.fold [(0, 1), (1, 2), (2, 3), (3, 4)] (diskO b (S) (wm (W)) (last)) (.p 0 0) (by repeat' (first | exact trivial | exact rfl | refine And.intro ?_ ?_)) rfl rfl (fun _ => rfl) ?_
    exact retM tysOk [(0, 5)] rfl (by repeat' (first | exact trivial | exact rfl | refine And.intro ?_ ?_)) (by repeat' (first | exact trivial | exact rfl | refine And.intro ?_ ?_)) rfl rfl
def drE (W : List (Int × Wr)) (k : Int) : Int := if (wget k W).isSome then 0 else 5
end
end Cw
namespace Cw
open Go Vc
open Go.Proofs
set_option maxRecDepth 100000
section
variable {H : HL} {nx d b : Nat} {S : List ByteArray} {W : List (Int × Wr)} {last : Int}
def apB (S : List ByteArray) (W : List (Int × Wr)) (k : Int) : Bool := match wget k W with
  | some x => psD (s1 S) x.node x.ep
  | none => false
def apS (S : List ByteArray) (W : List (Int × Wr)) (k : Int) : List ByteArray := match wget k W with
  | some x => if psD (s1 S) x.node x.ep then S.set x.pl.toNat x.s else S
  | none => S
def abW (W : List (Int × Wr)) (k : Int) : Wr := (wget k W).getD ⟨0, 0, 0, ⟨#[]⟩⟩
def isuE (S : List ByteArray) (W : List (Int × Wr)) (node ep pl : Int) (s : ByteArray) : Int :=
  if isE node ep ≠ 0 then 1 else if wrE S.length pl s ≠ 0 then wrE S.length pl s else if 1024 ≤ W.length then 2 else if psD (s1 S) node ep then 0 else 110
def isuN (S : List ByteArray) (W : List (Int × Wr)) (last node ep pl : Int) (s : ByteArray) : Int := if isuE S W node ep pl s = 0 then last + 1 else 0
def isuL (S : List ByteArray) (W : List (Int × Wr)) (last node ep pl : Int) (s : ByteArray) : Int := if isuE S W node ep pl s = 0 then last + 1 else last
def isuW (S : List ByteArray) (W : List (Int × Wr)) (last node ep pl : Int) (s : ByteArray) : List (Int × Wr) := if isuE S W node ep pl s = 0 then W ++ [(last + 1, ⟨node, ep, pl, s⟩)] else W
theorem isE_cases (node ep : Int) : isE node ep = 0 ∨ isE node ep = 1 := by unfold isE; split <;> simp
def rsE (S : List ByteArray) (node n : Int) : Int := if raiseE (s1 S) node n = 40 then 110 else raiseE (s1 S) node n
def rsS (S : List ByteArray) (node n : Int) : List ByteArray := if raiseE (s1 S) node n = 0 then S.set 1 (setE (s1 S) node n) else S
theorem raiseE_cases (s : ByteArray) (node n : Int) : raiseE s node n = 0 ∨ raiseE s node n = 1 ∨ raiseE s node n = 40 := by
  unfold raiseE
  split
  · split <;> simp
  · simp
set_option maxRecDepth 100000 in
set_option maxHeartbeats 2000000 in
theorem raiseA (hd : lookH H d = some (true, .ab (dP S W last b))) (h2 : 2 ≤ S.length) (hz : ∀ s ∈ S, s.size = 64) (node n : Int) :
    FnH Tryz.prog 20 [.c (.nm d), .c (iT node), .c (iT n)] H nx ⟨.t (.c (iT (rsE S node n))), [], [(d, some (.ab (dP (rsS S node n) W last b)))], []⟩ := by
  refine fnA (fn := Tryz.f20) 33 rfl rfl rfl hd (ptr b) (disk_pins _ _ _ _) (disk_pins _ _ _ _) rfl rfl rfl (v' := .t (.c (iT (rsE S node n)))) (news' := []) rfl rfl rfl rfl fun w Wr => ?_
  refine At.unfoldTo 0 (L1 := (0, .t (.c (.p 1 0))) :: [(1, .t (.c (iT node))), (2, .t (.c (iT n)))]) (H1 := [(1, some (true, .cells [.nm 2, .mp 3, iT (last)] 117)), (2, some (true, .own 9 1 (S).length (svs (S)))), (3, some (true, .mp (wm (W)))), (4, some (false, .pin 1 b)), (0, none), (0, some (true, .ab (dP (S) (W) (last) b)))]) (nx1 := 5) rfl rfl rfl rfl rfl rfl ?_
  have hg : s1 S = S[1] := by rw [s1, List.getD_eq_getElem?_getD, List.getElem?_eq_getElem (by omega)]; rfl
  have l1 : (svs S)[(1 : Int).toNat * 1]? = some (.string (s1 S)) := by rw [hg]; exact svs_at (by omega)
  have hs : (s1 S).size = 64 := by rw [hg]; exact hz _ (List.getElem_mem _)
  have hr := raise0 (s1 S) node n (by omega)
  have b1 : (1 : Int) < (S.length : Int) := by omega
  have hsl : (svs S).length = S.length := svs_length S
  rcases raiseE_cases (s1 S) node n with q | q | q
  · have e0 : rsE S node n = 0 := by simp [rsE, q]
    have e1 : rsS S node n = S.set 1 (setE (s1 S) node n) := by simp [rsS, q]
    have e2 : raiseS (s1 S) node n = setE (s1 S) node n := by rw [raiseS, if_pos q]
    rw [q, e2] at hr
    rw [e0, e1]
    refine rn [(15, .ld [.s (s1 S)]), (18, .ret (.tup [.c (.s (setE (s1 S) node n)), .c (iT 0)])), (22, .dec true)] rfl (by (repeat' (first | exact trivial | exact rfl | exact l1 | exact fun _ => l1 | first | exact hr | exact b1 | (show (1 : Int).toNat * 1 + 1 ≤ (svs S).length; omega) | decide | refine And.intro ?_ ?_))) ?_
    refine Done.fold [(0, 1), (1, 2), (2, 3), (3, 4)] (diskO b (S.set 1 (setE (s1 S) node n)) (wm W) last) (.p 0 0) ?_ rfl rfl (fun _ => rfl) ?_
    · (repeat' (first | exact trivial | exact rfl | exact trivial | exact fun _ => trivial | first | exact (List.length_set ..).symm | exact set_svs (k := 1) (by omega) | refine And.intro ?_ ?_))
    · exact retM tysOk [(0, 5)] rfl (by repeat' (first | exact trivial | exact rfl | refine And.intro ?_ ?_)) (by repeat' (first | exact trivial | exact rfl | refine And.intro ?_ ?_)) rfl rfl
  · have e0 : rsE S node n = 1 := by simp [rsE, q]
    have e1 : rsS S node n = S := by simp [rsS, q]
    rw [q] at hr
    rw [e0, e1]
    refine rn [(15, .ld [.s (s1 S)]), (18, .ret (.tup [.c (.s (raiseS (s1 S) node n)), .c (iT 1)])), (22, .dec false), (30, .dec false)] rfl (by (repeat' (first | exact trivial | exact rfl | exact l1 | exact fun _ => l1 | first | exact hr | exact b1 | decide | refine And.intro ?_ ?_))) ?_
    refine Done.fold [(0, 1), (1, 2), (2, 3), (3, 4)] (diskO b (S) (wm (W)) (last)) (.p 0 0) (by repeat' (first | exact trivial | exact rfl | refine And.intro ?_ ?_)) rfl rfl (fun _ => rfl) ?_
    exact retM tysOk [(0, 5)] rfl (by repeat' (first | exact trivial | exact rfl | refine And.intro ?_ ?_)) (by repeat' (first | exact trivial | exact rfl | refine And.intro ?_ ?_)) rfl rfl
  · have e0 : rsE S node n = 110 := by simp [rsE, q]
    have e1 : rsS S node n = S := by simp [rsS, q]
    rw [q] at hr
    rw [e0, e1]
    refine rn [(15, .ld [.s (s1 S)]), (18, .ret (.tup [.c (.s (raiseS (s1 S) node n)), .c (iT 40)])), (22, .dec false), (30, .dec true)] rfl (by (repeat' (first | exact trivial | exact rfl | exact l1 | exact fun _ => l1 | first | exact hr | exact b1 | decide | refine And.intro ?_ ?_))) ?_
    refine Done.fold [(0, 1), (1, 2), (2, 3), (3, 4)] (diskO b (S) (wm (W)) (last)) (.p 0 0) (by repeat' (first | exact trivial | exact rfl | refine And.intro ?_ ?_)) rfl rfl (fun _ => rfl) ?_
    exact retM tysOk [(0, 5)] rfl (by repeat' (first | exact trivial | exact rfl | refine And.intro ?_ ?_)) (by repeat' (first | exact trivial | exact rfl | refine And.intro ?_ ?_)) rfl rfl
end
end Cw
namespace Cw
open Go Vc
open Go.Proofs
set_option maxRecDepth 100000
/-- The numbers of a node's writes that wait. -/
def waitL (W : List (Int × Wr)) (node : Int) : List Int := (W.filter fun p => p.2.node == node).map Prod.fst
section
variable {H : HL} {nx d b : Nat} {S : List ByteArray} {W : List (Int × Wr)} {last : Int}
end
/-- A new disk's sectors. -/
def S0 (n : Nat) : List ByteArray := (List.replicate n B0).set 1 (wallB 0 0)
theorem svs_repl (n : Nat) (s : ByteArray) : svs (List.replicate n s) = List.replicate n (.string s) := by simp [svs]
set_option maxRecDepth 100000 in
set_option maxHeartbeats 2000000 in
theorem newA {H : HL} {nx n : Nat} (h0 : 2 ≤ n) (h1 : n ≤ 2048) : FnH Tryz.prog 14 [.c (iT n)] H nx ⟨.tup [.c (.nm nx), .c (iT 0)], [(true, .ab (exP (dP (S0 n) [] 0)))], [], []⟩ := by
  refine fnM (fn := Tryz.f14) 39 rfl rfl rfl (args' := [.c (iT n)]) (H' := []) (nx' := 0) [] (fun e w M => ⟨e, ⟨fun n b o h => (by cases h), fun n o m c q h => (by cases h)⟩, rfl⟩) rfl rfl rfl (fun e w M u hu => by cases hu) (fun u hu => by cases hu) (by simp) (v' := .tup [.c (.nm 0), .c (iT 0)]) (news' := [(true, .ab (exP (dP (S0 n) [] 0)))]) rfl rfl rfl rfl rfl fun w Wr => ?_
  have hc : (decide ((n : Int) < 2) || decide (2048 < (n : Int))) = false := by
    rw [Bool.or_eq_false_iff]
    exact ⟨decide_eq_false (by omega), decide_eq_false (by omega)⟩
  refine rn [(10, .dec false)] rfl (by (repeat' (first | exact trivial | exact rfl | exact hc | exact fun _ => hc | refine And.intro ?_ ?_))) ?_
  refine At.nilCell 1 0 9 1 rfl rfl rfl ?_
  refine At.loop (X := (j : Nat) ×' (j ≤ n)) 3 (fun s => n - s.1)
    (fun s => [(4, .t (.c (.p 1 0))), (14, .t (.c (iT (n : Nat)))), (15, .t (.c (iT (s.1 : Nat))))])
    (fun s => [(0, some (true, .mp (wm []))), (1, some (true, .cells [.nm 2, .mp 0, iT 0] 117)), (2, some (true, .own 9 1 s.1 (svs (List.replicate s.1 B0))))]) ⟨0, by omega⟩ [] (fun k => wf rfl rfl) (by repeat' (first | exact trivial | exact rfl | refine And.intro ?_ ?_)) (by repeat' (first | exact trivial | exact rfl | refine And.intro ?_ ?_)) rfl fun s => ?_
  obtain ⟨j, hj⟩ := s
  have w3 : IntKind.i64.wrap ((j : Int) + 1) = ((j + 1 : Nat) : Int) := by rw [wrap_sm (by omega) (by omega)]; omega
  refine rn [] rfl (by repeat' (first | exact trivial | exact rfl | refine And.intro ?_ ?_)) ?_
  refine ⟨fun h => ?_, fun h => ?_⟩
  · have hlt : j < n := by have : (j : Int) < (n : Int) := of_decide_eq_true h; omega
    clear h
    have m1 : j + 1 ≤ maxLen := by simp [maxLen]; omega
    have m2 : (j + 1) * 16 ≤ 140737488355328 := by omega
    refine rn [(22, .ret (.t (.c (.s B0))))] rfl (by (repeat' (first | exact trivial | exact rfl | exact blank0 | exact fun _ => blank0 | first | exact m1 | exact m2 | refine And.intro ?_ ?_))) ?_
    refine roundEnd ⟨j + 1, by omega⟩ [(2, 4)] (by show n - (j + 1) < n - j; omega) (by (repeat' (first | exact trivial | exact rfl | exact w3 | exact fun _ => w3 | refine And.intro ?_ ?_))) ?_ rfl
    repeat' (first | exact trivial | exact rfl | refine And.intro ?_ ?_)
    rw [svs_repl, svs_repl, app_eq, List.replicate_succ']
    rfl
  · have hlt : j = n := by have : ¬ (j : Int) < (n : Int) := of_decide_eq_false h; omega
    subst hlt
    have hsl : (svs (List.replicate j B0)).length = j := by rw [svs_length, List.length_replicate]
    refine rn [] rfl (by repeat' (first | exact trivial | exact rfl | refine And.intro ?_ ?_)) (roundExit rfl ?_)
    refine rnA [(34, .ret (.tup [.c (.s (wallB 0 0)), .c (iT 0)]))] rfl (by (repeat' (first | exact trivial | exact rfl | exact fence0 | exact fun _ => fence0 | first | (show (1 : Int).toNat * 1 + 1 ≤ (svs (List.replicate j B0)).length; rw [hsl]; omega) | (show (1 : Int) < ((j : Nat) : Int); omega) | decide | refine And.intro ?_ ?_))) ?_
    refine Done.pin 1 rfl fun b => ?_
    refine Done.foldR 2 (.p 1 0) [(0, 1), (1, 2), (2, 0), (3, 3)] (diskO b (S0 j) (wm []) 0) (.p 0 0) rfl (by repeat' (first | exact trivial | exact rfl | refine And.intro ?_ ?_)) ?_ rfl rfl (fun _ => rfl) ?_
    · (repeat' (first | exact trivial | exact rfl | exact trivial | exact fun _ => trivial | first | (show j = (S0 j).length; simp [S0]) | exact set_svs (S := List.replicate j B0) (k := 1) (by simp; omega) | refine And.intro ?_ ?_))
    refine Done.weak 4 (φ' := exP (dP (S0 j) [] 0)) rfl (exP_stable fun b => absP_stable _ _) (fun v F w h => ⟨b, h⟩) ?_
    exact retM tysOk [(0, 4)] rfl (by repeat' (first | exact trivial | exact rfl | refine And.intro ?_ ?_)) (by repeat' (first | exact trivial | exact rfl | refine And.intro ?_ ?_)) rfl rfl
end Cw
namespace Cw
open Go Vc
open Go.Proofs
set_option maxRecDepth 100000
theorem fenc_data : fenc.data.toList = [70, 69, 78, 67] := rfl
theorem app_data (a b : ByteArray) : (a ++ b).data.toList = a.data.toList ++ b.data.toList := by simp
theorem wallB_data (a b : Nat) : (wallB a b).data.toList = [70, 69, 78, 67] ++ le 4 a ++ le 4 b ++ List.replicate 52 0 := by
  rw [wallB, app_data, app_data, app_data, S_data, S_data, S_data, fenc_data]
theorem ep_wall {a b : Nat} (ha : a < 4294967296) (hb : b < 4294967296) : ep (wallB a b) = (a, b) := by
  have l1 := le_length 4 a
  have l2 := le_length 4 b
  have h1 : numAt (wallB a b) 4 4 = a := by
    rw [numAt, wallB_data, List.append_assoc, List.append_assoc, List.drop_append_of_le_length (by simp)]
    rw [show ([70, 69, 78, 67] : List UInt8).drop 4 = [] from rfl, List.nil_append, List.take_append_of_le_length (by omega), List.take_of_length_le (by omega)]
    exact num_le 4 a ha
  have h2 : numAt (wallB a b) 8 4 = b := by
    rw [numAt, wallB_data, List.append_assoc, List.drop_append_of_le_length (by simp [l1])]
    rw [List.drop_of_length_le (by simp [l1]), List.nil_append, List.take_append_of_le_length (by omega), List.take_of_length_le (by omega)]
    exact num_le 4 b hb
  rw [ep, h1, h2]
theorem fok_wall {a b : Nat} (ha : a < 4294967296) (hb : b < 4294967296) : fok (wallB a b) = true := by
  rw [fok, ep_wall ha hb, wallB_size]
  simp
theorem psD_wall {a b : Nat} (ha : a < 4294967296) (hb : b < 4294967296) (node n : Int) (hn : node = 0 ∨ node = 1) : psD (wallB a b) node n = decide (((if node = 0 then a else b : Nat) : Int) ≤ n) := by
  have e1 : passE (wallB a b) node = 0 := by simp [passE, fok_wall ha hb, hn]
  simp only [psD, passB, e1, epN, ep_wall ha hb]
  simp
/-- What stays of a disk of n sectors. -/
structure DOk (n : Nat) (S : List ByteArray) (W : List (Int × Wr)) (last : Int) : Prop where
  len : S.length = n
  two : 2 ≤ n
  sz : ∀ s ∈ S, s.size = 64
  pl : ∀ p ∈ W, inS n p.2.pl = true
  ws : ∀ p ∈ W, p.2.s.size = 64
  key : (W.map Prod.fst).Pairwise (· < ·)
  le : ∀ p ∈ W, 1 ≤ p.1 ∧ p.1 ≤ last
  l0 : 0 ≤ last
section
variable {n : Nat} {S : List ByteArray} {W : List (Int × Wr)} {last : Int}
theorem mem_set_sz {S : List ByteArray} {k : Nat} {t : ByteArray} (h : ∀ s ∈ S, s.size = 64) (ht : t.size = 64) : ∀ s ∈ S.set k t, s.size = 64 := fun s hs => by
  rcases List.mem_or_eq_of_mem_set hs with h1 | h1
  · exact h s h1
  · rw [h1]; exact ht
theorem DOk.lay (h : DOk n S W last) (k : Int) (s : ByteArray) : DOk n (layS S k s) W last := by
  unfold layS
  split
  · rename_i hw
    exact { h with len := by rw [List.length_set]; exact h.len, sz := mem_set_sz h.sz (wrE_ok hw).2 }
  · exact h
theorem setE_size (s : ByteArray) (node n : Int) : (setE s node n).size = 64 := by
  unfold setE
  split <;> exact wallB_size _ _
theorem DOk.rs (h : DOk n S W last) (node m : Int) : DOk n (rsS S node m) W last := by
  unfold rsS
  split
  · exact { h with len := by rw [List.length_set]; exact h.len, sz := mem_set_sz h.sz (setE_size _ _ _) }
  · exact h
theorem DOk.new {n : Nat} (h : 2 ≤ n) : DOk n (S0 n) [] 0 where
  len := by simp [S0]
  two := h
  sz := mem_set_sz (fun s hs => by rw [(List.mem_replicate.1 hs).2, B0, S_size]; rfl) (wallB_size _ _)
  pl := by simp
  ws := by simp
  key := by simp
  le := by simp
  l0 := Int.le_refl _
end
abbrev dX (S : List ByteArray) (W : List (Int × Wr)) (last : Int) : AbP := exP (dP S W last)
theorem dX_nn (S : List ByteArray) (W : List (Int × Wr)) (last : Int) : NotNil (dX S W last) := NotNil.ex fun b => disk_pins _ _ _ _
theorem dP_st (S : List ByteArray) (W : List (Int × Wr)) (last : Int) : ∀ b, stable (dP S W last b) := fun b => absP_stable _ _
end Cw
namespace Cw
open Go Vc
open Go.Proofs
set_option maxRecDepth 100000
section
variable {H : HL} {nx d b n : Nat} {S : List ByteArray} {W : List (Int × Wr)} {last : Int}
theorem raiseD (hd : lookH H d = some (true, .ab (dP S W last b))) (h : DOk n S W last) (node m : Int) :
    FnH Tryz.prog 20 [.c (.nm d), .c (iT node), .c (iT m)] H nx ⟨.t (.c (iT (rsE S node m))), [], [(d, some (.ab (dP (rsS S node m) W last b)))], []⟩ := raiseA hd (h.len ▸ h.two) h.sz node m
theorem nilD (hd : lookH H d = some (true, .ab (dX S W last))) {L : LL} {o : Oper} {x y : Operand} (hop : o.op = .binOp .eql 38 x y 38) (hx : ev L x = some (.c (.nm d))) (hy : ev L y = some (.c .np)) : Spec Tryz.prog L H nx o ⟨.t (.c (.b false)), [], [], []⟩ :=
  spec_nil tysOk hop hx hy rfl rfl hd (dX_nn _ _ _)
end
theorem isE_ok {node ep : Int} (h : 0 ≤ node ∧ node < 2 ∧ 0 ≤ ep ∧ ep ≤ 4294967295) : isE node ep = 0 := if_pos h
def xB : ByteArray := ⟨#[120]⟩
end Cw
namespace Cw
open Go Vc
open Go.Proofs
set_option maxRecDepth 100000
def ptT (p : Pt) : TV := .agg [iT p.1, .s p.2]
theorem fcheck0 (p : Pt) (h : p.2.size ≤ 9223372036854775807) : Fn0 Tryz.prog 140 [ptT p] (.t (.c (iT (fcheck p.1 p.2.size)))) := ⟨fun w => fcheck_any p.1 p.2 h w⟩
/-- What a place of a text holds. -/
def plc (s : ByteArray) (p : Pt) : ByteArray := s.extract p.1.toNat (p.1 + p.2.size).toNat
def swE (S : List ByteArray) (node ep k : Int) (was now : Pt) : Int :=
  if isE node ep ≠ 0 then 1 else if inS S.length k = false then 1 else if okp was = false ∨ okp now = false then 1 else if was.1 ≠ now.1 ∨ was.2.size ≠ now.2.size then 4 else if psD (s1 S) node ep = false then 110 else 0
def swB (S : List ByteArray) (node ep k : Int) (was now : Pt) : Bool := decide (swE S node ep k was now = 0) && (plc (rdT S k) was == was.2)
def swS (S : List ByteArray) (node ep k : Int) (was now : Pt) : List ByteArray := if swB S node ep k was now then S.set k.toNat (pt (rdT S k) [now]) else S
section
variable {H : HL} {nx d b n : Nat} {S : List ByteArray} {W : List (Int × Wr)} {last : Int}
set_option maxRecDepth 100000 in
set_option maxHeartbeats 4000000 in
theorem swapA (hd : lookH H d = some (true, .ab (dP S W last b))) (hD : DOk n S W last) (node ep k : Int) (was now : Pt) (z1 : was.2.size ≤ 9223372036854775807) (z2 : now.2.size ≤ 9223372036854775807) :
    FnH Tryz.prog 107 [.c (.nm d), .c (iT node), .c (iT ep), .c (iT k), ptT was, ptT now] H nx ⟨.tup [.c (.b (swB S node ep k was now)), .c (iT (swE S node ep k was now))], [], [(d, some (.ab (dP (swS S node ep k was now) W last b)))], []⟩ := by
  refine fnA (fn := Tryz.f107) 92 rfl rfl rfl hd (ptr b) (disk_pins _ _ _ _) (disk_pins _ _ _ _) rfl rfl rfl (v' := .tup [.c (.b (swB S node ep k was now)), .c (iT (swE S node ep k was now))]) (news' := []) rfl rfl rfl rfl fun w Wr => ?_
  refine At.unfoldTo 0 (L1 := (0, .t (.c (.p 1 0))) :: [(1, .t (.c (iT node))), (2, .t (.c (iT ep))), (3, .t (.c (iT k))), (4, .t (ptT was)), (5, .t (ptT now))]) (H1 := [(1, some (true, .cells [.nm 2, .mp 3, iT (last)] 117)), (2, some (true, .own 9 1 (S).length (svs (S)))), (3, some (true, .mp (wm (W)))), (4, some (false, .pin 1 b)), (0, none), (0, some (true, .ab (dP (S) (W) (last) b)))]) (nx1 := 5) rfl rfl rfl rfl rfl rfl ?_
  have hi := issuer0 node ep
  rcases (isE_cases node ep).symm with q1 | q1
  · rw [q1] at hi
    have e0 : swE S node ep k was now = 1 := by simp [swE, q1]
    have e1 : swB S node ep k was now = false := by simp [swB, e0]
    have e2 : swS S node ep k was now = S := by simp [swS, e1]
    rw [e0, e1, e2]
    refine rn [(21, .ret (.t (.c (iT 1)))), (23, .dec true)] rfl (by (repeat' (first | exact trivial | exact rfl | exact hi | exact fun _ => hi | decide | refine And.intro ?_ ?_))) ?_
    refine Done.fold [(0, 1), (1, 2), (2, 3), (3, 4)] (diskO b (S) (wm (W)) (last)) (.p 0 0) (by repeat' (first | exact trivial | exact rfl | refine And.intro ?_ ?_)) rfl rfl (fun _ => rfl) ?_
    exact retM tysOk [(0, 7)] rfl (by repeat' (first | exact trivial | exact rfl | refine And.intro ?_ ?_)) (by repeat' (first | exact trivial | exact rfl | refine And.intro ?_ ?_)) rfl rfl
  rw [q1] at hi
  have hrd : ∀ {H : HL}, lookH H 1 = some (true, .cells [.nm 2, .mp 3, iT last] 117) → lookH H 2 = some (true, .own 9 1 S.length (svs S)) → FnH Tryz.prog 56 [.c (.p 1 0), .c (iT k)] H 7 ⟨.tup [.c (.s (rdT S k)), .c (iT (rdE S.length k))], [], [], []⟩ := fun {H} h1 h2 => readU h1 h2 k
  cases q2 : inS S.length k with
  | false =>
    have e0 : swE S node ep k was now = 1 := by simp [swE, q1, q2]
    have e1 : swB S node ep k was now = false := by simp [swB, e0]
    have e2 : swS S node ep k was now = S := by simp [swS, e1]
    have hr : rdE S.length k = 1 := by simp [rdE, q2]
    rw [hr] at hrd
    rw [e0, e1, e2]
    refine rn [(21, .ret (.t (.c (iT 0)))), (23, .dec false), (28, .spec ⟨.tup [.c (.s (rdT S k)), .c (iT 1)], [], [], []⟩), (32, .dec true)] rfl (by (repeat' (first | exact trivial | exact rfl | exact hi | exact fun _ => hi | first | exact hrd rfl rfl | decide | refine And.intro ?_ ?_))) ?_
    refine Done.fold [(0, 1), (1, 2), (2, 3), (3, 4)] (diskO b (S) (wm (W)) (last)) (.p 0 0) (by repeat' (first | exact trivial | exact rfl | refine And.intro ?_ ?_)) rfl rfl (fun _ => rfl) ?_
    exact retM tysOk [(0, 7)] rfl (by repeat' (first | exact trivial | exact rfl | refine And.intro ?_ ?_)) (by repeat' (first | exact trivial | exact rfl | refine And.intro ?_ ?_)) rfl rfl
  | true =>
    have hr : rdE S.length k = 0 := by simp [rdE, q2]
    rw [hr] at hrd
    have hb := inS_iff.1 q2
    have hlt : k.toNat < S.length := by omega
    have hmem : rdT S k ∈ S := by
      rw [rdT, if_pos q2, List.getD_eq_getElem?_getD, List.getElem?_eq_getElem hlt]
      exact List.getElem_mem hlt
    have h64 := hD.sz _ hmem
    have hfc := fcheck0 was z1
    have hpt : ∀ {H : HL} {T : TypeId}, lookH H 7 = some (true, .cells [iT now.1, .s now.2] T) → FnH Tryz.prog 136 [.c (.s (rdT S k)), .c (.sl 7 0 1 1)] H 8 ⟨.tup [.c (.s (pt (rdT S k) [now])), .c (iT (pte (rdT S k) [now]))], [], [], []⟩ := fun {H} {T} h =>
      patched_lit (rdT S k) [now] (by simpa using z2) (by omega) (by simp [maxLen]) h rfl (fun e => rfl)
    have hpe : pte (rdT S k) [now] = if okp now then 0 else 1 := by simp [pte, h64]
    have hsl : (svs S).length = S.length := svs_length S
    by_cases q3 : okp was = false ∨ okp now = false
    · have e0 : swE S node ep k was now = 1 := by simp [swE, q1, q2, q3]
      have e1 : swB S node ep k was now = false := by simp [swB, e0]
      have e2 : swS S node ep k was now = S := by simp [swS, e1]
      rw [e0, e1, e2]
      cases q4 : okp was with
      | false =>
        have hf : fcheck was.1 was.2.size = 1 := by
          have : finside was.1 was.2.size = false := q4
          simp [fcheck, this]
        rw [hf] at hfc
        refine rn [(21, .ret (.t (.c (iT 0)))), (23, .dec false), (28, .spec ⟨.tup [.c (.s (rdT S k)), .c (iT 0)], [], [], []⟩), (32, .dec false), (38, .spec ⟨.tup [.c (.s (pt (rdT S k) [now])), .c (iT (pte (rdT S k) [now]))], [], [], []⟩), (42, .ret (.t (.c (iT 1)))), (44, .dec true), (46, .dec true)] rfl (by (repeat' (first | exact trivial | exact rfl | exact hi | exact fun _ => hi | first | exact hrd rfl rfl | exact hpt rfl | exact hfc | decide | refine And.intro ?_ ?_))) ?_
        refine Done.fold [(0, 1), (1, 2), (2, 3), (3, 4)] (diskO b (S) (wm (W)) (last)) (.p 0 0) (by repeat' (first | exact trivial | exact rfl | refine And.intro ?_ ?_)) rfl rfl (fun _ => rfl) ?_
        exact retM tysOk [(0, 8)] rfl (by repeat' (first | exact trivial | exact rfl | refine And.intro ?_ ?_)) (by repeat' (first | exact trivial | exact rfl | refine And.intro ?_ ?_)) rfl rfl
      | true =>
        have hf : fcheck was.1 was.2.size = 0 := by
          have : finside was.1 was.2.size = true := q4
          simp [fcheck, this]
        have q5 : okp now = false := by rcases q3 with h | h
                                        · rw [q4] at h; cases h
                                        · exact h
        have hp1 : pte (rdT S k) [now] = 1 := by rw [hpe, q5]; rfl
        rw [hf] at hfc
        rw [hp1] at hpt
        refine rn [(21, .ret (.t (.c (iT 0)))), (23, .dec false), (28, .spec ⟨.tup [.c (.s (rdT S k)), .c (iT 0)], [], [], []⟩), (32, .dec false), (38, .spec ⟨.tup [.c (.s (pt (rdT S k) [now])), .c (iT 1)], [], [], []⟩), (42, .ret (.t (.c (iT 0)))), (44, .dec false), (46, .dec true)] rfl (by (repeat' (first | exact trivial | exact rfl | exact hi | exact fun _ => hi | first | exact hrd rfl rfl | exact hpt rfl | exact hfc | decide | refine And.intro ?_ ?_))) ?_
        refine Done.fold [(0, 1), (1, 2), (2, 3), (3, 4)] (diskO b (S) (wm (W)) (last)) (.p 0 0) (by repeat' (first | exact trivial | exact rfl | refine And.intro ?_ ?_)) rfl rfl (fun _ => rfl) ?_
        exact retM tysOk [(0, 8)] rfl (by repeat' (first | exact trivial | exact rfl | refine And.intro ?_ ?_)) (by repeat' (first | exact trivial | exact rfl | refine And.intro ?_ ?_)) rfl rfl
    · have q4 : okp was = true := by cases h : okp was <;> simp_all
      have q5 : okp now = true := by cases h : okp now <;> simp_all
      have hf : fcheck was.1 was.2.size = 0 := by
        have : finside was.1 was.2.size = true := q4
        simp [fcheck, this]
      have hp0 : pte (rdT S k) [now] = 0 := by rw [hpe, q5]; rfl
      rw [hf] at hfc
      rw [hp0] at hpt
      by_cases q6 : was.1 ≠ now.1 ∨ was.2.size ≠ now.2.size
      · have e0 : swE S node ep k was now = 4 := by simp [swE, q1, q2, q4, q5, q6]
        have e1 : swB S node ep k was now = false := by simp [swB, e0]
        have e2 : swS S node ep k was now = S := by simp [swS, e1]
        have hc : ((was.1 != now.1) || (((was.2.size : Nat) : Int) != (now.2.size : Nat))) = true := by
          rw [Bool.or_eq_true, bne_iff_ne, bne_iff_ne]
          rcases q6 with h | h
          · exact .inl h
          · exact .inr (by omega)
        rw [e0, e1, e2]
        refine rn [(21, .ret (.t (.c (iT 0)))), (23, .dec false), (28, .spec ⟨.tup [.c (.s (rdT S k)), .c (iT 0)], [], [], []⟩), (32, .dec false), (38, .spec ⟨.tup [.c (.s (pt (rdT S k) [now])), .c (iT 0)], [], [], []⟩), (42, .ret (.t (.c (iT 0)))), (44, .dec false), (46, .dec false), (50, .dec true)] rfl (by (repeat' (first | exact trivial | exact rfl | exact hi | exact fun _ => hi | first | exact hrd rfl rfl | exact hpt rfl | exact hfc | exact hc | decide | refine And.intro ?_ ?_))) ?_
        refine Done.fold [(0, 1), (1, 2), (2, 3), (3, 4)] (diskO b (S) (wm (W)) (last)) (.p 0 0) (by repeat' (first | exact trivial | exact rfl | refine And.intro ?_ ?_)) rfl rfl (fun _ => rfl) ?_
        exact retM tysOk [(0, 8)] rfl (by repeat' (first | exact trivial | exact rfl | refine And.intro ?_ ?_)) (by repeat' (first | exact trivial | exact rfl | refine And.intro ?_ ?_)) rfl rfl
      · have q7 : was.1 = now.1 ∧ was.2.size = now.2.size := ⟨Decidable.byContradiction fun h => q6 (.inl h), Decidable.byContradiction fun h => q6 (.inr h)⟩
        have hc : ((was.1 != now.1) || (((was.2.size : Nat) : Int) != (now.2.size : Nat))) = false := by
          rw [q7.1, q7.2]; simp
        have hps : ∀ {H : HL}, lookH H 1 = some (true, .cells [.nm 2, .mp 3, iT last] 117) → lookH H 2 = some (true, .own 9 1 S.length (svs S)) → FnH Tryz.prog 141 [.c (.p 1 0), .c (iT node), .c (iT ep)] H 8 ⟨.t (.c (.b (psD (s1 S) node ep))), [], [], []⟩ := fun {H} h1 h2 => passesU h1 h2 (hD.len ▸ hD.two) hD.sz node ep
        cases q8 : psD (s1 S) node ep with
        | false =>
          have e0 : swE S node ep k was now = 110 := by simp [swE, q1, q2, q4, q5, q7, q8]
          have e1 : swB S node ep k was now = false := by simp [swB, e0]
          have e2 : swS S node ep k was now = S := by simp [swS, e1]
          rw [q8] at hps
          rw [e0, e1, e2]
          refine rn [(21, .ret (.t (.c (iT 0)))), (23, .dec false), (28, .spec ⟨.tup [.c (.s (rdT S k)), .c (iT 0)], [], [], []⟩), (32, .dec false), (38, .spec ⟨.tup [.c (.s (pt (rdT S k) [now])), .c (iT 0)], [], [], []⟩), (42, .ret (.t (.c (iT 0)))), (44, .dec false), (46, .dec false), (50, .dec false), (69, .spec ⟨.t (.c (.b false)), [], [], []⟩), (65, .dec true)] rfl (by (repeat' (first | exact trivial | exact rfl | exact hi | exact fun _ => hi | first | exact hrd rfl rfl | exact hpt rfl | exact hfc | exact hc | exact hps rfl rfl | decide | refine And.intro ?_ ?_))) ?_
          refine Done.fold [(0, 1), (1, 2), (2, 3), (3, 4)] (diskO b (S) (wm (W)) (last)) (.p 0 0) (by repeat' (first | exact trivial | exact rfl | refine And.intro ?_ ?_)) rfl rfl (fun _ => rfl) ?_
          exact retM tysOk [(0, 8)] rfl (by repeat' (first | exact trivial | exact rfl | refine And.intro ?_ ?_)) (by repeat' (first | exact trivial | exact rfl | refine And.intro ?_ ?_)) rfl rfl
        | true =>
          have e0 : swE S node ep k was now = 0 := by simp [swE, q1, q2, q4, q5, q7, q8]
          have e1 : swB S node ep k was now = (plc (rdT S k) was == was.2) := by simp [swB, e0]
          have hok := okp_iff q4
          have wk : IntKind.i64.wrap (was.1 + (was.2.size : Nat)) = was.1 + (was.2.size : Nat) := wrap_sm (by omega) (by omega)
          rw [q8] at hps
          rw [e0]
          refine rn [(21, .ret (.t (.c (iT 0)))), (23, .dec false), (28, .spec ⟨.tup [.c (.s (rdT S k)), .c (iT 0)], [], [], []⟩), (32, .dec false), (38, .spec ⟨.tup [.c (.s (pt (rdT S k) [now])), .c (iT 0)], [], [], []⟩), (42, .ret (.t (.c (iT 0)))), (44, .dec false), (46, .dec false), (50, .dec false), (69, .spec ⟨.t (.c (.b true)), [], [], []⟩), (65, .dec false)] rfl (by (repeat' (first | exact trivial | exact rfl | exact hi | exact fun _ => hi | first | exact hrd rfl rfl | exact hpt rfl | exact hfc | exact hc | exact hps rfl rfl | (rw [wk]; omega) | omega | decide | refine And.intro ?_ ?_))) ?_
          rw [wk]
          refine ⟨fun h => ?_, fun h => ?_⟩
          · have hne : (plc (rdT S k) was == was.2) = false := by
              rw [bq]
              have : ¬ plc (rdT S k) was = was.2 := by have h' := h; simp [bt_iff2] at h'; exact h'
              exact decide_eq_false this
            rw [hne] at e1
            have e2 : swS S node ep k was now = S := by simp [swS, e1]
            rw [e1, e2]
            refine rn [] rfl (by repeat' (first | exact trivial | exact rfl | refine And.intro ?_ ?_)) ?_
            refine Done.fold [(0, 1), (1, 2), (2, 3), (3, 4)] (diskO b (S) (wm (W)) (last)) (.p 0 0) (by repeat' (first | exact trivial | exact rfl | refine And.intro ?_ ?_)) rfl rfl (fun _ => rfl) ?_
            exact retM tysOk [(0, 8)] rfl (by repeat' (first | exact trivial | exact rfl | refine And.intro ?_ ?_)) (by repeat' (first | exact trivial | exact rfl | refine And.intro ?_ ?_)) rfl rfl
          · have hne : (plc (rdT S k) was == was.2) = true := by
              rw [bq]
              have : plc (rdT S k) was = was.2 := by have h' := h; simp [bt_iff2] at h'; exact h'
              exact decide_eq_true this
            rw [hne] at e1
            have e2 : swS S node ep k was now = S.set k.toNat (pt (rdT S k) [now]) := by simp [swS, e1]
            rw [e1, e2]
            refine rn [] rfl (by (repeat' (first | exact trivial | exact rfl | exact trivial | exact fun _ => trivial | first | exact hb.1 | exact hb.2 | (show k.toNat * 1 + 1 ≤ (svs S).length; omega) | decide | refine And.intro ?_ ?_))) ?_
            refine Done.fold [(0, 1), (1, 2), (2, 3), (3, 4)] (diskO b (S.set k.toNat (pt (rdT S k) [now])) (wm W) last) (.p 0 0) ?_ rfl rfl (fun _ => rfl) ?_
            · (repeat' (first | exact trivial | exact rfl | exact trivial | exact fun _ => trivial | first | exact (List.length_set ..).symm | exact set_svs hlt | refine And.intro ?_ ?_))
            · exact retM tysOk [(0, 8)] rfl (by repeat' (first | exact trivial | exact rfl | refine And.intro ?_ ?_)) (by repeat' (first | exact trivial | exact rfl | refine And.intro ?_ ?_)) rfl rfl
end
end Cw
namespace Cw
open Go Vc
open Go.Proofs
set_option maxRecDepth 100000
theorem bt_ext {a b : ByteArray} (h : a.data.toList = b.data.toList) : a = b := by
  rcases a with ⟨a⟩
  rcases b with ⟨b⟩
  congr 1
  exact Array.toList_inj.1 h
theorem ext_data (s : ByteArray) (i j : Nat) : (s.extract i j).data.toList = (s.data.toList.drop i).take (j - i) := by
  rw [ByteArray.data_extract, Array.toList_extract]
theorem size_data (s : ByteArray) : s.size = s.data.toList.length := rfl
section
variable {s : ByteArray} {p q : Pt}
theorem plc_data (hp : okp p = true) : (plc s p).data.toList = (s.data.toList.drop p.1.toNat).take p.2.size := by
  have := okp_iff hp
  rw [plc, ext_data]
  congr 1
  omega
theorem pt_data (hs : s.size = 64) (hq : okp q = true) : (pt s [q]).data.toList = over s.data.toList q.1.toNat q.2.data.toList := by
  have h0 : pte s [q] = 0 := by simp [pte, hs, hq]
  rw [pt, if_pos h0, S_data]
  rfl
theorem pt_size (hs : s.size = 64) (hq : okp q = true) : (pt s [q]).size = 64 := by
  have := okp_iff hq
  rw [size_data, pt_data hs hq, over_length]
  · exact hs
  · rw [← size_data, ← size_data, hs]; omega
end
section
variable {H : HL} {nx d n : Nat} {S : List ByteArray} {W : List (Int × Wr)} {last : Int}
end
theorem DOk.sw {n : Nat} {S : List ByteArray} {W : List (Int × Wr)} {last : Int} (h : DOk n S W last) (node ep k : Int) (was now : Pt) : DOk n (swS S node ep k was now) W last := by
  unfold swS
  split
  · rename_i hb
    have he : swE S node ep k was now = 0 := by
      rw [swB, Bool.and_eq_true, decide_eq_true_eq] at hb
      exact hb.1
    have hok : inS S.length k = true ∧ okp now = true := by
      unfold swE at he
      split at he
      · cases he
      · split at he
        · cases he
        · rename_i h1
          split at he
          · cases he
          · rename_i h2
            refine ⟨by cases hh : inS S.length k <;> simp_all, by cases hh : okp now <;> simp_all⟩
    have hb2 := inS_iff.1 hok.1
    have hmem : rdT S k ∈ S := by
      rw [rdT, if_pos hok.1, List.getD_eq_getElem?_getD, List.getElem?_eq_getElem (by omega)]
      exact List.getElem_mem _
    exact { h with len := by rw [List.length_set]; exact h.len, sz := mem_set_sz h.sz (pt_size (h.sz _ hmem) hok.2) }
  · exact h
end Cw
