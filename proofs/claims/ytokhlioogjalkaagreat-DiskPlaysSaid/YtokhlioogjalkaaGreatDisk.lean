/- The disk: its methods by reckoning. -/
import Derived.Test.YtokhlioogjalkaaGreatVcAb2
import Derived.Test.YtokhlioogjalkaaGreatSupV
namespace Cw
open Go Vc
open Go.Proofs
set_option maxRecDepth 100000
/-- A disk: its sectors, the writes that wait, the last number. -/
def diskO (b : Nat) (S : List ByteArray) (W : List (Int × Value)) (last : Int) : List (Bool × Ob) :=
  [(true, .cells [.nm 1, .mp 2, iT last] 58), (true, .own 9 1 S.length (svs S)), (true, .mp W), (false, .pin 0 b)]
def diskP (S : List ByteArray) (W : List (Int × Value)) (last : Int) (b : Nat) : AbP := absP (diskO b S W last) (.p 0 0)
theorem disk_pins (S : List ByteArray) (W : List (Int × Value)) (last : Int) (b : Nat) : Pins (diskP S W last b) (ptr b) := pins_abs (k := 3) rfl
def inS (n : Nat) (at' : Int) : Bool := decide (0 ≤ at') && decide (at' < (n : Int))
def rdE (n : Nat) (at' : Int) : Int := if inS n at' then 0 else 1
def rdT (S : List ByteArray) (at' : Int) : ByteArray := if inS S.length at' then S.getD at'.toNat ⟨#[]⟩ else ⟨#[]⟩
def wrE (n : Nat) (at' : Int) (s : ByteArray) : Int := if inS n at' then (if s.size = 64 then 0 else 3) else 1
theorem inS_iff {n : Nat} {k : Int} : inS n k = true ↔ 0 ≤ k ∧ k < (n : Int) := by simp [inS]
theorem not_inS {n : Nat} {k : Int} (h : inS n k = false) : (decide (k < 0) || decide ((n : Int) ≤ k)) = true := by
  have : ¬ (0 ≤ k ∧ k < (n : Int)) := fun hh => by rw [inS_iff.2 hh] at h; cases h
  rw [Bool.or_eq_true, decide_eq_true_eq, decide_eq_true_eq]
  omega
theorem is_inS {n : Nat} {k : Int} (h : inS n k = true) : (decide (k < 0) || decide ((n : Int) ≤ k)) = false := by
  have := inS_iff.1 h
  rw [Bool.or_eq_false_iff]
  exact ⟨decide_eq_false (by omega), decide_eq_false (by omega)⟩
theorem svs_rd {S : List ByteArray} {k : Int} (h : inS S.length k = true) : (svs S)[k.toNat * 1]? = some (.string (rdT S k)) := by
  have hb := inS_iff.1 h
  have hlt : k.toNat < S.length := by omega
  rw [Nat.mul_one, svs_at hlt, rdT, if_pos h, List.getD_eq_getElem?_getD, List.getElem?_eq_getElem hlt]
  rfl
section
variable {H : HL} {nx d l m : Nat} {b1 b2 : Bool} {S : List ByteArray} {last : Int}
def rD (d l m : Nat) (n : Nat) : Nat := if n = 0 then d else if n = 1 then l else m
theorem memD (hd : lookH H d = some (b1, .cells [.nm l, .mp m, iT last] 58)) (hl : lookH H l = some (b2, .own 9 1 S.length (svs S))) :
    rdsOk (rD d l m) H [(0, some (false, .cells [.nm 1, .mp 2, iT last] 58)), (1, some (false, .own 9 1 S.length (svs S)))] := ⟨⟨b1, hd⟩, ⟨b2, hl⟩, trivial⟩
theorem readU (hd : lookH H d = some (b1, .cells [.nm l, .mp m, iT last] 58)) (hl : lookH H l = some (b2, .own 9 1 S.length (svs S))) (k : Int) :
    FnH Tryz.prog 17 [.c (.p d 0), .c (iT k)] H nx ⟨.tup [.c (.s (rdT S k)), .c (iT (rdE S.length k))], [], [], []⟩ := by
  refine fnR (fn := Tryz.f17) 24 rfl rfl rfl (args' := [.c (.p 0 0), .c (iT k)]) (H' := [(0, some (false, .cells [.nm 1, .mp 2, iT last] 58)), (1, some (false, .own 9 1 S.length (svs S)))]) (nx' := 3) (fun e w M => ⟨_, mem_rd (rD d l m) (memD hd hl) M, rfl⟩) rfl rfl rfl rfl fun w => ?_
  cases h : inS S.length k with
  | false =>
    have e1 : rdT S k = ⟨#[]⟩ := by simp [rdT, h]
    have e2 : rdE S.length k = 1 := by simp [rdE, h]
    rw [e1, e2]
    refine rn [(16, .dec true)] rfl (by (repeat' (first | exact trivial | exact rfl | exact not_inS h | exact fun _ => not_inS h | refine And.intro ?_ ?_))) ?_
    exact ret0 tysOk rfl (by repeat' (first | exact trivial | exact rfl | refine And.intro ?_ ?_)) rfl
  | true =>
    have e2 : rdE S.length k = 0 := by simp [rdE, h]
    have hb := inS_iff.1 h
    rw [e2]
    refine rn [(16, .dec false), (23, .ld [.s (rdT S k)])] rfl (by (repeat' (first | exact trivial | exact rfl | exact is_inS h | exact fun _ => is_inS h | first | exact svs_rd h | exact hb.1 | exact hb.2 | decide | refine And.intro ?_ ?_))) ?_
    exact ret0 tysOk rfl (by repeat' (first | exact trivial | exact rfl | refine And.intro ?_ ?_)) rfl
theorem wrongU (hd : lookH H d = some (b1, .cells [.nm l, .mp m, iT last] 58)) (hl : lookH H l = some (b2, .own 9 1 S.length (svs S))) (k : Int) (s : ByteArray) :
    FnH Tryz.prog 41 [.c (.p d 0), .c (iT k), .c (.s s)] H nx ⟨.t (.c (iT (wrE S.length k s))), [], [], []⟩ := by
  refine fnR (fn := Tryz.f41) 23 rfl rfl rfl (args' := [.c (.p 0 0), .c (iT k), .c (.s s)]) (H' := [(0, some (false, .cells [.nm 1, .mp 2, iT last] 58)), (1, some (false, .own 9 1 S.length (svs S)))]) (nx' := 3) (fun e w M => ⟨_, mem_rd (rD d l m) (memD hd hl) M, rfl⟩) rfl rfl rfl rfl fun w => ?_
  cases h : inS S.length k with
  | false =>
    have e2 : wrE S.length k s = 1 := by simp [wrE, h]
    rw [e2]
    refine rn [(7, .dec true)] rfl (by (repeat' (first | exact trivial | exact rfl | exact not_inS h | exact fun _ => not_inS h | refine And.intro ?_ ?_))) ?_
    exact ret0 tysOk rfl (by repeat' (first | exact trivial | exact rfl | refine And.intro ?_ ?_)) rfl
  | true =>
    by_cases hs : s.size = 64
    · have e2 : wrE S.length k s = 0 := by simp [wrE, h, hs]
      have hs' : (((s.size : Nat) : Int) != 64) = false := by rw [hs]; rfl
      rw [e2]
      refine rn [(7, .dec false), (19, .dec false)] rfl (by (repeat' (first | exact trivial | exact rfl | exact is_inS h | exact fun _ => is_inS h | exact hs' | refine And.intro ?_ ?_))) ?_
      exact ret0 tysOk rfl (by repeat' (first | exact trivial | exact rfl | refine And.intro ?_ ?_)) rfl
    · have e2 : wrE S.length k s = 3 := by simp [wrE, h, hs]
      have hs' : (((s.size : Nat) : Int) != 64) = true := by simp; omega
      rw [e2]
      refine rn [(7, .dec false), (19, .dec true)] rfl (by (repeat' (first | exact trivial | exact rfl | exact is_inS h | exact fun _ => is_inS h | exact hs' | refine And.intro ?_ ?_))) ?_
      exact ret0 tysOk rfl (by repeat' (first | exact trivial | exact rfl | refine And.intro ?_ ?_)) rfl
/-- Whether a write passes. -/
def psD (s : ByteArray) (node n : Int) : Bool := passB s node n || (passE s node != 0)
theorem passesU (hd : lookH H d = some (b1, .cells [.nm l, .mp m, iT last] 58)) (hl : lookH H l = some (b2, .own 9 1 S.length (svs S))) (h2 : 2 ≤ S.length) (hz : ∀ s ∈ S, s.size = 64) (node n : Int) :
    FnH Tryz.prog 43 [.c (.p d 0), .c (iT node), .c (iT n)] H nx ⟨.t (.c (.b (psD (S.getD 1 ⟨#[]⟩) node n))), [], [], []⟩ := by
  refine fnR (fn := Tryz.f43) 26 rfl rfl rfl (args' := [.c (.p 0 0), .c (iT node), .c (iT n)]) (H' := [(0, some (false, .cells [.nm 1, .mp 2, iT last] 58)), (1, some (false, .own 9 1 S.length (svs S)))]) (nx' := 3) (fun e w M => ⟨_, mem_rd (rD d l m) (memD hd hl) M, rfl⟩) rfl rfl rfl rfl fun w => ?_
  have hg : S.getD 1 ⟨#[]⟩ = S[1] := by rw [List.getD_eq_getElem?_getD, List.getElem?_eq_getElem (by omega)]; rfl
  have e1 : (svs S)[(1 : Int).toNat * 1]? = some (.string (S.getD 1 ⟨#[]⟩)) := by rw [hg]; exact svs_at (by omega)
  have hs : (S.getD 1 ⟨#[]⟩).size = 64 := by rw [hg]; exact hz _ (List.getElem_mem _)
  have hp := passes0 (S.getD 1 ⟨#[]⟩) node n (by omega)
  generalize S.getD 1 ⟨#[]⟩ = t at *
  have b1 : (1 : Int) < (S.length : Int) := by omega
  refine rn [(15, .ld [.s t]), (18, .ret (.tup [.c (.b (passB t node n)), .c (iT (passE t node))]))] rfl (by (repeat' (first | exact trivial | exact rfl | exact e1 | exact fun _ => e1 | first | exact hp | exact b1 | decide | refine And.intro ?_ ?_))) ?_
  exact ret0 tysOk rfl (by repeat' (first | exact trivial | exact rfl | refine And.intro ?_ ?_)) rfl
end
def isE (node ep : Int) : Int := if 0 ≤ node ∧ node < 2 ∧ 0 ≤ ep ∧ ep ≤ 4294967295 then 0 else 1
theorem issuer0 (node ep : Int) : Fn0 Tryz.prog 42 [.c (iT node), .c (iT ep)] (.t (.c (iT (isE node ep)))) := by
  refine fn0 (fn := Tryz.f42) 19 rfl rfl rfl rfl rfl fun w => ?_
  refine rn [] rfl (by repeat' (first | exact trivial | exact rfl | refine And.intro ?_ ?_)) ?_
  refine ⟨fun h => ?_, fun h => ?_⟩
  · have h' : (((decide (node < 0) || decide (2 ≤ node)) || decide (ep < 0)) || decide (4294967295 < ep)) = true := h
    simp only [Bool.or_eq_true, decide_eq_true_eq] at h'
    have e : isE node ep = 1 := if_neg (by omega)
    rw [e]
    refine rn [] rfl (by repeat' (first | exact trivial | exact rfl | refine And.intro ?_ ?_)) ?_
    exact ret0 tysOk rfl (by repeat' (first | exact trivial | exact rfl | refine And.intro ?_ ?_)) rfl
  · have h' : (((decide (node < 0) || decide (2 ≤ node)) || decide (ep < 0)) || decide (4294967295 < ep)) = false := h
    simp only [Bool.or_eq_false_iff, decide_eq_false_iff_not] at h'
    have e : isE node ep = 0 := if_pos (by omega)
    rw [e]
    refine rn [] rfl (by repeat' (first | exact trivial | exact rfl | refine And.intro ?_ ?_)) ?_
    exact ret0 tysOk rfl (by repeat' (first | exact trivial | exact rfl | refine And.intro ?_ ?_)) rfl
end Cw
