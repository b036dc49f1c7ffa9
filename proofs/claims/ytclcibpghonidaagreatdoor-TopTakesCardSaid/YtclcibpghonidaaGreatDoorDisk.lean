/- The disk: its methods by reckoning. -/
import Derived.Test.YtclcibpghonidaaGreatDoorVcAb
import Derived.Test.YtclcibpghonidaaGreatDoorSupV
import Derived.Test.YtclcibpghonidaaGreatDoorMapK
import Derived.Test.YtclcibpghonidaaGreatDoorAmV
namespace Cw
open Go Vc
open Go.Proofs
set_option maxRecDepth 100000
/-- A disk: its sectors, the writes that wait, the last number. -/
def diskO (b : Nat) (S : List ByteArray) (W : List (Int × Value)) (last : Int) : List (Bool × Ob) :=
  [(true, .cells [.nm 1, .mp 2, iT last] 116), (true, .own 9 1 S.length (svs S)), (true, .mp W), (false, .pin 0 b)]
def diskP (S : List ByteArray) (W : List (Int × Value)) (last : Int) (b : Nat) : AbP := absP (diskO b S W last) (.p 0 0)
theorem disk_pins (S : List ByteArray) (W : List (Int × Value)) (last : Int) (b : Nat) : Pins (diskP S W last b) (ptr b) := pins_abs (k := 3) rfl
def inS (n : Nat) (at' : Int) : Bool := decide (0 ≤ at') && decide (at' < (n : Int))
def rdE (n : Nat) (at' : Int) : Int := if inS n at' then 0 else 1
def rdT (S : List ByteArray) (at' : Int) : ByteArray := if inS S.length at' then S.getD at'.toNat ⟨#[]⟩ else ⟨#[]⟩
def wrE (n : Nat) (at' : Int) (s : ByteArray) : Int := if inS n at' then (if s.size = 64 then 0 else 3) else 1
theorem inS_iff {n : Nat} {k : Int} : inS n k = true ↔ 0 ≤ k ∧ k < (n : Int) := by simp [inS]
theorem not_inS {n : Nat} {k : Int} (h : inS n k = false) : (decide (k < 0) || decide ((n : Int) ≤ k)) = true := by
  have : ¬ (0 ≤ k ∧ k < (n : Int)) := fun hh => by rw [inS_iff.2 hh] at h; cases h
  rw [Bool.or_eq_true, decide_eq_true_eq, decide_eq_true_eq]
  omega
theorem is_inS {n : Nat} {k : Int} (h : inS n k = true) : (decide (k < 0) || decide ((n : Int) ≤ k)) = false := by
  have := inS_iff.1 h
  rw [Bool.or_eq_false_iff]
  exact ⟨decide_eq_false (by omega), decide_eq_false (by omega)⟩
theorem svs_rd {S : List ByteArray} {k : Int} (h : inS S.length k = true) : (svs S)[k.toNat * 1]? = some (.string (rdT S k)) := by
  have hb := inS_iff.1 h
  have hlt : k.toNat < S.length := by omega
  rw [Nat.mul_one, svs_at hlt, rdT, if_pos h, List.getD_eq_getElem?_getD, List.getElem?_eq_getElem hlt]
  rfl
section
variable {H : HL} {nx d l m : Nat} {b1 b2 : Bool} {S : List ByteArray} {last : Int}
def rD (d l m : Nat) (n : Nat) : Nat := if n = 0 then d else if n = 1 then l else m
theorem memD (hd : lookH H d = some (b1, .cells [.nm l, .mp m, iT last] 116)) (hl : lookH H l = some (b2, .own 9 1 S.length (svs S))) :
    rdsOk (rD d l m) H [(0, some (false, .cells [.nm 1, .mp 2, iT last] 116)), (1, some (false, .own 9 1 S.length (svs S)))] := ⟨⟨b1, hd⟩, ⟨b2, hl⟩, trivial⟩
theorem wrongU (hd : lookH H d = some (b1, .cells [.nm l, .mp m, iT last] 116)) (hl : lookH H l = some (b2, .own 9 1 S.length (svs S))) (k : Int) (s : ByteArray) :
    FnH Tryz.prog 119 [.c (.p d 0), .c (iT k), .c (.s s)] H nx ⟨.t (.c (iT (wrE S.length k s))), [], [], []⟩ := by
  refine fnR (fn := Tryz.f119) 23 rfl rfl rfl (args' := [.c (.p 0 0), .c (iT k), .c (.s s)]) (H' := [(0, some (false, .cells [.nm 1, .mp 2, iT last] 116)), (1, some (false, .own 9 1 S.length (svs S)))]) (nx' := 3) (fun e w M => ⟨_, mem_rd (rD d l m) (memD hd hl) M, rfl⟩) rfl rfl rfl rfl fun w => ?_
  cases h : inS S.length k with
  | false =>
    have e2 : wrE S.length k s = 1 := by simp [wrE, h]
    rw [e2]
    refine rn [(7, .dec true)] rfl (by (repeat' (first | exact trivial | exact rfl | exact not_inS h | exact fun _ => not_inS h | refine And.intro ?_ ?_))) ?_
    exact ret0 tysOk rfl (by repeat' (first | exact trivial | exact rfl | refine And.intro ?_ ?_)) rfl
  | true =>
    by_cases hs : s.size = 64
    · have e2 : wrE S.length k s = 0 := by simp [wrE, h, hs]
      have hs' : (((s.size : Nat) : Int) != 64) = false := by rw [hs]; rfl
      rw [e2]
      refine rn [(7, .dec false), (19, .dec false)] rfl (by (repeat' (first | exact trivial | exact rfl | exact is_inS h | exact fun _ => is_inS h | exact hs' | refine And.intro ?_ ?_))) ?_
      exact ret0 tysOk rfl (by repeat' (first | exact trivial | exact rfl | refine And.intro ?_ ?_)) rfl
    · have e2 : wrE S.length k s = 3 := by simp [wrE, h, hs]
      have hs' : (((s.size : Nat) : Int) != 64) = true := by simp; omega
      rw [e2]
      refine rn [(7, .dec false), (19, .dec true)] rfl (by (repeat' (first | exact trivial | exact rfl | exact is_inS h | exact fun _ => is_inS h | exact hs' | refine And.intro ?_ ?_))) ?_
      exact ret0 tysOk rfl (by repeat' (first | exact trivial | exact rfl | refine And.intro ?_ ?_)) rfl
/-- Whether a write passes. -/
def psD (s : ByteArray) (node n : Int) : Bool := passB s node n || (passE s node != 0)
theorem passesU (hd : lookH H d = some (b1, .cells [.nm l, .mp m, iT last] 116)) (hl : lookH H l = some (b2, .own 9 1 S.length (svs S))) (h2 : 2 ≤ S.length) (hz : ∀ s ∈ S, s.size = 64) (node n : Int) :
    FnH Tryz.prog 65 [.c (.p d 0), .c (iT node), .c (iT n)] H nx ⟨.t (.c (.b (psD (S.getD 1 ⟨#[]⟩) node n))), [], [], []⟩ := by
  refine fnR (fn := Tryz.f65) 26 rfl rfl rfl (args' := [.c (.p 0 0), .c (iT node), .c (iT n)]) (H' := [(0, some (false, .cells [.nm 1, .mp 2, iT last] 116)), (1, some (false, .own 9 1 S.length (svs S)))]) (nx' := 3) (fun e w M => ⟨_, mem_rd (rD d l m) (memD hd hl) M, rfl⟩) rfl rfl rfl rfl fun w => ?_
  have hg : S.getD 1 ⟨#[]⟩ = S[1] := by rw [List.getD_eq_getElem?_getD, List.getElem?_eq_getElem (by omega)]; rfl
  have e1 : (svs S)[(1 : Int).toNat * 1]? = some (.string (S.getD 1 ⟨#[]⟩)) := by rw [hg]; exact svs_at (by omega)
  have hs : (S.getD 1 ⟨#[]⟩).size = 64 := by rw [hg]; exact hz _ (List.getElem_mem _)
  have hp := passes0 (S.getD 1 ⟨#[]⟩) node n (by omega)
  generalize S.getD 1 ⟨#[]⟩ = t at *
  have b1 : (1 : Int) < (S.length : Int) := by omega
  refine rn [(15, .ld [.s t]), (18, .ret (.tup [.c (.b (passB t node n)), .c (iT (passE t node))]))] rfl (by (repeat' (first | exact trivial | exact rfl | exact e1 | exact fun _ => e1 | first | exact hp | exact b1 | decide | refine And.intro ?_ ?_))) ?_
  exact ret0 tysOk rfl (by repeat' (first | exact trivial | exact rfl | refine And.intro ?_ ?_)) rfl
end
def isE (node ep : Int) : Int := if 0 ≤ node ∧ node < 2 ∧ 0 ≤ ep ∧ ep ≤ 4294967295 then 0 else 1
theorem issuer0 (node ep : Int) : Fn0 Tryz.prog 121 [.c (iT node), .c (iT ep)] (.t (.c (iT (isE node ep)))) := by
  refine fn0 (fn := Tryz.f121) 19 rfl rfl rfl rfl rfl fun w => ?_
  refine rn [] rfl (by repeat' (first | exact trivial | exact rfl | refine And.intro ?_ ?_)) ?_
  refine ⟨fun h => ?_, fun h => ?_⟩
  · have h' : (((decide (node < 0) || decide (2 ≤ node)) || decide (ep < 0)) || decide (4294967295 < ep)) = true := h
    simp only [Bool.or_eq_true, decide_eq_true_eq] at h'
    have e : isE node ep = 1 := if_neg (by omega)
    rw [e]
    refine rn [] rfl (by repeat' (first | exact trivial | exact rfl | refine And.intro ?_ ?_)) ?_
    exact ret0 tysOk rfl (by repeat' (first | exact trivial | exact rfl | refine And.intro ?_ ?_)) rfl
  · have h' : (((decide (node < 0) || decide (2 ≤ node)) || decide (ep < 0)) || decide (4294967295 < ep)) = false := h
    simp only [Bool.or_eq_false_iff, decide_eq_false_iff_not] at h'
    have e : isE node ep = 0 := if_pos (by omega)
    rw [e]
    refine rn [] rfl (by repeat' (first | exact trivial | exact rfl | refine And.intro ?_ ?_)) ?_
    exact ret0 tysOk rfl (by repeat' (first | exact trivial | exact rfl | refine And.intro ?_ ?_)) rfl
end Cw
namespace Cw
open Go Vc
open Go.Proofs
set_option maxRecDepth 100000
/-- A write that waits. -/
structure Wr where
  node : Int
  ep : Int
  pl : Int
  s : ByteArray
def wv (x : Wr) : Value := .agg #[.int .i64 x.node, .int .i64 x.ep, .int .i64 x.pl, .string x.s]
def wT (x : Wr) : TV := .agg [iT x.node, iT x.ep, iT x.pl, .s x.s]
def wm (W : List (Int × Wr)) : List (Int × Value) := W.map fun p => (p.1, wv p.2)
def wget (k : Int) : List (Int × Wr) → Option Wr
  | [] => none
  | (q, x) :: l => if q = k then some x else wget k l
def wdel (k : Int) : List (Int × Wr) → List (Int × Wr)
  | [] => []
  | (q, x) :: l => if q = k then l else (q, x) :: wdel k l
theorem wm_get (k : Int) : ∀ W, mget k (wm W) = (wget k W).map wv
  | [] => rfl
  | (q, x) :: l => by
    show mget k ((q, wv x) :: wm l) = _
    unfold mget wget
    split
    · rfl
    · exact wm_get k l
theorem wm_del (k : Int) : ∀ W, mdel k (wm W) = wm (wdel k W)
  | [] => rfl
  | (q, x) :: l => by
    show mdel k ((q, wv x) :: wm l) = _
    unfold mdel wdel
    split
    · rfl
    · rw [wm_del k l]; rfl
theorem wm_put {k : Int} {x : Wr} : ∀ {W : List (Int × Wr)}, (∀ p ∈ W, p.1 ≠ k) → mput k (wv x) (wm W) = wm (W ++ [(k, x)])
  | [], _ => rfl
  | (q, y) :: l, h => by
    show mput k (wv x) ((q, wv y) :: wm l) = _
    unfold mput
    rw [if_neg (h (q, y) (by simp)), wm_put fun p hp => h p (by simp [hp])]
    rfl
theorem wm_length (W : List (Int × Wr)) : (wm W).length = W.length := by simp [wm]
theorem wget_mem {k : Int} {x : Wr} : ∀ {W : List (Int × Wr)}, wget k W = some x → (k, x) ∈ W
  | [], h => by cases h
  | (q, y) :: l, h => by
    unfold wget at h
    split at h
    · rename_i hq; cases h; subst hq; simp
    · exact List.mem_cons.2 (.inr (wget_mem h))
abbrev dP (S : List ByteArray) (W : List (Int × Wr)) (last : Int) (b : Nat) : AbP := diskP S (wm W) last b
def s1 (S : List ByteArray) : ByteArray := S.getD 1 ⟨#[]⟩
section
variable {H : HL} {nx d b : Nat} {S : List ByteArray} {W : List (Int × Wr)} {last : Int}
set_option maxRecDepth 100000 in
set_option maxHeartbeats 1000000 in
theorem readA (hd : lookH H d = some (true, .ab (dP S W last b))) (k : Int) : FnH Tryz.prog 17 [.c (.nm d), .c (iT k)] H nx ⟨.tup [.c (.s (rdT S k)), .c (iT (rdE S.length k))], [], [(d, some (.ab (dP S W last b)))], []⟩ := by
  refine fnA (fn := Tryz.f17) 24 rfl rfl rfl hd (ptr b) (disk_pins _ _ _ _) (disk_pins _ _ _ _) rfl rfl rfl (v' := .tup [.c (.s (rdT S k)), .c (iT (rdE S.length k))]) (news' := []) rfl rfl rfl rfl fun w Wr => ?_
  refine At.unfoldTo 0 (L1 := (0, .t (.c (.p 1 0))) :: [(1, .t (.c (iT k)))]) (H1 := [(1, some (true, .cells [.nm 2, .mp 3, iT (last)] 116)), (2, some (true, .own 9 1 (S).length (svs (S)))), (3, some (true, .mp (wm (W)))), (4, some (false, .pin 1 b)), (0, none), (0, some (true, .ab (dP (S) (W) (last) b)))]) (nx1 := 5) rfl rfl rfl rfl rfl rfl ?_
  cases h : inS S.length k with
  | false =>
    have e1 : rdT S k = ⟨#[]⟩ := by simp [rdT, h]
    have e2 : rdE S.length k = 1 := by simp [rdE, h]
    rw [e1, e2]
    refine rn [(16, .dec true)] rfl (by (repeat' (first | exact trivial | exact rfl | exact not_inS h | exact fun _ => not_inS h | refine And.intro ?_ ?_))) ?_
    refine Done.fold [(0, 1), (1, 2), (2, 3), (3, 4)] (diskO b S (wm W) last) (.p 0 0) (by repeat' (first | exact trivial | exact rfl | refine And.intro ?_ ?_)) rfl rfl (fun _ => rfl) ?_
    exact retM tysOk [(0, 5)] rfl (by repeat' (first | exact trivial | exact rfl | refine And.intro ?_ ?_)) (by repeat' (first | exact trivial | exact rfl | refine And.intro ?_ ?_)) rfl rfl
  | true =>
    have e2 : rdE S.length k = 0 := by simp [rdE, h]
    have hb := inS_iff.1 h
    rw [e2]
    refine rn [(16, .dec false), (23, .ld [.s (rdT S k)])] rfl (by (repeat' (first | exact trivial | exact rfl | exact is_inS h | exact fun _ => is_inS h | first | exact svs_rd h | exact hb.1 | exact hb.2 | decide | refine And.intro ?_ ?_))) ?_
    refine Done.fold [(0, 1), (1, 2), (2, 3), (3, 4)] (diskO b S (wm W) last) (.p 0 0) (by repeat' (first | exact trivial | exact rfl | refine And.intro ?_ ?_)) rfl rfl (fun _ => rfl) ?_
    exact retM tysOk [(0, 5)] rfl (by repeat' (first | exact trivial | exact rfl | refine And.intro ?_ ?_)) (by repeat' (first | exact trivial | exact rfl | refine And.intro ?_ ?_)) rfl rfl
theorem set_svs {S : List ByteArray} {k : Nat} {s : ByteArray} (h : k < S.length) : Vc.setAt (svs S) (k * 1) [Value.string s] = svs (S.set k s) := by
  apply List.ext_getElem?
  intro i
  simp only [Vc.setAt, svs]
  by_cases h1 : i < k
  · rw [List.append_assoc, List.getElem?_append_left (by simp; omega)]
    simp [List.getElem?_take, h1, List.getElem?_set, show k ≠ i by omega]
  · by_cases h2 : i = k
    · subst h2
      rw [List.append_assoc, List.getElem?_append_right (by simp; omega)]
      simp [h, show min i S.length = i by omega]
    · rw [List.getElem?_append_right (by simp; omega)]
      simp only [List.length_append, List.length_take, List.length_map, List.length_singleton, List.getElem?_drop]
      rw [show min (k * 1) S.length = k by omega, show k * 1 + 1 + (i - (k + 1)) = i by omega]
      simp [List.getElem?_set, show k ≠ i by omega]
def layS (S : List ByteArray) (k : Int) (s : ByteArray) : List ByteArray := if wrE S.length k s = 0 then S.set k.toNat s else S
theorem wrE_ok {n : Nat} {k : Int} {s : ByteArray} (h : wrE n k s = 0) : inS n k = true ∧ s.size = 64 := by
  unfold wrE at h
  split at h
  · split at h
    · exact ⟨by assumption, by assumption⟩
    · cases h
  · cases h
set_option maxRecDepth 100000 in
set_option maxHeartbeats 1000000 in
theorem layA (hd : lookH H d = some (true, .ab (dP S W last b))) (k : Int) (s : ByteArray) : FnH Tryz.prog 82 [.c (.nm d), .c (iT k), .c (.s s)] H nx ⟨.t (.c (iT (wrE S.length k s))), [], [(d, some (.ab (dP (layS S k s) W last b)))], []⟩ := by
  refine fnA (fn := Tryz.f82) 22 rfl rfl rfl hd (ptr b) (disk_pins _ _ _ _) (disk_pins _ _ _ _) rfl rfl rfl (v' := .t (.c (iT (wrE S.length k s)))) (news' := []) rfl rfl rfl rfl fun w Wr => ?_
  refine At.unfoldTo 0 (L1 := (0, .t (.c (.p 1 0))) :: [(1, .t (.c (iT k))), (2, .t (.c (.s s)))]) (H1 := [(1, some (true, .cells [.nm 2, .mp 3, iT (last)] 116)), (2, some (true, .own 9 1 (S).length (svs (S)))), (3, some (true, .mp (wm (W)))), (4, some (false, .pin 1 b)), (0, none), (0, some (true, .ab (dP (S) (W) (last) b)))]) (nx1 := 5) rfl rfl rfl rfl rfl rfl ?_
  by_cases h : wrE S.length k s = 0
  · have e1 : layS S k s = S.set k.toNat s := if_pos h
    obtain ⟨h1, h2⟩ := wrE_ok h
    have hb := inS_iff.1 h1
    have hlt : k.toNat < S.length := by omega
    have hl : (svs S).length = S.length := svs_length S
    rw [e1]
    refine rn [(11, .spec ⟨.t (.c (iT (wrE S.length k s))), [], [], []⟩), (13, .dec true)] rfl (by (repeat' (first | exact trivial | exact rfl | exact wrongU rfl rfl k s | exact fun _ => wrongU rfl rfl k s | first | exact hb.1 | exact hb.2 | (rw [h]; rfl) | (show k.toNat * 1 + 1 ≤ (svs S).length; omega) | decide | refine And.intro ?_ ?_))) ?_
    refine Done.fold [(0, 1), (1, 2), (2, 3), (3, 4)] (diskO b (S.set k.toNat s) (wm W) last) (.p 0 0) ?_ rfl rfl (fun _ => rfl) ?_
    · (repeat' (first | exact trivial | exact rfl | exact trivial | exact fun _ => trivial | first | exact (List.length_set ..).symm | exact set_svs hlt | refine And.intro ?_ ?_))
    · exact retM tysOk [(0, 5)] rfl (by repeat' (first | exact trivial | exact rfl | refine And.intro ?_ ?_)) (by repeat' (first | exact trivial | exact rfl | refine And.intro ?_ ?_)) rfl rfl
  · have e1 : layS S k s = S := if_neg h
    have hne : (wrE S.length k s == 0) = false := by simpa using h
    rw [e1]
    refine rn [(11, .spec ⟨.t (.c (iT (wrE S.length k s))), [], [], []⟩), (13, .dec false)] rfl (by (repeat' (first | exact trivial | exact rfl | exact wrongU rfl rfl k s | exact fun _ => wrongU rfl rfl k s | exact hne | refine And.intro ?_ ?_))) ?_
    refine Done.fold [(0, 1), (1, 2), (2, 3), (3, 4)] (diskO b (S) (wm (W)) (last)) (.p 0 0) (by repeat' (first | exact trivial | exact rfl | refine And.intro ?_ ?_)) rfl rfl (fun _ => rfl) ?_
    exact retM tysOk [(0, 5)] rfl (by repeat' (first | exact trivial | exact rfl | refine And.intro ?_ ?_)) (by repeat' (first | exact trivial | exact rfl | refine And.intro ?_ ?_)) rfl rfl
/-- A write that waits is looked up. -/
theorem lk_some {k : Int} {x : Wr} (h : wget k W = some x) (z : Value) : lkV (wm W) k z true = (SV.tup [wT x, .c (.b true)]).den e0 := by
  unfold lkV
  rw [wm_get, h]
  rfl
theorem lk_none {k : Int} (h : wget k W = none) : lkV (wm W) k (.agg #[.int .i64 0, .int .i64 0, .int .i64 0, .string ⟨#[]⟩]) true = (SV.tup [wT ⟨0, 0, 0, ⟨#[]⟩⟩, .c (.b false)]).den e0 := by
  unfold lkV
  rw [wm_get, h]
  rfl
def drE (W : List (Int × Wr)) (k : Int) : Int := if (wget k W).isSome then 0 else 5
theorem wdel_none {k : Int} : ∀ {W : List (Int × Wr)}, wget k W = none → wdel k W = W
  | [], _ => rfl
  | (q, x) :: l, h => by
    unfold wget at h
    split at h
    · cases h
    · rename_i hq; simp [wdel, hq, wdel_none h]
set_option maxRecDepth 100000 in
set_option maxHeartbeats 1000000 in
theorem dropA (hd : lookH H d = some (true, .ab (dP S W last b))) (k : Int) : FnH Tryz.prog 25 [.c (.nm d), .c (iT k)] H nx ⟨.t (.c (iT (drE W k))), [], [(d, some (.ab (dP S (wdel k W) last b)))], []⟩ := by
  refine fnA (fn := Tryz.f25) 23 rfl rfl rfl hd (ptr b) (disk_pins _ _ _ _) (disk_pins _ _ _ _) rfl rfl rfl (v' := .t (.c (iT (drE W k)))) (news' := []) rfl rfl rfl rfl fun w Wr => ?_
  refine At.unfoldTo 0 (L1 := (0, .t (.c (.p 1 0))) :: [(1, .t (.c (iT k)))]) (H1 := [(1, some (true, .cells [.nm 2, .mp 3, iT (last)] 116)), (2, some (true, .own 9 1 (S).length (svs (S)))), (3, some (true, .mp (wm (W)))), (4, some (false, .pin 1 b)), (0, none), (0, some (true, .ab (dP (S) (W) (last) b)))]) (nx1 := 5) rfl rfl rfl rfl rfl rfl ?_
  cases h : wget k W with
  | none =>
    have e1 : drE W k = 5 := by simp [drE, h]
    rw [e1, wdel_none h]
    refine rn [(13, .ret (.tup [wT ⟨0, 0, 0, ⟨#[]⟩⟩, .c (.b false)])), (17, .dec true)] rfl (by (repeat' (first | exact trivial | exact rfl | exact lk_none h | exact fun _ => lk_none h | refine And.intro ?_ ?_))) ?_
    refine Done.fold [(0, 1), (1, 2), (2, 3), (3, 4)] (diskO b (S) (wm (W)) (last)) (.p 0 0) (by repeat' (first | exact trivial | exact rfl | refine And.intro ?_ ?_)) rfl rfl (fun _ => rfl) ?_
    exact retM tysOk [(0, 6)] rfl (by repeat' (first | exact trivial | exact rfl | refine And.intro ?_ ?_)) (by repeat' (first | exact trivial | exact rfl | refine And.intro ?_ ?_)) rfl rfl
  | some x =>
    have e1 : drE W k = 0 := by simp [drE, h]
    rw [e1]
    refine rn [(13, .ret (.tup [wT x, .c (.b true)])), (17, .dec false)] rfl (by (repeat' (first | exact trivial | exact rfl | exact lk_some h _ | exact fun _ => lk_some h _ | refine And.intro ?_ ?_))) ?_
    refine Done.fold [(0, 1), (1, 2), (2, 3), (3, 4)] (diskO b S (wm (wdel k W)) last) (.p 0 0) (by (repeat' (first | exact trivial | exact rfl | exact wm_del k W | exact fun _ => wm_del k W | refine And.intro ?_ ?_))) rfl rfl (fun _ => rfl) ?_
    exact retM tysOk [(0, 6)] rfl (by repeat' (first | exact trivial | exact rfl | refine And.intro ?_ ?_)) (by repeat' (first | exact trivial | exact rfl | refine And.intro ?_ ?_)) rfl rfl
end
end Cw
namespace Cw
open Go Vc
open Go.Proofs
set_option maxRecDepth 100000
section
variable {H : HL} {nx d b : Nat} {S : List ByteArray} {W : List (Int × Wr)} {last : Int}
def apB (S : List ByteArray) (W : List (Int × Wr)) (k : Int) : Bool := match wget k W with
  | some x => psD (s1 S) x.node x.ep
  | none => false
def apS (S : List ByteArray) (W : List (Int × Wr)) (k : Int) : List ByteArray := match wget k W with
  | some x => if psD (s1 S) x.node x.ep then S.set x.pl.toNat x.s else S
  | none => S
set_option maxRecDepth 100000 in
set_option maxHeartbeats 1000000 in
theorem applyA (hd : lookH H d = some (true, .ab (dP S W last b))) (h2 : 2 ≤ S.length) (hz : ∀ s ∈ S, s.size = 64) (hw : ∀ p ∈ W, inS S.length p.2.pl = true) (k : Int) :
    FnH Tryz.prog 24 [.c (.nm d), .c (iT k)] H nx ⟨.tup [.c (.b (apB S W k)), .c (iT (drE W k))], [], [(d, some (.ab (dP (apS S W k) (wdel k W) last b)))], []⟩ := by
  refine fnA (fn := Tryz.f24) 41 rfl rfl rfl hd (ptr b) (disk_pins _ _ _ _) (disk_pins _ _ _ _) rfl rfl rfl (v' := .tup [.c (.b (apB S W k)), .c (iT (drE W k))]) (news' := []) rfl rfl rfl rfl fun w Wr => ?_
  refine At.unfoldTo 0 (L1 := (0, .t (.c (.p 1 0))) :: [(1, .t (.c (iT k)))]) (H1 := [(1, some (true, .cells [.nm 2, .mp 3, iT (last)] 116)), (2, some (true, .own 9 1 (S).length (svs (S)))), (3, some (true, .mp (wm (W)))), (4, some (false, .pin 1 b)), (0, none), (0, some (true, .ab (dP (S) (W) (last) b)))]) (nx1 := 5) rfl rfl rfl rfl rfl rfl ?_
  cases h : wget k W with
  | none =>
    have e1 : drE W k = 5 := by simp [drE, h]
    have e2 : apB S W k = false := by simp [apB, h]
    have e3 : apS S W k = S := by simp [apS, h]
    rw [e1, e2, e3, wdel_none h]
    refine rn [(14, .ret (.tup [wT ⟨0, 0, 0, ⟨#[]⟩⟩, .c (.b false)])), (18, .dec true)] rfl (by (repeat' (first | exact trivial | exact rfl | exact lk_none h | exact fun _ => lk_none h | refine And.intro ?_ ?_))) ?_
    refine Done.fold [(0, 1), (1, 2), (2, 3), (3, 4)] (diskO b (S) (wm (W)) (last)) (.p 0 0) (by repeat' (first | exact trivial | exact rfl | refine And.intro ?_ ?_)) rfl rfl (fun _ => rfl) ?_
    exact retM tysOk [(0, 6)] rfl (by repeat' (first | exact trivial | exact rfl | refine And.intro ?_ ?_)) (by repeat' (first | exact trivial | exact rfl | refine And.intro ?_ ?_)) rfl rfl
  | some x =>
    have e1 : drE W k = 0 := by simp [drE, h]
    have e2 : apB S W k = psD (s1 S) x.node x.ep := by simp [apB, h]
    have e3 : apS S W k = if psD (s1 S) x.node x.ep then S.set x.pl.toNat x.s else S := by simp [apS, h]
    have hin := hw _ (wget_mem h)
    have hb := inS_iff.1 hin
    have hlt : x.pl.toNat < S.length := by have := hb.2; have := hb.1; simp only at *; omega
    have hsl : (svs S).length = S.length := svs_length S
    rw [e1, e2, e3]
    refine rn [(14, .ret (.tup [wT x, .c (.b true)])), (18, .dec false), (29, .spec ⟨.t (.c (.b (psD (s1 S) x.node x.ep))), [], [], []⟩)] rfl (by (repeat' (first | exact trivial | exact rfl | exact lk_some h _ | exact fun _ => lk_some h _ | exact passesU rfl rfl h2 hz x.node x.ep | refine And.intro ?_ ?_))) ?_
    refine ⟨fun hp => ?_, fun hp => ?_⟩
    · rw [hp, if_pos rfl]
      refine rn [] rfl (by (repeat' (first | exact trivial | exact rfl | exact trivial | exact fun _ => trivial | first | exact hb.1 | exact hb.2 | (show x.pl.toNat * 1 + 1 ≤ (svs S).length; omega) | decide | refine And.intro ?_ ?_))) ?_
      refine Done.fold [(0, 1), (1, 2), (2, 3), (3, 4)] (diskO b (S.set x.pl.toNat x.s) (wm (wdel k W)) last) (.p 0 0) ?_ rfl rfl (fun _ => rfl) ?_
      · (repeat' (first | exact trivial | exact rfl | exact wm_del k W | exact fun _ => wm_del k W | first | exact (List.length_set ..).symm | exact set_svs hlt | refine And.intro ?_ ?_))
      · exact retM tysOk [(0, 6)] rfl (by (repeat' (first | exact trivial | exact rfl | exact trivial | exact fun _ => trivial | exact hp | refine And.intro ?_ ?_))) (by repeat' (first | exact trivial | exact rfl | refine And.intro ?_ ?_)) rfl rfl
    · rw [hp, if_neg (by simp)]
      refine rn [] rfl (by repeat' (first | exact trivial | exact rfl | refine And.intro ?_ ?_)) ?_
      refine Done.fold [(0, 1), (1, 2), (2, 3), (3, 4)] (diskO b S (wm (wdel k W)) last) (.p 0 0) (by (repeat' (first | exact trivial | exact rfl | exact wm_del k W | exact fun _ => wm_del k W | refine And.intro ?_ ?_))) rfl rfl (fun _ => rfl) ?_
      exact retM tysOk [(0, 6)] rfl (by (repeat' (first | exact trivial | exact rfl | exact trivial | exact fun _ => trivial | exact hp | refine And.intro ?_ ?_))) (by repeat' (first | exact trivial | exact rfl | refine And.intro ?_ ?_)) rfl rfl
def abW (W : List (Int × Wr)) (k : Int) : Wr := (wget k W).getD ⟨0, 0, 0, ⟨#[]⟩⟩
def isuE (S : List ByteArray) (W : List (Int × Wr)) (node ep pl : Int) (s : ByteArray) : Int :=
  if isE node ep ≠ 0 then 1 else if wrE S.length pl s ≠ 0 then wrE S.length pl s else if 1024 ≤ W.length then 2 else if psD (s1 S) node ep then 0 else 110
def isuN (S : List ByteArray) (W : List (Int × Wr)) (last node ep pl : Int) (s : ByteArray) : Int := if isuE S W node ep pl s = 0 then last + 1 else 0
def isuL (S : List ByteArray) (W : List (Int × Wr)) (last node ep pl : Int) (s : ByteArray) : Int := if isuE S W node ep pl s = 0 then last + 1 else last
def isuW (S : List ByteArray) (W : List (Int × Wr)) (last node ep pl : Int) (s : ByteArray) : List (Int × Wr) := if isuE S W node ep pl s = 0 then W ++ [(last + 1, ⟨node, ep, pl, s⟩)] else W
theorem isE_cases (node ep : Int) : isE node ep = 0 ∨ isE node ep = 1 := by unfold isE; split <;> simp
set_option maxRecDepth 100000 in
set_option maxHeartbeats 2000000 in
theorem issueA (hd : lookH H d = some (true, .ab (dP S W last b))) (h2 : 2 ≤ S.length) (hz : ∀ s ∈ S, s.size = 64) (hl0 : 0 ≤ last) (hl1 : last ≤ 1000000) (hlw : ∀ p ∈ W, p.1 ≤ last) (node ep pl : Int) (s : ByteArray) :
    FnH Tryz.prog 100 [.c (.nm d), .c (iT node), .c (iT ep), .c (iT pl), .c (.s s)] H nx ⟨.tup [.c (iT (isuN S W last node ep pl s)), .c (iT (isuE S W node ep pl s))], [], [(d, some (.ab (dP S (isuW S W last node ep pl s) (isuL S W last node ep pl s) b)))], []⟩ := by
  refine fnA (fn := Tryz.f100) 64 rfl rfl rfl hd (ptr b) (disk_pins _ _ _ _) (disk_pins _ _ _ _) rfl rfl rfl (v' := .tup [.c (iT (isuN S W last node ep pl s)), .c (iT (isuE S W node ep pl s))]) (news' := []) rfl rfl rfl rfl fun w Wr => ?_
  refine At.unfoldTo 0 (L1 := (0, .t (.c (.p 1 0))) :: [(1, .t (.c (iT node))), (2, .t (.c (iT ep))), (3, .t (.c (iT pl))), (4, .t (.c (.s s)))]) (H1 := [(1, some (true, .cells [.nm 2, .mp 3, iT (last)] 116)), (2, some (true, .own 9 1 (S).length (svs (S)))), (3, some (true, .mp (wm (W)))), (4, some (false, .pin 1 b)), (0, none), (0, some (true, .ab (dP (S) (W) (last) b)))]) (nx1 := 5) rfl rfl rfl rfl rfl rfl ?_
  have hi := issuer0 node ep
  rcases isE_cases node ep with q1 | q1
  · rw [q1] at hi
    have hwr := wrongU (H := [(1, some (true, .cells [.nm 2, .mp 3, iT last] 116)), (2, some (true, .own 9 1 S.length (svs S))), (3, some (true, .mp (wm W))), (4, some (false, .pin 1 b)), (0, none), (0, some (true, .ab (dP S W last b)))]) (nx := 5) (d := 1) (l := 2) (m := 3) (b1 := true) (b2 := true) (S := S) (last := last) rfl rfl pl s
    by_cases q2 : wrE S.length pl s = 0
    · rw [q2] at hwr
      by_cases q3 : 1024 ≤ W.length
      · have e0 : isuE S W node ep pl s = 2 := by simp [isuE, q1, q2, q3]
        have e1 : isuN S W last node ep pl s = 0 := by simp [isuN, e0]
        have e2 : isuL S W last node ep pl s = last := by simp [isuL, e0]
        have e3 : isuW S W last node ep pl s = W := by simp [isuW, e0]
        have d3 : decide ((1024 : Int) ≤ ((wm W).length : Nat)) = true := decide_eq_true (by rw [wm_length]; omega)
        rw [e0, e1, e2, e3]
        refine rn [(16, .ret (.t (.c (iT 0)))), (18, .dec false), (23, .spec ⟨.t (.c (iT 0)), [], [], []⟩), (25, .dec false), (27, .dec true)] rfl (by (repeat' (first | exact trivial | exact rfl | exact hi | exact fun _ => hi | first | exact hwr | exact d3 | decide | refine And.intro ?_ ?_))) ?_
        refine Done.fold [(0, 1), (1, 2), (2, 3), (3, 4)] (diskO b (S) (wm (W)) (last)) (.p 0 0) (by repeat' (first | exact trivial | exact rfl | refine And.intro ?_ ?_)) rfl rfl (fun _ => rfl) ?_
        exact retM tysOk [(0, 5)] rfl (by repeat' (first | exact trivial | exact rfl | refine And.intro ?_ ?_)) (by repeat' (first | exact trivial | exact rfl | refine And.intro ?_ ?_)) rfl rfl
      · have d3 : decide ((1024 : Int) ≤ ((wm W).length : Nat)) = false := decide_eq_false (by rw [wm_length]; omega)
        have hps := passesU (H := [(1, some (true, .cells [.nm 2, .mp 3, iT last] 116)), (2, some (true, .own 9 1 S.length (svs S))), (3, some (true, .mp (wm W))), (4, some (false, .pin 1 b)), (0, none), (0, some (true, .ab (dP S W last b)))]) (nx := 5) (d := 1) (l := 2) (m := 3) (b1 := true) (b2 := true) (S := S) (last := last) rfl rfl h2 hz node ep
        cases q4 : psD (s1 S) node ep with
        | true =>
          rw [show psD (S.getD 1 ⟨#[]⟩) node ep = true from q4] at hps
          have e0 : isuE S W node ep pl s = 0 := by simp [isuE, q1, q2, q3, q4]
          have e1 : isuN S W last node ep pl s = last + 1 := by simp [isuN, e0]
          have e2 : isuL S W last node ep pl s = last + 1 := by simp [isuL, e0]
          have e3 : isuW S W last node ep pl s = W ++ [(last + 1, ⟨node, ep, pl, s⟩)] := by simp [isuW, e0]
          have w1 : IntKind.i64.wrap (last + 1) = last + 1 := wrap_sm (by omega) (by omega)
          have hin : inI64 (IntKind.i64.wrap (last + 1)) := by rw [w1]; exact ⟨by omega, by omega⟩
          have hput : mput (IntKind.i64.wrap (last + 1)) (wv ⟨node, ep, pl, s⟩) (wm W) = wm (W ++ [(last + 1, ⟨node, ep, pl, s⟩)]) := by rw [w1]; exact wm_put fun p hp => by have := hlw p hp; omega
          rw [e0, e1, e2, e3]
          refine rn [(16, .ret (.t (.c (iT 0)))), (18, .dec false), (23, .spec ⟨.t (.c (iT 0)), [], [], []⟩), (25, .dec false), (27, .dec false), (38, .spec ⟨.t (.c (.b true)), [], [], []⟩), (34, .dec false)] rfl (by (repeat' (first | exact trivial | exact rfl | exact hi | exact fun _ => hi | first | exact hwr | exact d3 | exact hps | exact hin | decide | refine And.intro ?_ ?_))) ?_
          refine Done.fold [(0, 1), (1, 2), (2, 3), (3, 4)] (diskO b S (wm (W ++ [(last + 1, ⟨node, ep, pl, s⟩)])) (last + 1)) (.p 0 0) (by (repeat' (first | exact trivial | exact rfl | exact hput | exact fun _ => hput | exact w1 | refine And.intro ?_ ?_))) rfl rfl (fun _ => rfl) ?_
          exact retM tysOk [(0, 5)] rfl (by (repeat' (first | exact trivial | exact rfl | exact w1 | exact fun _ => w1 | refine And.intro ?_ ?_))) (by repeat' (first | exact trivial | exact rfl | refine And.intro ?_ ?_)) rfl rfl
        | false =>
          rw [show psD (S.getD 1 ⟨#[]⟩) node ep = false from q4] at hps
          have e0 : isuE S W node ep pl s = 110 := by simp [isuE, q1, q2, q3, q4]
          have e1 : isuN S W last node ep pl s = 0 := by simp [isuN, e0]
          have e2 : isuL S W last node ep pl s = last := by simp [isuL, e0]
          have e3 : isuW S W last node ep pl s = W := by simp [isuW, e0]
          rw [e0, e1, e2, e3]
          refine rn [(16, .ret (.t (.c (iT 0)))), (18, .dec false), (23, .spec ⟨.t (.c (iT 0)), [], [], []⟩), (25, .dec false), (27, .dec false), (38, .spec ⟨.t (.c (.b false)), [], [], []⟩), (34, .dec true)] rfl (by (repeat' (first | exact trivial | exact rfl | exact hi | exact fun _ => hi | first | exact hwr | exact d3 | exact hps | decide | refine And.intro ?_ ?_))) ?_
          refine Done.fold [(0, 1), (1, 2), (2, 3), (3, 4)] (diskO b (S) (wm (W)) (last)) (.p 0 0) (by repeat' (first | exact trivial | exact rfl | refine And.intro ?_ ?_)) rfl rfl (fun _ => rfl) ?_
          exact retM tysOk [(0, 5)] rfl (by repeat' (first | exact trivial | exact rfl | refine And.intro ?_ ?_)) (by repeat' (first | exact trivial | exact rfl | refine And.intro ?_ ?_)) rfl rfl
    · have e0 : isuE S W node ep pl s = wrE S.length pl s := by simp [isuE, q1, q2]
      have e1 : isuN S W last node ep pl s = 0 := by simp [isuN, e0, q2]
      have e2 : isuL S W last node ep pl s = last := by simp [isuL, e0, q2]
      have e3 : isuW S W last node ep pl s = W := by simp [isuW, e0, q2]
      have d2 : (wrE S.length pl s != 0) = true := by simpa using q2
      rw [e0, e1, e2, e3]
      refine rn [(16, .ret (.t (.c (iT 0)))), (18, .dec false), (23, .spec ⟨.t (.c (iT (wrE S.length pl s))), [], [], []⟩), (25, .dec true)] rfl (by (repeat' (first | exact trivial | exact rfl | exact hi | exact fun _ => hi | first | exact hwr | exact d2 | decide | refine And.intro ?_ ?_))) ?_
      refine Done.fold [(0, 1), (1, 2), (2, 3), (3, 4)] (diskO b (S) (wm (W)) (last)) (.p 0 0) (by repeat' (first | exact trivial | exact rfl | refine And.intro ?_ ?_)) rfl rfl (fun _ => rfl) ?_
      exact retM tysOk [(0, 5)] rfl (by repeat' (first | exact trivial | exact rfl | refine And.intro ?_ ?_)) (by repeat' (first | exact trivial | exact rfl | refine And.intro ?_ ?_)) rfl rfl
  · rw [q1] at hi
    have e0 : isuE S W node ep pl s = 1 := by simp [isuE, q1]
    have e1 : isuN S W last node ep pl s = 0 := by simp [isuN, e0]
    have e2 : isuL S W last node ep pl s = last := by simp [isuL, e0]
    have e3 : isuW S W last node ep pl s = W := by simp [isuW, e0]
    rw [e0, e1, e2, e3]
    refine rn [(16, .ret (.t (.c (iT 1)))), (18, .dec true)] rfl (by (repeat' (first | exact trivial | exact rfl | exact hi | exact fun _ => hi | decide | refine And.intro ?_ ?_))) ?_
    refine Done.fold [(0, 1), (1, 2), (2, 3), (3, 4)] (diskO b (S) (wm (W)) (last)) (.p 0 0) (by repeat' (first | exact trivial | exact rfl | refine And.intro ?_ ?_)) rfl rfl (fun _ => rfl) ?_
    exact retM tysOk [(0, 5)] rfl (by repeat' (first | exact trivial | exact rfl | refine And.intro ?_ ?_)) (by repeat' (first | exact trivial | exact rfl | refine And.intro ?_ ?_)) rfl rfl
def rsE (S : List ByteArray) (node n : Int) : Int := if raiseE (s1 S) node n = 40 then 110 else raiseE (s1 S) node n
def rsS (S : List ByteArray) (node n : Int) : List ByteArray := if raiseE (s1 S) node n = 0 then S.set 1 (setE (s1 S) node n) else S
end
end Cw
namespace Cw
open Go Vc
open Go.Proofs
set_option maxRecDepth 100000
theorem ivsApp (a b : List Int) : ivs (a ++ b) = ivs a ++ ivs b := by simp [ivs]
/-- The numbers of a node's writes that wait. -/
def waitL (W : List (Int × Wr)) (node : Int) : List Int := (W.filter fun p => p.2.node == node).map Prod.fst
section
variable {H : HL} {nx d b : Nat} {S : List ByteArray} {W : List (Int × Wr)} {last : Int}
end
/-- A new disk's sectors. -/
def S0 (n : Nat) : List ByteArray := (List.replicate n B0).set 1 (wallB 0 0)
theorem svs_repl (n : Nat) (s : ByteArray) : svs (List.replicate n s) = List.replicate n (.string s) := by simp [svs]
set_option maxRecDepth 100000 in
set_option maxHeartbeats 2000000 in
theorem newA {H : HL} {nx n : Nat} (h0 : 2 ≤ n) (h1 : n ≤ 2048) : FnH Tryz.prog 41 [.c (iT n)] H nx ⟨.tup [.c (.nm nx), .c (iT 0)], [(true, .ab (exP (dP (S0 n) [] 0)))], [], []⟩ := by
  refine fnM (fn := Tryz.f41) 39 rfl rfl rfl (args' := [.c (iT n)]) (H' := []) (nx' := 0) [] (fun e w M => ⟨e, ⟨fun n b o h => (by cases h), fun n o m c q h => (by cases h)⟩, rfl⟩) rfl rfl rfl (fun e w M u hu => by cases hu) (fun u hu => by cases hu) (by simp) (v' := .tup [.c (.nm 0), .c (iT 0)]) (news' := [(true, .ab (exP (dP (S0 n) [] 0)))]) rfl rfl rfl rfl rfl fun w Wr => ?_
  have hc : (decide ((n : Int) < 2) || decide (2048 < (n : Int))) = false := by
    rw [Bool.or_eq_false_iff]
    exact ⟨decide_eq_false (by omega), decide_eq_false (by omega)⟩
  refine rn [(10, .dec false)] rfl (by (repeat' (first | exact trivial | exact rfl | exact hc | exact fun _ => hc | refine And.intro ?_ ?_))) ?_
  refine At.nilCell 1 0 9 1 rfl rfl rfl ?_
  refine At.loop (X := (j : Nat) ×' (j ≤ n)) 3 (fun s => n - s.1)
    (fun s => [(4, .t (.c (.p 1 0))), (14, .t (.c (iT (n : Nat)))), (15, .t (.c (iT (s.1 : Nat))))])
    (fun s => [(0, some (true, .mp (wm []))), (1, some (true, .cells [.nm 2, .mp 0, iT 0] 116)), (2, some (true, .own 9 1 s.1 (svs (List.replicate s.1 B0))))]) ⟨0, by omega⟩ [] (fun k => wf rfl rfl) (by repeat' (first | exact trivial | exact rfl | refine And.intro ?_ ?_)) (by repeat' (first | exact trivial | exact rfl | refine And.intro ?_ ?_)) rfl fun s => ?_
  obtain ⟨j, hj⟩ := s
  have w3 : IntKind.i64.wrap ((j : Int) + 1) = ((j + 1 : Nat) : Int) := by rw [wrap_sm (by omega) (by omega)]; omega
  refine rn [] rfl (by repeat' (first | exact trivial | exact rfl | refine And.intro ?_ ?_)) ?_
  refine ⟨fun h => ?_, fun h => ?_⟩
  · have hlt : j < n := by have : (j : Int) < (n : Int) := of_decide_eq_true h; omega
    clear h
    have m1 : j + 1 ≤ maxLen := by simp [maxLen]; omega
    have m2 : (j + 1) * 16 ≤ 140737488355328 := by omega
    refine rn [(22, .ret (.t (.c (.s B0))))] rfl (by (repeat' (first | exact trivial | exact rfl | exact blank0 | exact fun _ => blank0 | first | exact m1 | exact m2 | refine And.intro ?_ ?_))) ?_
    refine roundEnd ⟨j + 1, by omega⟩ [(2, 4)] (by show n - (j + 1) < n - j; omega) (by (repeat' (first | exact trivial | exact rfl | exact w3 | exact fun _ => w3 | refine And.intro ?_ ?_))) ?_ rfl
    repeat' (first | exact trivial | exact rfl | refine And.intro ?_ ?_)
    rw [svs_repl, svs_repl, app_eq, List.replicate_succ']
    rfl
  · have hlt : j = n := by have : ¬ (j : Int) < (n : Int) := of_decide_eq_false h; omega
    subst hlt
    have hsl : (svs (List.replicate j B0)).length = j := by rw [svs_length, List.length_replicate]
    refine rn [] rfl (by repeat' (first | exact trivial | exact rfl | refine And.intro ?_ ?_)) (roundExit rfl ?_)
    refine rnA [(34, .ret (.tup [.c (.s (wallB 0 0)), .c (iT 0)]))] rfl (by (repeat' (first | exact trivial | exact rfl | exact fence0 | exact fun _ => fence0 | first | (show (1 : Int).toNat * 1 + 1 ≤ (svs (List.replicate j B0)).length; rw [hsl]; omega) | (show (1 : Int) < ((j : Nat) : Int); omega) | decide | refine And.intro ?_ ?_))) ?_
    refine Done.pin 1 rfl fun b => ?_
    refine Done.foldR 2 (.p 1 0) [(0, 1), (1, 2), (2, 0), (3, 3)] (diskO b (S0 j) (wm []) 0) (.p 0 0) rfl (by repeat' (first | exact trivial | exact rfl | refine And.intro ?_ ?_)) ?_ rfl rfl (fun _ => rfl) ?_
    · (repeat' (first | exact trivial | exact rfl | exact trivial | exact fun _ => trivial | first | (show j = (S0 j).length; simp [S0]) | exact set_svs (S := List.replicate j B0) (k := 1) (by simp; omega) | refine And.intro ?_ ?_))
    refine Done.weak 4 (φ' := exP (dP (S0 j) [] 0)) rfl (exP_stable fun b => absP_stable _ _) (fun v F w h => ⟨b, h⟩) ?_
    exact retM tysOk [(0, 4)] rfl (by repeat' (first | exact trivial | exact rfl | refine And.intro ?_ ?_)) (by repeat' (first | exact trivial | exact rfl | refine And.intro ?_ ?_)) rfl rfl
end Cw
namespace Cw
open Go Vc
open Go.Proofs
set_option maxRecDepth 100000
theorem fenc_data : fenc.data.toList = [70, 69, 78, 67] := rfl
theorem app_data (a b : ByteArray) : (a ++ b).data.toList = a.data.toList ++ b.data.toList := by simp
theorem wallB_data (a b : Nat) : (wallB a b).data.toList = [70, 69, 78, 67] ++ le 4 a ++ le 4 b ++ List.replicate 52 0 := by
  rw [wallB, app_data, app_data, app_data, S_data, S_data, S_data, fenc_data]
theorem ep_wall {a b : Nat} (ha : a < 4294967296) (hb : b < 4294967296) : ep (wallB a b) = (a, b) := by
  have l1 := le_length 4 a
  have l2 := le_length 4 b
  have h1 : numAt (wallB a b) 4 4 = a := by
    rw [numAt, wallB_data, List.append_assoc, List.append_assoc, List.drop_append_of_le_length (by simp)]
    rw [show ([70, 69, 78, 67] : List UInt8).drop 4 = [] from rfl, List.nil_append, List.take_append_of_le_length (by omega), List.take_of_length_le (by omega)]
    exact num_le 4 a ha
  have h2 : numAt (wallB a b) 8 4 = b := by
    rw [numAt, wallB_data, List.append_assoc, List.drop_append_of_le_length (by simp [l1])]
    rw [List.drop_of_length_le (by simp [l1]), List.nil_append, List.take_append_of_le_length (by omega), List.take_of_length_le (by omega)]
    exact num_le 4 b hb
  rw [ep, h1, h2]
theorem fok_wall {a b : Nat} (ha : a < 4294967296) (hb : b < 4294967296) : fok (wallB a b) = true := by
  rw [fok, ep_wall ha hb, wallB_size]
  simp
theorem psD_wall {a b : Nat} (ha : a < 4294967296) (hb : b < 4294967296) (node n : Int) (hn : node = 0 ∨ node = 1) : psD (wallB a b) node n = decide (((if node = 0 then a else b : Nat) : Int) ≤ n) := by
  have e1 : passE (wallB a b) node = 0 := by simp [passE, fok_wall ha hb, hn]
  simp only [psD, passB, e1, epN, ep_wall ha hb]
  simp
/-- What stays of a disk of n sectors. -/
structure DOk (n : Nat) (S : List ByteArray) (W : List (Int × Wr)) (last : Int) : Prop where
  len : S.length = n
  two : 2 ≤ n
  sz : ∀ s ∈ S, s.size = 64
  pl : ∀ p ∈ W, inS n p.2.pl = true
  ws : ∀ p ∈ W, p.2.s.size = 64
  key : (W.map Prod.fst).Pairwise (· < ·)
  le : ∀ p ∈ W, 1 ≤ p.1 ∧ p.1 ≤ last
  l0 : 0 ≤ last
section
variable {n : Nat} {S : List ByteArray} {W : List (Int × Wr)} {last : Int}
theorem mem_set_sz {S : List ByteArray} {k : Nat} {t : ByteArray} (h : ∀ s ∈ S, s.size = 64) (ht : t.size = 64) : ∀ s ∈ S.set k t, s.size = 64 := fun s hs => by
  rcases List.mem_or_eq_of_mem_set hs with h1 | h1
  · exact h s h1
  · rw [h1]; exact ht
theorem DOk.new {n : Nat} (h : 2 ≤ n) : DOk n (S0 n) [] 0 where
  len := by simp [S0]
  two := h
  sz := mem_set_sz (fun s hs => by rw [(List.mem_replicate.1 hs).2, B0, S_size]; rfl) (wallB_size _ _)
  pl := by simp
  ws := by simp
  key := by simp
  le := by simp
  l0 := Int.le_refl _
end
abbrev dX (S : List ByteArray) (W : List (Int × Wr)) (last : Int) : AbP := exP (dP S W last)
end Cw
namespace Cw
open Go Vc
open Go.Proofs
set_option maxRecDepth 100000
section
variable {H : HL} {nx d b n : Nat} {S : List ByteArray} {W : List (Int × Wr)} {last : Int}
theorem issueOk (hd : lookH H d = some (true, .ab (dP S W last b))) (h : DOk n S W last) (hl : last ≤ 1000000) {node ep pl : Int} {s : ByteArray} (he : isuE S W node ep pl s = 0) :
    FnH Tryz.prog 100 [.c (.nm d), .c (iT node), .c (iT ep), .c (iT pl), .c (.s s)] H nx ⟨.tup [.c (iT (last + 1)), .c (iT 0)], [], [(d, some (.ab (dP S (W ++ [(last + 1, ⟨node, ep, pl, s⟩)]) (last + 1) b)))], []⟩ := by
  have := issueA (nx := nx) hd (h.len ▸ h.two) h.sz h.l0 hl (fun p hp => (h.le p hp).2) node ep pl s
  rw [isuN, isuL, isuW, if_pos he, if_pos he, if_pos he, he] at this
  exact this
theorem applyD (hd : lookH H d = some (true, .ab (dP S W last b))) (h : DOk n S W last) (k : Int) :
    FnH Tryz.prog 24 [.c (.nm d), .c (iT k)] H nx ⟨.tup [.c (.b (apB S W k)), .c (iT (drE W k))], [], [(d, some (.ab (dP (apS S W k) (wdel k W) last b)))], []⟩ :=
  applyA hd (h.len ▸ h.two) h.sz (fun p hp => by rw [h.len]; exact h.pl p hp) k
end
theorem isE_ok {node ep : Int} (h : 0 ≤ node ∧ node < 2 ∧ 0 ≤ ep ∧ ep ≤ 4294967295) : isE node ep = 0 := if_pos h
theorem isuE_ok {n : Nat} {S : List ByteArray} {W : List (Int × Wr)} {last node ep pl : Int} {s : ByteArray} (h : DOk n S W last) (h1 : 0 ≤ node ∧ node < 2 ∧ 0 ≤ ep ∧ ep ≤ 4294967295) (h2 : inS n pl = true) (h3 : s.size = 64) (h4 : W.length < 1024) : isuE S W node ep pl s = if psD (s1 S) node ep then 0 else 110 := by
  have e2 : wrE S.length pl s = 0 := by simp [wrE, h.len, h2, h3]
  simp [isuE, isE_ok h1, e2, show ¬ 1024 ≤ W.length by omega]
def xB : ByteArray := ⟨#[120]⟩
end Cw
namespace Cw
open Go Vc
open Go.Proofs
set_option maxRecDepth 100000
def ptT (p : Pt) : TV := .agg [iT p.1, .s p.2]
/-- What a place of a text holds. -/
def plc (s : ByteArray) (p : Pt) : ByteArray := s.extract p.1.toNat (p.1 + p.2.size).toNat
def swE (S : List ByteArray) (node ep k : Int) (was now : Pt) : Int :=
  if isE node ep ≠ 0 then 1 else if inS S.length k = false then 1 else if okp was = false ∨ okp now = false then 1 else if was.1 ≠ now.1 ∨ was.2.size ≠ now.2.size then 4 else if psD (s1 S) node ep = false then 110 else 0
def swB (S : List ByteArray) (node ep k : Int) (was now : Pt) : Bool := decide (swE S node ep k was now = 0) && (plc (rdT S k) was == was.2)
def swS (S : List ByteArray) (node ep k : Int) (was now : Pt) : List ByteArray := if swB S node ep k was now then S.set k.toNat (pt (rdT S k) [now]) else S
section
variable {H : HL} {nx d b n : Nat} {S : List ByteArray} {W : List (Int × Wr)} {last : Int}
end
end Cw
namespace Cw
open Go Vc
open Go.Proofs
set_option maxRecDepth 100000
theorem ext_data (s : ByteArray) (i j : Nat) : (s.extract i j).data.toList = (s.data.toList.drop i).take (j - i) := by
  rw [ByteArray.data_extract, Array.toList_extract]
theorem size_data (s : ByteArray) : s.size = s.data.toList.length := rfl
section
variable {s : ByteArray} {p q : Pt}
end
section
variable {H : HL} {nx d n : Nat} {S : List ByteArray} {W : List (Int × Wr)} {last : Int}
end
end Cw
