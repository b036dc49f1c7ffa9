/- The disk: its methods that change it, by reckoning. -/
import Derived.Test.YtokhlioogjalkaaGreatDisk
namespace Cw
open Go Vc
open Go.Proofs
set_option maxRecDepth 100000
/-- A write that waits. -/
structure Wr where
  node : Int
  ep : Int
  pl : Int
  s : ByteArray
def wv (x : Wr) : Value := .agg #[.int .i64 x.node, .int .i64 x.ep, .int .i64 x.pl, .string x.s]
def wT (x : Wr) : TV := .agg [iT x.node, iT x.ep, iT x.pl, .s x.s]
def wm (W : List (Int × Wr)) : List (Int × Value) := W.map fun p => (p.1, wv p.2)
def wget (k : Int) : List (Int × Wr) → Option Wr
  | [] => none
  | (q, x) :: l => if q = k then some x else wget k l
def wdel (k : Int) : List (Int × Wr) → List (Int × Wr)
  | [] => []
  | (q, x) :: l => if q = k then l else (q, x) :: wdel k l
theorem wm_get (k : Int) : ∀ W, mget k (wm W) = (wget k W).map wv
  | [] => rfl
  | (q, x) :: l => by
    show mget k ((q, wv x) :: wm l) = _
    unfold mget wget
    split
    · rfl
    · exact wm_get k l
theorem wm_del (k : Int) : ∀ W, mdel k (wm W) = wm (wdel k W)
  | [] => rfl
  | (q, x) :: l => by
    show mdel k ((q, wv x) :: wm l) = _
    unfold mdel wdel
    split
    · rfl
    · rw [wm_del k l]; rfl
theorem wm_put {k : Int} {x : Wr} : ∀ {W : List (Int × Wr)}, (∀ p ∈ W, p.1 ≠ k) → mput k (wv x) (wm W) = wm (W ++ [(k, x)])
  | [], _ => rfl
  | (q, y) :: l, h => by
    show mput k (wv x) ((q, wv y) :: wm l) = _
    unfold mput
    rw [if_neg (h (q, y) (by simp)), wm_put fun p hp => h p (by simp [hp])]
    rfl
theorem wm_length (W : List (Int × Wr)) : (wm W).length = W.length := by simp [wm]
theorem wget_mem {k : Int} {x : Wr} : ∀ {W : List (Int × Wr)}, wget k W = some x → (k, x) ∈ W
  | [], h => by cases h
  | (q, y) :: l, h => by
    unfold wget at h
    split at h
    · rename_i hq; cases h; subst hq; simp
    · exact List.mem_cons.2 (.inr (wget_mem h))
theorem wdel_mem {k : Int} {p : Int × Wr} : ∀ {W : List (Int × Wr)}, p ∈ wdel k W → p ∈ W
  | [], h => by cases h
  | (q, y) :: l, h => by
    unfold wdel at h
    split at h
    · exact List.mem_cons.2 (.inr h)
    · rcases List.mem_cons.1 h with h | h
      · rw [h]; simp
      · exact List.mem_cons.2 (.inr (wdel_mem h))
abbrev dP (S : List ByteArray) (W : List (Int × Wr)) (last : Int) (b : Nat) : AbP := diskP S (wm W) last b
def s1 (S : List ByteArray) : ByteArray := S.getD 1 ⟨#[]⟩
section
variable {H : HL} {nx d b : Nat} {S : List ByteArray} {W : List (Int × Wr)} {last : Int}
set_option maxRecDepth 100000 in
set_option maxHeartbeats 1000000 in
theorem readA (hd : lookH H d = some (true, .ab (dP S W last b))) (k : Int) : FnH Tryz.prog 17 [.c (.nm d), .c (iT k)] H nx ⟨.tup [.c (.s (rdT S k)), .c (iT (rdE S.length k))], [], [(d, some (.ab (dP S W last b)))], []⟩ := by
  refine fnA (fn := Tryz.f17) 24 rfl rfl rfl hd (ptr b) (disk_pins _ _ _ _) (disk_pins _ _ _ _) rfl rfl rfl (v' := .tup [.c (.s (rdT S k)), .c (iT (rdE S.length k))]) (news' := []) rfl rfl rfl rfl fun w Wr => ?_
  refine At.unfoldTo 0 (L1 := (0, .t (.c (.p 1 0))) :: [(1, .t (.c (iT k)))]) (H1 := [(1, some (true, .cells [.nm 2, .mp 3, iT (last)] 58)), (2, some (true, .own 9 1 (S).length (svs (S)))), (3, some (true, .mp (wm (W)))), (4, some (false, .pin 1 b)), (0, none), (0, some (true, .ab (dP (S) (W) (last) b)))]) (nx1 := 5) rfl rfl rfl rfl rfl rfl ?_
  cases h : inS S.length k with
  | false =>
    have e1 : rdT S k = ⟨#[]⟩ := by simp [rdT, h]
    have e2 : rdE S.length k = 1 := by simp [rdE, h]
    rw [e1, e2]
    refine rn [(16, .dec true)] rfl (by (repeat' (first | exact trivial | exact rfl | exact not_inS h | exact fun _ => not_inS h | refine And.intro ?_ ?_))) ?_
    refine Done.fold [(0, 1), (1, 2), (2, 3), (3, 4)] (diskO b S (wm W) last) (.p 0 0) (by repeat' (first | exact trivial | exact rfl | refine And.intro ?_ ?_)) rfl rfl (fun _ => rfl) ?_
    exact retM tysOk [(0, 5)] rfl (by repeat' (first | exact trivial | exact rfl | refine And.intro ?_ ?_)) (by repeat' (first | exact trivial | exact rfl | refine And.intro ?_ ?_)) rfl rfl
  | true =>
    have e2 : rdE S.length k = 0 := by simp [rdE, h]
    have hb := inS_iff.1 h
    rw [e2]
    refine rn [(16, .dec false), (23, .ld [.s (rdT S k)])] rfl (by (repeat' (first | exact trivial | exact rfl | exact is_inS h | exact fun _ => is_inS h | first | exact svs_rd h | exact hb.1 | exact hb.2 | decide | refine And.intro ?_ ?_))) ?_
    refine Done.fold [(0, 1), (1, 2), (2, 3), (3, 4)] (diskO b S (wm W) last) (.p 0 0) (by repeat' (first | exact trivial | exact rfl | refine And.intro ?_ ?_)) rfl rfl (fun _ => rfl) ?_
    exact retM tysOk [(0, 5)] rfl (by repeat' (first | exact trivial | exact rfl | refine And.intro ?_ ?_)) (by repeat' (first | exact trivial | exact rfl | refine And.intro ?_ ?_)) rfl rfl
theorem set_svs {S : List ByteArray} {k : Nat} {s : ByteArray} (h : k < S.length) : Vc.setAt (svs S) (k * 1) [Value.string s] = svs (S.set k s) := by
  apply List.ext_getElem?
  intro i
  simp only [Vc.setAt, svs]
  by_cases h1 : i < k
  · rw [List.append_assoc, List.getElem?_append_left (by simp; omega)]
    simp [List.getElem?_take, h1, List.getElem?_set, show k ≠ i by omega]
  · by_cases h2 : i = k
    · subst h2
      rw [List.append_assoc, List.getElem?_append_right (by simp; omega)]
      simp [h, show min i S.length = i by omega]
    · rw [List.getElem?_append_right (by simp; omega)]
      simp only [List.length_append, List.length_take, List.length_map, List.length_singleton, List.getElem?_drop]
      rw [show min (k * 1) S.length = k by omega, show k * 1 + 1 + (i - (k + 1)) = i by omega]
      simp [List.getElem?_set, show k ≠ i by omega]
def layS (S : List ByteArray) (k : Int) (s : ByteArray) : List ByteArray := if wrE S.length k s = 0 then S.set k.toNat s else S
theorem wrE_ok {n : Nat} {k : Int} {s : ByteArray} (h : wrE n k s = 0) : inS n k = true ∧ s.size = 64 := by
  unfold wrE at h
  split at h
  · split at h
    · exact ⟨by assumption, by assumption⟩
    · cases h
  · cases h
set_option maxRecDepth 100000 in
set_option maxHeartbeats 1000000 in
theorem layA (hd : lookH H d = some (true, .ab (dP S W last b))) (k : Int) (s : ByteArray) : FnH Tryz.prog 14 [.c (.nm d), .c (iT k), .c (.s s)] H nx ⟨.t (.c (iT (wrE S.length k s))), [], [(d, some (.ab (dP (layS S k s) W last b)))], []⟩ := by
  refine fnA (fn := Tryz.f14) 22 rfl rfl rfl hd (ptr b) (disk_pins _ _ _ _) (disk_pins _ _ _ _) rfl rfl rfl (v' := .t (.c (iT (wrE S.length k s)))) (news' := []) rfl rfl rfl rfl fun w Wr => ?_
  refine At.unfoldTo 0 (L1 := (0, .t (.c (.p 1 0))) :: [(1, .t (.c (iT k))), (2, .t (.c (.s s)))]) (H1 := [(1, some (true, .cells [.nm 2, .mp 3, iT (last)] 58)), (2, some (true, .own 9 1 (S).length (svs (S)))), (3, some (true, .mp (wm (W)))), (4, some (false, .pin 1 b)), (0, none), (0, some (true, .ab (dP (S) (W) (last) b)))]) (nx1 := 5) rfl rfl rfl rfl rfl rfl ?_
  by_cases h : wrE S.length k s = 0
  · have e1 : layS S k s = S.set k.toNat s := if_pos h
    obtain ⟨h1, h2⟩ := wrE_ok h
    have hb := inS_iff.1 h1
    have hlt : k.toNat < S.length := by omega
    have hl : (svs S).length = S.length := svs_length S
    rw [e1]
    refine rn [(11, .spec ⟨.t (.c (iT (wrE S.length k s))), [], [], []⟩), (13, .dec true)] rfl (by (repeat' (first | exact trivial | exact rfl | exact wrongU rfl rfl k s | exact fun _ => wrongU rfl rfl k s | first | exact hb.1 | exact hb.2 | (rw [h]; rfl) | (show k.toNat * 1 + 1 ≤ (svs S).length; omega) | decide | refine And.intro ?_ ?_))) ?_
    refine Done.fold [(0, 1), (1, 2), (2, 3), (3, 4)] (diskO b (S.set k.toNat s) (wm W) last) (.p 0 0) ?_ rfl rfl (fun _ => rfl) ?_
    · (repeat' (first | exact trivial | exact rfl | exact trivial | exact fun _ => trivial | first | exact (List.length_set ..).symm | exact set_svs hlt | refine And.intro ?_ ?_))
    · exact retM tysOk [(0, 5)] rfl (by repeat' (first | exact trivial | exact rfl | refine And.intro ?_ ?_)) (by repeat' (first | exact trivial | exact rfl | refine And.intro ?_ ?_)) rfl rfl
  · have e1 : layS S k s = S := if_neg h
    have hne : (wrE S.length k s == 0) = false := by simpa using h
    rw [e1]
    refine rn [(11, .spec ⟨.t (.c (iT (wrE S.length k s))), [], [], []⟩), (13, .dec false)] rfl (by (repeat' (first | exact trivial | exact rfl | exact wrongU rfl rfl k s | exact fun _ => wrongU rfl rfl k s | exact hne | refine And.intro ?_ ?_))) ?_
    refine Done.fold [(0, 1), (1, 2), (2, 3), (3, 4)] (diskO b (S) (wm (W)) (last)) (.p 0 0) (by repeat' (first | exact trivial | exact rfl | refine And.intro ?_ ?_)) rfl rfl (fun _ => rfl) ?_
    exact retM tysOk [(0, 5)] rfl (by repeat' (first | exact trivial | exact rfl | refine And.intro ?_ ?_)) (by repeat' (first | exact trivial | exact rfl | refine And.intro ?_ ?_)) rfl rfl
/-- A write that waits is looked up. -/
theorem lk_some {k : Int} {x : Wr} (h : wget k W = some x) (z : Value) : lkV (wm W) k z true = (SV.tup [wT x, .c (.b true)]).den e0 := by
  unfold lkV
  rw [wm_get, h]
  rfl
theorem lk_none {k : Int} (h : wget k W = none) : lkV (wm W) k (.agg #[.int .i64 0, .int .i64 0, .int .i64 0, .string ⟨#[]⟩]) true = (SV.tup [wT ⟨0, 0, 0, ⟨#[]⟩⟩, .c (.b false)]).den e0 := by
  unfold lkV
  rw [wm_get, h]
  rfl
def drE (W : List (Int × Wr)) (k : Int) : Int := if (wget k W).isSome then 0 else 5
theorem wdel_none {k : Int} : ∀ {W : List (Int × Wr)}, wget k W = none → wdel k W = W
  | [], _ => rfl
  | (q, x) :: l, h => by
    unfold wget at h
    split at h
    · cases h
    · rename_i hq; simp [wdel, hq, wdel_none h]
set_option maxRecDepth 100000 in
set_option maxHeartbeats 1000000 in
theorem dropA (hd : lookH H d = some (true, .ab (dP S W last b))) (k : Int) : FnH Tryz.prog 33 [.c (.nm d), .c (iT k)] H nx ⟨.t (.c (iT (drE W k))), [], [(d, some (.ab (dP S (wdel k W) last b)))], []⟩ := by
  refine fnA (fn := Tryz.f33) 23 rfl rfl rfl hd (ptr b) (disk_pins _ _ _ _) (disk_pins _ _ _ _) rfl rfl rfl (v' := .t (.c (iT (drE W k)))) (news' := []) rfl rfl rfl rfl fun w Wr => ?_
  refine At.unfoldTo 0 (L1 := (0, .t (.c (.p 1 0))) :: [(1, .t (.c (iT k)))]) (H1 := [(1, some (true, .cells [.nm 2, .mp 3, iT (last)] 58)), (2, some (true, .own 9 1 (S).length (svs (S)))), (3, some (true, .mp (wm (W)))), (4, some (false, .pin 1 b)), (0, none), (0, some (true, .ab (dP (S) (W) (last) b)))]) (nx1 := 5) rfl rfl rfl rfl rfl rfl ?_
  cases h : wget k W with
  | none =>
    have e1 : drE W k = 5 := by simp [drE, h]
    rw [e1, wdel_none h]
    refine rn [(13, .ret (.tup [wT ⟨0, 0, 0, ⟨#[]⟩⟩, .c (.b false)])), (17, .dec true)] rfl (by (repeat' (first | exact trivial | exact rfl | exact lk_none h | exact fun _ => lk_none h | refine And.intro ?_ ?_))) ?_
    refine Done.fold [(0, 1), (1, 2), (2, 3), (3, 4)] (diskO b (S) (wm (W)) (last)) (.p 0 0) (by repeat' (first | exact trivial | exact rfl | refine And.intro ?_ ?_)) rfl rfl (fun _ => rfl) ?_
    exact retM tysOk [(0, 6)] rfl (by repeat' (first | exact trivial | exact rfl | refine And.intro ?_ ?_)) (by repeat' (first | exact trivial | exact rfl | refine And.intro ?_ ?_)) rfl rfl
  | some x =>
    have e1 : drE W k = 0 := by simp [drE, h]
    rw [e1]
    refine rn [(13, .ret (.tup [wT x, .c (.b true)])), (17, .dec false)] rfl (by (repeat' (first | exact trivial | exact rfl | exact lk_some h _ | exact fun _ => lk_some h _ | refine And.intro ?_ ?_))) ?_
    refine Done.fold [(0, 1), (1, 2), (2, 3), (3, 4)] (diskO b S (wm (wdel k W)) last) (.p 0 0) (by (repeat' (first | exact trivial | exact rfl | exact wm_del k W | exact fun _ => wm_del k W | refine And.intro ?_ ?_))) rfl rfl (fun _ => rfl) ?_
    exact retM tysOk [(0, 6)] rfl (by repeat' (first | exact trivial | exact rfl | refine And.intro ?_ ?_)) (by repeat' (first | exact trivial | exact rfl | refine And.intro ?_ ?_)) rfl rfl
end
end Cw
