/- The disk: Swap by reckoning. -/
import Derived.Test.YtokhlioogjalkaaGreatDisk6
namespace Cw
open Go Vc
open Go.Proofs
set_option maxRecDepth 100000
def ptT (p : Pt) : TV := .agg [iT p.1, .s p.2]
theorem fcheck0 (p : Pt) (h : p.2.size ≤ 9223372036854775807) : Fn0 Tryz.prog 55 [ptT p] (.t (.c (iT (fcheck p.1 p.2.size)))) := ⟨fun w => fcheck_any p.1 p.2 h w⟩
/-- What a place of a text holds. -/
def plc (s : ByteArray) (p : Pt) : ByteArray := s.extract p.1.toNat (p.1 + p.2.size).toNat
def swE (S : List ByteArray) (node ep k : Int) (was now : Pt) : Int :=
  if isE node ep ≠ 0 then 1 else if inS S.length k = false then 1 else if okp was = false ∨ okp now = false then 1 else if was.1 ≠ now.1 ∨ was.2.size ≠ now.2.size then 4 else if psD (s1 S) node ep = false then 110 else 0
def swB (S : List ByteArray) (node ep k : Int) (was now : Pt) : Bool := decide (swE S node ep k was now = 0) && (plc (rdT S k) was == was.2)
def swS (S : List ByteArray) (node ep k : Int) (was now : Pt) : List ByteArray := if swB S node ep k was now then S.set k.toNat (pt (rdT S k) [now]) else S
section
variable {H : HL} {nx d b n : Nat} {S : List ByteArray} {W : List (Int × Wr)} {last : Int}
set_option maxRecDepth 100000 in
set_option maxHeartbeats 4000000 in
theorem swapA (hd : lookH H d = some (true, .ab (dP S W last b))) (hD : DOk n S W last) (node ep k : Int) (was now : Pt) (z1 : was.2.size ≤ 9223372036854775807) (z2 : now.2.size ≤ 9223372036854775807) :
    FnH Tryz.prog 37 [.c (.nm d), .c (iT node), .c (iT ep), .c (iT k), ptT was, ptT now] H nx ⟨.tup [.c (.b (swB S node ep k was now)), .c (iT (swE S node ep k was now))], [], [(d, some (.ab (dP (swS S node ep k was now) W last b)))], []⟩ := by
  refine fnA (fn := Tryz.f37) 92 rfl rfl rfl hd (ptr b) (disk_pins _ _ _ _) (disk_pins _ _ _ _) rfl rfl rfl (v' := .tup [.c (.b (swB S node ep k was now)), .c (iT (swE S node ep k was now))]) (news' := []) rfl rfl rfl rfl fun w Wr => ?_
  refine At.unfoldTo 0 (L1 := (0, .t (.c (.p 1 0))) :: [(1, .t (.c (iT node))), (2, .t (.c (iT ep))), (3, .t (.c (iT k))), (4, .t (ptT was)), (5, .t (ptT now))]) (H1 := [(1, some (true, .cells [.nm 2, .mp 3, iT (last)] 58)), (2, some (true, .own 9 1 (S).length (svs (S)))), (3, some (true, .mp (wm (W)))), (4, some (false, .pin 1 b)), (0, none), (0, some (true, .ab (dP (S) (W) (last) b)))]) (nx1 := 5) rfl rfl rfl rfl rfl rfl ?_
  have hi := issuer0 node ep
  rcases (isE_cases node ep).symm with q1 | q1
  · rw [q1] at hi
    have e0 : swE S node ep k was now = 1 := by simp [swE, q1]
    have e1 : swB S node ep k was now = false := by simp [swB, e0]
    have e2 : swS S node ep k was now = S := by simp [swS, e1]
    rw [e0, e1, e2]
    refine rn [(21, .ret (.t (.c (iT 1)))), (23, .dec true)] rfl (by (repeat' (first | exact trivial | exact rfl | exact hi | exact fun _ => hi | decide | refine And.intro ?_ ?_))) ?_
    refine Done.fold [(0, 1), (1, 2), (2, 3), (3, 4)] (diskO b (S) (wm (W)) (last)) (.p 0 0) (by repeat' (first | exact trivial | exact rfl | refine And.intro ?_ ?_)) rfl rfl (fun _ => rfl) ?_
    exact retM tysOk [(0, 7)] rfl (by repeat' (first | exact trivial | exact rfl | refine And.intro ?_ ?_)) (by repeat' (first | exact trivial | exact rfl | refine And.intro ?_ ?_)) rfl rfl
  rw [q1] at hi
  have hrd : ∀ {H : HL}, lookH H 1 = some (true, .cells [.nm 2, .mp 3, iT last] 58) → lookH H 2 = some (true, .own 9 1 S.length (svs S)) → FnH Tryz.prog 17 [.c (.p 1 0), .c (iT k)] H 7 ⟨.tup [.c (.s (rdT S k)), .c (iT (rdE S.length k))], [], [], []⟩ := fun {H} h1 h2 => readU h1 h2 k
  cases q2 : inS S.length k with
  | false =>
    have e0 : swE S node ep k was now = 1 := by simp [swE, q1, q2]
    have e1 : swB S node ep k was now = false := by simp [swB, e0]
    have e2 : swS S node ep k was now = S := by simp [swS, e1]
    have hr : rdE S.length k = 1 := by simp [rdE, q2]
    rw [hr] at hrd
    rw [e0, e1, e2]
    refine rn [(21, .ret (.t (.c (iT 0)))), (23, .dec false), (28, .spec ⟨.tup [.c (.s (rdT S k)), .c (iT 1)], [], [], []⟩), (32, .dec true)] rfl (by (repeat' (first | exact trivial | exact rfl | exact hi | exact fun _ => hi | first | exact hrd rfl rfl | decide | refine And.intro ?_ ?_))) ?_
    refine Done.fold [(0, 1), (1, 2), (2, 3), (3, 4)] (diskO b (S) (wm (W)) (last)) (.p 0 0) (by repeat' (first | exact trivial | exact rfl | refine And.intro ?_ ?_)) rfl rfl (fun _ => rfl) ?_
    exact retM tysOk [(0, 7)] rfl (by repeat' (first | exact trivial | exact rfl | refine And.intro ?_ ?_)) (by repeat' (first | exact trivial | exact rfl | refine And.intro ?_ ?_)) rfl rfl
  | true =>
    have hr : rdE S.length k = 0 := by simp [rdE, q2]
    rw [hr] at hrd
    have hb := inS_iff.1 q2
    have hlt : k.toNat < S.length := by omega
    have hmem : rdT S k ∈ S := by
      rw [rdT, if_pos q2, List.getD_eq_getElem?_getD, List.getElem?_eq_getElem hlt]
      exact List.getElem_mem hlt
    have h64 := hD.sz _ hmem
    have hfc := fcheck0 was z1
    have hpt : ∀ {H : HL} {T : TypeId}, lookH H 7 = some (true, .cells [iT now.1, .s now.2] T) → FnH Tryz.prog 54 [.c (.s (rdT S k)), .c (.sl 7 0 1 1)] H 8 ⟨.tup [.c (.s (pt (rdT S k) [now])), .c (iT (pte (rdT S k) [now]))], [], [], []⟩ := fun {H} {T} h =>
      patched_lit (rdT S k) [now] (by simpa using z2) (by omega) (by simp [maxLen]) h rfl (fun e => rfl)
    have hpe : pte (rdT S k) [now] = if okp now then 0 else 1 := by simp [pte, h64]
    have hsl : (svs S).length = S.length := svs_length S
    by_cases q3 : okp was = false ∨ okp now = false
    · have e0 : swE S node ep k was now = 1 := by simp [swE, q1, q2, q3]
      have e1 : swB S node ep k was now = false := by simp [swB, e0]
      have e2 : swS S node ep k was now = S := by simp [swS, e1]
      rw [e0, e1, e2]
      cases q4 : okp was with
      | false =>
        have hf : fcheck was.1 was.2.size = 1 := by
          have : finside was.1 was.2.size = false := q4
          simp [fcheck, this]
        rw [hf] at hfc
        refine rn [(21, .ret (.t (.c (iT 0)))), (23, .dec false), (28, .spec ⟨.tup [.c (.s (rdT S k)), .c (iT 0)], [], [], []⟩), (32, .dec false), (38, .spec ⟨.tup [.c (.s (pt (rdT S k) [now])), .c (iT (pte (rdT S k) [now]))], [], [], []⟩), (42, .ret (.t (.c (iT 1)))), (44, .dec true), (46, .dec true)] rfl (by (repeat' (first | exact trivial | exact rfl | exact hi | exact fun _ => hi | first | exact hrd rfl rfl | exact hpt rfl | exact hfc | decide | refine And.intro ?_ ?_))) ?_
        refine Done.fold [(0, 1), (1, 2), (2, 3), (3, 4)] (diskO b (S) (wm (W)) (last)) (.p 0 0) (by repeat' (first | exact trivial | exact rfl | refine And.intro ?_ ?_)) rfl rfl (fun _ => rfl) ?_
        exact retM tysOk [(0, 8)] rfl (by repeat' (first | exact trivial | exact rfl | refine And.intro ?_ ?_)) (by repeat' (first | exact trivial | exact rfl | refine And.intro ?_ ?_)) rfl rfl
      | true =>
        have hf : fcheck was.1 was.2.size = 0 := by
          have : finside was.1 was.2.size = true := q4
          simp [fcheck, this]
        have q5 : okp now = false := by rcases q3 with h | h
                                        · rw [q4] at h; cases h
                                        · exact h
        have hp1 : pte (rdT S k) [now] = 1 := by rw [hpe, q5]; rfl
        rw [hf] at hfc
        rw [hp1] at hpt
        refine rn [(21, .ret (.t (.c (iT 0)))), (23, .dec false), (28, .spec ⟨.tup [.c (.s (rdT S k)), .c (iT 0)], [], [], []⟩), (32, .dec false), (38, .spec ⟨.tup [.c (.s (pt (rdT S k) [now])), .c (iT 1)], [], [], []⟩), (42, .ret (.t (.c (iT 0)))), (44, .dec false), (46, .dec true)] rfl (by (repeat' (first | exact trivial | exact rfl | exact hi | exact fun _ => hi | first | exact hrd rfl rfl | exact hpt rfl | exact hfc | decide | refine And.intro ?_ ?_))) ?_
        refine Done.fold [(0, 1), (1, 2), (2, 3), (3, 4)] (diskO b (S) (wm (W)) (last)) (.p 0 0) (by repeat' (first | exact trivial | exact rfl | refine And.intro ?_ ?_)) rfl rfl (fun _ => rfl) ?_
        exact retM tysOk [(0, 8)] rfl (by repeat' (first | exact trivial | exact rfl | refine And.intro ?_ ?_)) (by repeat' (first | exact trivial | exact rfl | refine And.intro ?_ ?_)) rfl rfl
    · have q4 : okp was = true := by cases h : okp was <;> simp_all
      have q5 : okp now = true := by cases h : okp now <;> simp_all
      have hf : fcheck was.1 was.2.size = 0 := by
        have : finside was.1 was.2.size = true := q4
        simp [fcheck, this]
      have hp0 : pte (rdT S k) [now] = 0 := by rw [hpe, q5]; rfl
      rw [hf] at hfc
      rw [hp0] at hpt
      by_cases q6 : was.1 ≠ now.1 ∨ was.2.size ≠ now.2.size
      · have e0 : swE S node ep k was now = 4 := by simp [swE, q1, q2, q4, q5, q6]
        have e1 : swB S node ep k was now = false := by simp [swB, e0]
        have e2 : swS S node ep k was now = S := by simp [swS, e1]
        have hc : ((was.1 != now.1) || (((was.2.size : Nat) : Int) != (now.2.size : Nat))) = true := by
          rw [Bool.or_eq_true, bne_iff_ne, bne_iff_ne]
          rcases q6 with h | h
          · exact .inl h
          · exact .inr (by omega)
        rw [e0, e1, e2]
        refine rn [(21, .ret (.t (.c (iT 0)))), (23, .dec false), (28, .spec ⟨.tup [.c (.s (rdT S k)), .c (iT 0)], [], [], []⟩), (32, .dec false), (38, .spec ⟨.tup [.c (.s (pt (rdT S k) [now])), .c (iT 0)], [], [], []⟩), (42, .ret (.t (.c (iT 0)))), (44, .dec false), (46, .dec false), (50, .dec true)] rfl (by (repeat' (first | exact trivial | exact rfl | exact hi | exact fun _ => hi | first | exact hrd rfl rfl | exact hpt rfl | exact hfc | exact hc | decide | refine And.intro ?_ ?_))) ?_
        refine Done.fold [(0, 1), (1, 2), (2, 3), (3, 4)] (diskO b (S) (wm (W)) (last)) (.p 0 0) (by repeat' (first | exact trivial | exact rfl | refine And.intro ?_ ?_)) rfl rfl (fun _ => rfl) ?_
        exact retM tysOk [(0, 8)] rfl (by repeat' (first | exact trivial | exact rfl | refine And.intro ?_ ?_)) (by repeat' (first | exact trivial | exact rfl | refine And.intro ?_ ?_)) rfl rfl
      · have q7 : was.1 = now.1 ∧ was.2.size = now.2.size := ⟨Decidable.byContradiction fun h => q6 (.inl h), Decidable.byContradiction fun h => q6 (.inr h)⟩
        have hc : ((was.1 != now.1) || (((was.2.size : Nat) : Int) != (now.2.size : Nat))) = false := by
          rw [q7.1, q7.2]; simp
        have hps : ∀ {H : HL}, lookH H 1 = some (true, .cells [.nm 2, .mp 3, iT last] 58) → lookH H 2 = some (true, .own 9 1 S.length (svs S)) → FnH Tryz.prog 43 [.c (.p 1 0), .c (iT node), .c (iT ep)] H 8 ⟨.t (.c (.b (psD (s1 S) node ep))), [], [], []⟩ := fun {H} h1 h2 => passesU h1 h2 (hD.len ▸ hD.two) hD.sz node ep
        cases q8 : psD (s1 S) node ep with
        | false =>
          have e0 : swE S node ep k was now = 110 := by simp [swE, q1, q2, q4, q5, q7, q8]
          have e1 : swB S node ep k was now = false := by simp [swB, e0]
          have e2 : swS S node ep k was now = S := by simp [swS, e1]
          rw [q8] at hps
          rw [e0, e1, e2]
          refine rn [(21, .ret (.t (.c (iT 0)))), (23, .dec false), (28, .spec ⟨.tup [.c (.s (rdT S k)), .c (iT 0)], [], [], []⟩), (32, .dec false), (38, .spec ⟨.tup [.c (.s (pt (rdT S k) [now])), .c (iT 0)], [], [], []⟩), (42, .ret (.t (.c (iT 0)))), (44, .dec false), (46, .dec false), (50, .dec false), (69, .spec ⟨.t (.c (.b false)), [], [], []⟩), (65, .dec true)] rfl (by (repeat' (first | exact trivial | exact rfl | exact hi | exact fun _ => hi | first | exact hrd rfl rfl | exact hpt rfl | exact hfc | exact hc | exact hps rfl rfl | decide | refine And.intro ?_ ?_))) ?_
          refine Done.fold [(0, 1), (1, 2), (2, 3), (3, 4)] (diskO b (S) (wm (W)) (last)) (.p 0 0) (by repeat' (first | exact trivial | exact rfl | refine And.intro ?_ ?_)) rfl rfl (fun _ => rfl) ?_
          exact retM tysOk [(0, 8)] rfl (by repeat' (first | exact trivial | exact rfl | refine And.intro ?_ ?_)) (by repeat' (first | exact trivial | exact rfl | refine And.intro ?_ ?_)) rfl rfl
        | true =>
          have e0 : swE S node ep k was now = 0 := by simp [swE, q1, q2, q4, q5, q7, q8]
          have e1 : swB S node ep k was now = (plc (rdT S k) was == was.2) := by simp [swB, e0]
          have hok := okp_iff q4
          have wk : IntKind.i64.wrap (was.1 + (was.2.size : Nat)) = was.1 + (was.2.size : Nat) := wrap_sm (by omega) (by omega)
          rw [q8] at hps
          rw [e0]
          refine rn [(21, .ret (.t (.c (iT 0)))), (23, .dec false), (28, .spec ⟨.tup [.c (.s (rdT S k)), .c (iT 0)], [], [], []⟩), (32, .dec false), (38, .spec ⟨.tup [.c (.s (pt (rdT S k) [now])), .c (iT 0)], [], [], []⟩), (42, .ret (.t (.c (iT 0)))), (44, .dec false), (46, .dec false), (50, .dec false), (69, .spec ⟨.t (.c (.b true)), [], [], []⟩), (65, .dec false)] rfl (by (repeat' (first | exact trivial | exact rfl | exact hi | exact fun _ => hi | first | exact hrd rfl rfl | exact hpt rfl | exact hfc | exact hc | exact hps rfl rfl | (rw [wk]; omega) | omega | decide | refine And.intro ?_ ?_))) ?_
          rw [wk]
          refine ⟨fun h => ?_, fun h => ?_⟩
          · have hne : (plc (rdT S k) was == was.2) = false := by
              rw [bq]
              have : ¬ plc (rdT S k) was = was.2 := by have h' := h; simp [bt_iff2] at h'; exact h'
              exact decide_eq_false this
            rw [hne] at e1
            have e2 : swS S node ep k was now = S := by simp [swS, e1]
            rw [e1, e2]
            refine rn [] rfl (by repeat' (first | exact trivial | exact rfl | refine And.intro ?_ ?_)) ?_
            refine Done.fold [(0, 1), (1, 2), (2, 3), (3, 4)] (diskO b (S) (wm (W)) (last)) (.p 0 0) (by repeat' (first | exact trivial | exact rfl | refine And.intro ?_ ?_)) rfl rfl (fun _ => rfl) ?_
            exact retM tysOk [(0, 8)] rfl (by repeat' (first | exact trivial | exact rfl | refine And.intro ?_ ?_)) (by repeat' (first | exact trivial | exact rfl | refine And.intro ?_ ?_)) rfl rfl
          · have hne : (plc (rdT S k) was == was.2) = true := by
              rw [bq]
              have : plc (rdT S k) was = was.2 := by have h' := h; simp [bt_iff2] at h'; exact h'
              exact decide_eq_true this
            rw [hne] at e1
            have e2 : swS S node ep k was now = S.set k.toNat (pt (rdT S k) [now]) := by simp [swS, e1]
            rw [e1, e2]
            refine rn [] rfl (by (repeat' (first | exact trivial | exact rfl | exact trivial | exact fun _ => trivial | first | exact hb.1 | exact hb.2 | (show k.toNat * 1 + 1 ≤ (svs S).length; omega) | decide | refine And.intro ?_ ?_))) ?_
            refine Done.fold [(0, 1), (1, 2), (2, 3), (3, 4)] (diskO b (S.set k.toNat (pt (rdT S k) [now])) (wm W) last) (.p 0 0) ?_ rfl rfl (fun _ => rfl) ?_
            · (repeat' (first | exact trivial | exact rfl | exact trivial | exact fun _ => trivial | first | exact (List.length_set ..).symm | exact set_svs hlt | refine And.intro ?_ ?_))
            · exact retM tysOk [(0, 8)] rfl (by repeat' (first | exact trivial | exact rfl | refine And.intro ?_ ?_)) (by repeat' (first | exact trivial | exact rfl | refine And.intro ?_ ?_)) rfl rfl
end
end Cw
