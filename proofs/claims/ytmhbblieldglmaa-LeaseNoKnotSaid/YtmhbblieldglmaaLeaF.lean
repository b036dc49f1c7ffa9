/- Whether a number is among some: slices.Index, slices.Contains, the statements' holds. -/
import Derived.Test.YtmhbblieldglmaaLeaH
namespace Cw
open Go Vc
open Go.Proofs
set_option maxRecDepth 100000
theorem mem_take_succ {l : List Int} {x : Int} {k : Nat} (hk : k < l.length) (h1 : x ∉ l.take k) (h2 : l[k] ≠ x) : x ∉ l.take (k + 1) := by
  rw [List.take_succ_eq_append_getElem hk]
  simp only [List.mem_append, List.mem_singleton, not_or]
  exact ⟨h1, fun e => h2 e.symm⟩
theorem holds_h {v : TV} {l : List Int} {x : Int} {H : HL} {nx : Nat} (hs : SlR H v l.length 1 (ivs l)) (z : l.length ≤ 100000000000000) :
    FnH Try.prog 14 [v, .c (iT x)] H nx ⟨.t (.c (.b (decide (x ∈ l)))), [], [], []⟩ := by
  refine fnR (fn := Try.f14) 17 rfl rfl rfl (args' := [.c (.nm 0), .c (iT x)]) (H' := [(0, some (false, .rd 1 l.length (ivs l)))]) (nx' := 1) (fun e w M => ?_) rfl rfl rfl rfl fun w => ?_
  · obtain ⟨e', M', q1⟩ := slr1 hs e w M
    exact ⟨e', M', by simp [q1]; rfl⟩
  refine rn [] rfl (by repeat' (first | exact trivial | exact rfl | refine And.intro ?_ ?_)) ?_
  refine At.loop (X := (k : Nat) ×' (k ≤ l.length ∧ x ∉ l.take k)) 1 (fun k => l.length - k.1)
    (fun k => [(1, .t (.c (iT x))), (7, .t (.c (.nm 0))), (8, .t (.c (iT (l.length : Nat)))), (9, .t (.c (iT (k.1 : Nat))))])
    (fun _ => [(0, some (false, .rd 1 l.length (ivs l)))]) ⟨0, by omega, by simp⟩ [] (fun k => wf rfl rfl) (by repeat' (first | exact trivial | exact rfl | refine And.intro ?_ ?_)) (by repeat' (first | exact trivial | exact rfl | refine And.intro ?_ ?_)) rfl fun k => ?_
  obtain ⟨k, hk1, hk2⟩ := k
  have w2 : IntKind.i64.wrap ((k : Int) + 1) = ((k + 1 : Nat) : Int) := by rw [wrap_sm (by omega) (by omega)]; omega
  refine rn [] rfl (by repeat' (first | exact trivial | exact rfl | refine And.intro ?_ ?_)) ?_
  refine ⟨fun h => ?_, fun h => ?_⟩
  · have hlt : k < l.length := by have : (k : Int) < (l.length : Int) := of_decide_eq_true h; omega
    have e1 : (ivs l)[(k : Int).toNat * 1]? = some (.int .i64 l[k]) := by simpa using ivs_at hlt
    have b0 : (0 : Int) ≤ (k : Int) := by omega
    have b1 : (k : Int) < (l.length : Int) := by omega
    refine rn [(12, .ld [iT l[k]])] rfl (by (repeat' (first | exact trivial | exact rfl | exact e1 | exact fun _ => e1 | first | exact b0 | exact b1 | decide | refine And.intro ?_ ?_))) ?_
    refine ⟨fun h => ?_, fun h => ?_⟩
    · have he : l[k] = x := by simpa using h
      have hin : x ∈ l := he ▸ List.getElem_mem hlt
      refine rn [] rfl (by repeat' (first | exact trivial | exact rfl | refine And.intro ?_ ?_)) (roundRet ?_)
      rw [decide_eq_true hin]
      exact ret0 tysOk rfl (by repeat' (first | exact trivial | exact rfl | refine And.intro ?_ ?_)) rfl
    · have hne : l[k] ≠ x := by simpa using h
      refine rn [] rfl (by repeat' (first | exact trivial | exact rfl | refine And.intro ?_ ?_)) ?_
      exact roundEnd ⟨k + 1, by omega, mem_take_succ hlt hk2 hne⟩ [] (by show l.length - (k + 1) < l.length - k; omega) (by (repeat' (first | exact trivial | exact rfl | exact w2 | exact fun _ => w2 | refine And.intro ?_ ?_))) (by repeat' (first | exact trivial | exact rfl | refine And.intro ?_ ?_)) rfl
  · have hlt : k = l.length := by have : ¬ (k : Int) < (l.length : Int) := of_decide_eq_false h; omega
    rw [hlt, List.take_length] at hk2
    refine rn [] rfl (by repeat' (first | exact trivial | exact rfl | refine And.intro ?_ ?_)) (roundExit rfl ?_)
    refine rnA [] rfl (by repeat' (first | exact trivial | exact rfl | refine And.intro ?_ ?_)) ?_
    rw [decide_eq_false hk2]
    exact ret0 tysOk rfl (by repeat' (first | exact trivial | exact rfl | refine And.intro ?_ ?_)) rfl
def ix (x : Int) : List Int → Nat
  | [] => 0
  | y :: l => if y = x then 0 else ix x l + 1
theorem ix_at {x : Int} : ∀ {l : List Int} {k : Nat}, x ∉ l.take k → l[k]? = some x → ix x l = k
  | [], k, _, h => by simp at h
  | y :: l, 0, _, h => by
    have : y = x := by simpa using h
    simp [ix, this]
  | y :: l, k + 1, h1, h2 => by
    have h3 : x ≠ y ∧ x ∉ l.take k := by simpa [List.take_succ_cons] using h1
    have h4 : y ≠ x := fun e => h3.1 e.symm
    rw [ix, if_neg h4, ix_at h3.2 (by simpa using h2)]
def ixI (x : Int) (l : List Int) : Int := if x ∈ l then (ix x l : Nat) else -1
theorem index_h {v : TV} {l : List Int} {x : Int} {H : HL} {nx : Nat} (hs : SlR H v l.length 1 (ivs l)) (z : l.length ≤ 100000000000000) :
    FnH Try.prog 21 [v, .c (iT x)] H nx ⟨.t (.c (iT (ixI x l))), [], [], []⟩ := by
  refine fnR (fn := Try.f21) 19 rfl rfl rfl (args' := [.c (.nm 0), .c (iT x)]) (H' := [(0, some (false, .rd 1 l.length (ivs l)))]) (nx' := 1) (fun e w M => ?_) rfl rfl rfl rfl fun w => ?_
  · obtain ⟨e', M', q1⟩ := slr1 hs e w M
    exact ⟨e', M', by simp [q1]; rfl⟩
  refine rn [] rfl (by repeat' (first | exact trivial | exact rfl | refine And.intro ?_ ?_)) ?_
  refine At.loop (X := (k : Nat) ×' (k ≤ l.length ∧ x ∉ l.take k)) 1 (fun k => l.length - k.1)
    (fun k => [(0, .t (.c (.nm 0))), (1, .t (.c (iT x))), (7, .t (.c (iT (l.length : Nat)))), (8, .t (.c (iT (k.1 : Nat))))])
    (fun _ => [(0, some (false, .rd 1 l.length (ivs l)))]) ⟨0, by omega, by simp⟩ [] (fun k => wf rfl rfl) (by repeat' (first | exact trivial | exact rfl | refine And.intro ?_ ?_)) (by repeat' (first | exact trivial | exact rfl | refine And.intro ?_ ?_)) rfl fun k => ?_
  obtain ⟨k, hk1, hk2⟩ := k
  have w2 : IntKind.i64.wrap ((k : Int) + 1) = ((k + 1 : Nat) : Int) := by rw [wrap_sm (by omega) (by omega)]; omega
  refine rn [] rfl (by repeat' (first | exact trivial | exact rfl | refine And.intro ?_ ?_)) ?_
  refine ⟨fun h => ?_, fun h => ?_⟩
  · have hlt : k < l.length := by have : (k : Int) < (l.length : Int) := of_decide_eq_true h; omega
    have e1 : (ivs l)[(k : Int).toNat * 1]? = some (.int .i64 l[k]) := by simpa using ivs_at hlt
    have b0 : (0 : Int) ≤ (k : Int) := by omega
    have b1 : (k : Int) < (l.length : Int) := by omega
    refine rn [(15, .ld [iT l[k]])] rfl (by (repeat' (first | exact trivial | exact rfl | exact e1 | exact fun _ => e1 | first | exact b0 | exact b1 | decide | refine And.intro ?_ ?_))) ?_
    refine ⟨fun h => ?_, fun h => ?_⟩
    · have he : x = l[k] := by simpa using h
      have hin : x ∈ l := he ▸ List.getElem_mem hlt
      have hi : ixI x l = (k : Int) := by rw [ixI, if_pos hin, ix_at hk2 (by rw [List.getElem?_eq_getElem hlt, he])]
      refine rn [] rfl (by repeat' (first | exact trivial | exact rfl | refine And.intro ?_ ?_)) (roundRet ?_)
      rw [hi]
      exact ret0 tysOk rfl (by repeat' (first | exact trivial | exact rfl | refine And.intro ?_ ?_)) rfl
    · have hne : l[k] ≠ x := by
        have : ¬ x = l[k] := by simpa using h
        exact fun e => this e.symm
      refine rn [] rfl (by repeat' (first | exact trivial | exact rfl | refine And.intro ?_ ?_)) ?_
      exact roundEnd ⟨k + 1, by omega, mem_take_succ hlt hk2 hne⟩ [] (by show l.length - (k + 1) < l.length - k; omega) (by (repeat' (first | exact trivial | exact rfl | exact w2 | exact fun _ => w2 | refine And.intro ?_ ?_))) (by repeat' (first | exact trivial | exact rfl | refine And.intro ?_ ?_)) rfl
  · have hlt : k = l.length := by have : ¬ (k : Int) < (l.length : Int) := of_decide_eq_false h; omega
    rw [hlt, List.take_length] at hk2
    refine rn [] rfl (by repeat' (first | exact trivial | exact rfl | refine And.intro ?_ ?_)) (roundExit rfl ?_)
    refine rnA [] rfl (by repeat' (first | exact trivial | exact rfl | refine And.intro ?_ ?_)) ?_
    rw [ixI, if_neg hk2]
    exact ret0 tysOk rfl (by repeat' (first | exact trivial | exact rfl | refine And.intro ?_ ?_)) rfl
theorem contains_h {v : TV} {l : List Int} {x : Int} {H : HL} {nx : Nat} (hs : SlR H v l.length 1 (ivs l)) (z : l.length ≤ 100000000000000) :
    FnH Try.prog 18 [v, .c (iT x)] H nx ⟨.t (.c (.b (decide (x ∈ l)))), [], [], []⟩ := by
  refine fnR (fn := Try.f18) 9 rfl rfl rfl (args' := [.c (.nm 0), .c (iT x)]) (H' := [(0, some (false, .rd 1 l.length (ivs l)))]) (nx' := 1) (fun e w M => ?_) rfl rfl rfl rfl fun w => ?_
  · obtain ⟨e', M', q1⟩ := slr1 hs e w M
    exact ⟨e', M', by simp [q1]; rfl⟩
  have hd : decide (x ∈ l) = decide (ixI x l ≥ 0) := by
    by_cases h : x ∈ l
    · rw [ixI, if_pos h, decide_eq_true h]; exact (decide_eq_true (by omega)).symm
    · rw [ixI, if_neg h, decide_eq_false h]; exact (decide_eq_false (by omega)).symm
  rw [hd]
  refine rn [(7, .spec ⟨.t (.c (iT (ixI x l))), [], [], []⟩)] rfl (by (repeat' (first | exact trivial | exact rfl | exact index_h (SlR.rd rfl) z | exact fun _ => index_h (SlR.rd rfl) z | refine And.intro ?_ ?_))) ?_
  exact ret0 tysOk rfl (by repeat' (first | exact trivial | exact rfl | refine And.intro ?_ ?_)) rfl
end Cw
