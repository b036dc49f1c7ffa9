/- Slices that come in, for the walk by reckoning; lists of texts that are the same. -/
import Derived.Test.YtjnbdhgkoolhnaaGreatVcRun
namespace Cw
open Go Vc
open Go.Proofs
set_option maxRecDepth 100000
/-- A value is a slice of so many elements, of these cells, that may be read. -/
def SlR (H : HL) (v : TV) (n s : Nat) (xs : List Value) : Prop := ∀ e w, MemOk H e w → ∃ A c, v.den e = .slice A n c ∧ Vc.Rds w A n c s xs ∧ ∀ a, A = some a → 0 < xs.length → a.block < w.heap.size
theorem SlR.own {H : HL} {k : Nat} {b : Bool} {T : TypeId} {n s : Nat} {xs : List Value} (hk : lookH H k = some (b, .own T s n xs)) : SlR H (.c (.nm k)) n s xs := by
  intro e w M
  obtain ⟨⟨hown, hfp⟩, hlt⟩ := M.ob k b _ hk
  have hob : (Ob.rd s n xs).holds (e.ren []) k w := Ob.eqs_ok (o := .own T s n xs) (ρ := []) (by repeat' (first | exact trivial | exact rfl | refine And.intro ?_ ?_)) ⟨hown, hfp⟩
  obtain ⟨A1, c1, q1, q2, q3⟩ := hob
  exact ⟨A1, c1, q1, q2, fun a ha h0 => hlt _ (q3 a ha h0)⟩
theorem SlR.rd {H : HL} {k : Nat} {b : Bool} {n s : Nat} {xs : List Value} (hk : lookH H k = some (b, .rd s n xs)) : SlR H (.c (.nm k)) n s xs := by
  intro e w M
  obtain ⟨⟨A1, c1, q1, q2, q3⟩, hlt⟩ := M.ob k b _ hk
  exact ⟨A1, c1, q1, q2, fun a ha h0 => hlt _ (q3 a ha h0)⟩
theorem SlR.nil {H : HL} {s : Nat} : SlR H (.c .nsl) 0 s [] := fun e w _ => ⟨none, 0, rfl, ⟨by simp, by decide, by decide, fun _ => rfl, fun j u hu => by simp at hu⟩, fun a ha => (by cases ha)⟩
/-- One slice, under the name 0. -/
theorem slr1 {H : HL} {v : TV} {n s : Nat} {xs : List Value} (h : SlR H v n s xs) : ∀ e w, MemOk H e w → ∃ e', Mem (fun _ => False) [(0, some (false, .rd s n xs))] e' w ∧ v.den e = (TV.c (.nm 0)).den e' := by
  intro e w M
  obtain ⟨A, c, h1, h2, h3⟩ := h e w M
  refine ⟨⟨e.blk, fun _ => .slice A n c, fun _ g => ∃ a, A = some a ∧ 0 < xs.length ∧ g = a.block, fun _ => rfl⟩, ⟨fun m b o hm => ?_, fun m o k c' q hm hk => ?_⟩, h1⟩
  · rw [lookH_cons] at hm
    split at hm
    · cases hm
      exact ⟨⟨A, c, rfl, h2, fun a ha h0 => ⟨a, ha, h0, rfl⟩⟩, fun g ⟨a, ha, h0, hg⟩ => ⟨hg ▸ h3 a ha h0, fun h => by cases h⟩⟩
    · cases hm
  · rw [lookH_cons] at hm
    split at hm
    · cases hm
    · cases hm
/-- Two slices, under the names 0 and 1. -/
theorem slr2 {H : HL} {v1 v2 : TV} {n1 n2 s1 s2 : Nat} {xs1 xs2 : List Value} (ha : SlR H v1 n1 s1 xs1) (hb : SlR H v2 n2 s2 xs2) : ∀ e w, MemOk H e w → ∃ e', Mem (fun _ => False) [(0, some (false, .rd s1 n1 xs1)), (1, some (false, .rd s2 n2 xs2))] e' w ∧ v1.den e = (TV.c (.nm 0)).den e' ∧ v2.den e = (TV.c (.nm 1)).den e' := by
  intro e w M
  obtain ⟨A1, c1, a1, a2, a3⟩ := ha e w M
  obtain ⟨A2, c2, b1, b2, b3⟩ := hb e w M
  refine ⟨⟨e.blk, fun m => if m = 0 then .slice A1 n1 c1 else .slice A2 n2 c2, fun m g => if m = 0 then ∃ a, A1 = some a ∧ 0 < xs1.length ∧ g = a.block else ∃ a, A2 = some a ∧ 0 < xs2.length ∧ g = a.block, fun m => by
      show (if m = 0 then Value.slice A1 n1 c1 else .slice A2 n2 c2).oneCell' = true
      split <;> rfl⟩, ⟨fun n b o h => ?_, fun n o m c q h => ?_⟩, a1, b1⟩
  · rw [lookH_cons] at h
    split at h
    · rename_i hn
      cases h
      subst hn
      exact ⟨⟨A1, c1, rfl, a2, fun a ha h0 => ⟨a, ha, h0, rfl⟩⟩, fun g ⟨a, ha, h0, hg⟩ => ⟨hg ▸ a3 a ha h0, fun h => by cases h⟩⟩
    · rw [lookH_cons] at h
      split at h
      · rename_i hn
        cases h
        subst hn
        exact ⟨⟨A2, c2, rfl, b2, fun a ha h0 => ⟨a, ha, h0, rfl⟩⟩, fun g ⟨a, ha, h0, hg⟩ => ⟨hg ▸ b3 a ha h0, fun h => by cases h⟩⟩
      · cases h
  · rw [lookH_cons] at h
    split at h
    · cases h
    · rw [lookH_cons] at h
      split at h
      · cases h
      · cases h
theorem wrap_sm {x : Int} (h0 : -1000000000000000 ≤ x) (h1 : x ≤ 1000000000000000) : IntKind.i64.wrap x = x := by rw [IntKind.wrap_i64]; omega
def svs (l : List ByteArray) : List Value := l.map Value.string
theorem svs_length (l : List ByteArray) : (svs l).length = l.length := by simp [svs]
theorem svs_at {l : List ByteArray} {k : Nat} (h : k < l.length) : (svs l)[k]? = some (.string l[k]) := by simp [svs, h]
theorem sameInts_h {v1 v2 : TV} {l1 l2 : List Int} {H : HL} {nx : Nat} (h1 : SlR H v1 l1.length 1 (ivs l1)) (h2 : SlR H v2 l2.length 1 (ivs l2)) (z : l1.length ≤ 100000000000000) :
    FnH Tryz.prog 24 [v1, v2] H nx ⟨.t (.c (.b (decide (l1 = l2)))), [], [], []⟩ := by
  refine fnR (fn := Tryz.f24) 26 rfl rfl rfl (args' := [.c (.nm 0), .c (.nm 1)]) (H' := [(0, some (false, .rd 1 l1.length (ivs l1))), (1, some (false, .rd 1 l2.length (ivs l2)))]) (nx' := 2) (fun e w M => ?_) rfl rfl rfl rfl fun w => ?_
  · obtain ⟨e', M', q1, q2⟩ := slr2 h1 h2 e w M
    exact ⟨e', M', by simp [q1, q2]⟩
  refine rn [] rfl (by repeat' (first | exact trivial | exact rfl | refine And.intro ?_ ?_)) ?_
  refine ⟨fun h => ?_, fun h => ?_⟩
  · have hne : l1 ≠ l2 := fun e => by subst e; simp at h
    refine rn [] rfl (by repeat' (first | exact trivial | exact rfl | refine And.intro ?_ ?_)) ?_
    rw [decide_eq_false hne]
    exact ret0 tysOk rfl (by repeat' (first | exact trivial | exact rfl | refine And.intro ?_ ?_)) rfl
  have hl : l1.length = l2.length := by simp at h; omega
  clear h
  refine rn [] rfl (by repeat' (first | exact trivial | exact rfl | refine And.intro ?_ ?_)) ?_
  refine At.loop (X := (k : Nat) ×' (k ≤ l1.length ∧ l1.take k = l2.take k)) 2 (fun k => l1.length - k.1)
    (fun k => [(0, .t (.c (.nm 0))), (1, .t (.c (.nm 1))), (5, .t (.c (iT (k.1 : Nat))))])
    (fun _ => [(0, some (false, .rd 1 l1.length (ivs l1))), (1, some (false, .rd 1 l2.length (ivs l2)))]) ⟨0, by omega, rfl⟩ [] (fun k => wf rfl rfl) (by repeat' (first | exact trivial | exact rfl | refine And.intro ?_ ?_)) (by repeat' (first | exact trivial | exact rfl | refine And.intro ?_ ?_)) rfl fun k => ?_
  obtain ⟨k, hk1, hk2⟩ := k
  have w2 : IntKind.i64.wrap ((k : Int) + 1) = ((k + 1 : Nat) : Int) := by rw [wrap_sm (by omega) (by omega)]; omega
  refine rn [] rfl (by repeat' (first | exact trivial | exact rfl | refine And.intro ?_ ?_)) ?_
  refine ⟨fun h => ?_, fun h => ?_⟩
  · have hlt : k < l1.length := by have : (k : Int) < (l1.length : Int) := of_decide_eq_true h; omega
    have hlt2 : k < l2.length := by omega
    have e1 : (ivs l1)[(k : Int).toNat * 1]? = some (.int .i64 l1[k]) := by simpa using ivs_at hlt
    have e2 : (ivs l2)[(k : Int).toNat * 1]? = some (.int .i64 l2[k]) := by simpa using ivs_at hlt2
    have b0 : (0 : Int) ≤ (k : Int) := by omega
    have b1 : (k : Int) < (l1.length : Int) := by omega
    have b2 : (k : Int) < (l2.length : Int) := by omega
    refine rn [(20, .ld [iT l1[k]]), (24, .ld [iT l2[k]])] rfl (by (repeat' (first | exact trivial | exact rfl | exact e1 | exact fun _ => e1 | first | exact e2 | exact b0 | exact b1 | exact b2 | decide | refine And.intro ?_ ?_))) ?_
    refine ⟨fun h => ?_, fun h => ?_⟩
    · have hne : l1 ≠ l2 := fun e => by subst e; simp at h
      refine rn [] rfl (by repeat' (first | exact trivial | exact rfl | refine And.intro ?_ ?_)) (roundRet ?_)
      rw [decide_eq_false hne]
      exact ret0 tysOk rfl (by repeat' (first | exact trivial | exact rfl | refine And.intro ?_ ?_)) rfl
    · have he : l1[k] = l2[k] := by simpa using h
      refine rn [] rfl (by repeat' (first | exact trivial | exact rfl | refine And.intro ?_ ?_)) ?_
      refine roundEnd ⟨k + 1, by omega, by rw [List.take_succ_eq_append_getElem hlt, List.take_succ_eq_append_getElem hlt2, hk2, he]⟩ [] (by show l1.length - (k + 1) < l1.length - k; omega) (by (repeat' (first | exact trivial | exact rfl | exact w2 | exact fun _ => w2 | refine And.intro ?_ ?_))) (by repeat' (first | exact trivial | exact rfl | refine And.intro ?_ ?_)) rfl
  · have hlt : k = l1.length := by have : ¬ (k : Int) < (l1.length : Int) := of_decide_eq_false h; omega
    have he : l1 = l2 := by
      rw [hlt, List.take_length] at hk2
      rw [hl, List.take_length] at hk2
      exact hk2
    refine rn [] rfl (by repeat' (first | exact trivial | exact rfl | refine And.intro ?_ ?_)) (roundExit rfl ?_)
    refine rnA [] rfl (by repeat' (first | exact trivial | exact rfl | refine And.intro ?_ ?_)) ?_
    rw [decide_eq_true he]
    exact ret0 tysOk rfl (by repeat' (first | exact trivial | exact rfl | refine And.intro ?_ ?_)) rfl
theorem equalTexts_h {v1 v2 : TV} {l1 l2 : List ByteArray} {H : HL} {nx : Nat} (h1 : SlR H v1 l1.length 1 (svs l1)) (h2 : SlR H v2 l2.length 1 (svs l2)) (z : l1.length ≤ 100000000000000) :
    FnH Tryz.prog 102 [v1, v2] H nx ⟨.t (.c (.b (decide (l1 = l2)))), [], [], []⟩ := by
  refine fnR (fn := Tryz.f102) 26 rfl rfl rfl (args' := [.c (.nm 0), .c (.nm 1)]) (H' := [(0, some (false, .rd 1 l1.length (svs l1))), (1, some (false, .rd 1 l2.length (svs l2)))]) (nx' := 2) (fun e w M => ?_) rfl rfl rfl rfl fun w => ?_
  · obtain ⟨e', M', q1, q2⟩ := slr2 h1 h2 e w M
    exact ⟨e', M', by simp [q1, q2]⟩
  refine rn [] rfl (by repeat' (first | exact trivial | exact rfl | refine And.intro ?_ ?_)) ?_
  refine ⟨fun h => ?_, fun h => ?_⟩
  · have hne : l1 ≠ l2 := fun e => by subst e; simp at h
    refine rn [] rfl (by repeat' (first | exact trivial | exact rfl | refine And.intro ?_ ?_)) ?_
    rw [decide_eq_false hne]
    exact ret0 tysOk rfl (by repeat' (first | exact trivial | exact rfl | refine And.intro ?_ ?_)) rfl
  have hl : l1.length = l2.length := by simp at h; omega
  clear h
  refine rn [] rfl (by repeat' (first | exact trivial | exact rfl | refine And.intro ?_ ?_)) ?_
  refine At.loop (X := (k : Nat) ×' (k ≤ l1.length ∧ l1.take k = l2.take k)) 2 (fun k => l1.length - k.1)
    (fun k => [(0, .t (.c (.nm 0))), (1, .t (.c (.nm 1))), (12, .t (.c (iT (l1.length : Nat)))), (13, .t (.c (iT (k.1 : Nat))))])
    (fun _ => [(0, some (false, .rd 1 l1.length (svs l1))), (1, some (false, .rd 1 l2.length (svs l2)))]) ⟨0, by omega, rfl⟩ [] (fun k => wf rfl rfl) (by repeat' (first | exact trivial | exact rfl | refine And.intro ?_ ?_)) (by repeat' (first | exact trivial | exact rfl | refine And.intro ?_ ?_)) rfl fun k => ?_
  obtain ⟨k, hk1, hk2⟩ := k
  have w2 : IntKind.i64.wrap ((k : Int) + 1) = ((k + 1 : Nat) : Int) := by rw [wrap_sm (by omega) (by omega)]; omega
  refine rn [] rfl (by repeat' (first | exact trivial | exact rfl | refine And.intro ?_ ?_)) ?_
  refine ⟨fun h => ?_, fun h => ?_⟩
  · have hlt : k < l1.length := by have : (k : Int) < (l1.length : Int) := of_decide_eq_true h; omega
    have hlt2 : k < l2.length := by omega
    have e1 : (svs l1)[(k : Int).toNat * 1]? = some (.string l1[k]) := by simpa using svs_at hlt
    have e2 : (svs l2)[(k : Int).toNat * 1]? = some (.string l2[k]) := by simpa using svs_at hlt2
    have b0 : (0 : Int) ≤ (k : Int) := by omega
    have b1 : (k : Int) < (l1.length : Int) := by omega
    have b2 : (k : Int) < (l2.length : Int) := by omega
    refine rn [(19, .ld [.s l1[k]]), (23, .ld [.s l2[k]])] rfl (by (repeat' (first | exact trivial | exact rfl | exact e1 | exact fun _ => e1 | first | exact e2 | exact b0 | exact b1 | exact b2 | decide | refine And.intro ?_ ?_))) ?_
    refine ⟨fun h => ?_, fun h => ?_⟩
    · have hne : l1 ≠ l2 := fun e => by subst e; simp at h
      refine rn [] rfl (by repeat' (first | exact trivial | exact rfl | refine And.intro ?_ ?_)) (roundRet ?_)
      rw [decide_eq_false hne]
      exact ret0 tysOk rfl (by repeat' (first | exact trivial | exact rfl | refine And.intro ?_ ?_)) rfl
    · have he : l1[k] = l2[k] := by simp [bt_iff2] at h; exact h
      refine rn [] rfl (by repeat' (first | exact trivial | exact rfl | refine And.intro ?_ ?_)) ?_
      refine roundEnd ⟨k + 1, by omega, by rw [List.take_succ_eq_append_getElem hlt, List.take_succ_eq_append_getElem hlt2, hk2, he]⟩ [] (by show l1.length - (k + 1) < l1.length - k; omega) (by (repeat' (first | exact trivial | exact rfl | exact w2 | exact fun _ => w2 | refine And.intro ?_ ?_))) (by repeat' (first | exact trivial | exact rfl | refine And.intro ?_ ?_)) rfl
  · have hlt : k = l1.length := by have : ¬ (k : Int) < (l1.length : Int) := of_decide_eq_false h; omega
    have he : l1 = l2 := by
      rw [hlt, List.take_length] at hk2
      rw [hl, List.take_length] at hk2
      exact hk2
    refine rn [] rfl (by repeat' (first | exact trivial | exact rfl | refine And.intro ?_ ?_)) (roundExit rfl ?_)
    refine rnA [] rfl (by repeat' (first | exact trivial | exact rfl | refine And.intro ?_ ?_)) ?_
    rw [decide_eq_true he]
    exact ret0 tysOk rfl (by repeat' (first | exact trivial | exact rfl | refine And.intro ?_ ?_)) rfl
theorem rds_lt {w : World} {A : Option Addr} {n c s : Nat} {xs : List Value} (h : Vc.Rds w A n c s xs) : ∀ a, A = some a → 0 < xs.length → a.block < w.heap.size := by
  intro a ha h0
  obtain ⟨u, hu⟩ : ∃ u, xs[0]? = some u := ⟨_, List.getElem?_eq_getElem h0⟩
  obtain ⟨a', ha', hc⟩ := h.2.2.2.2 0 u hu
  rw [ha] at ha'
  cases ha'
  rcases Nat.lt_or_ge (a.add 0).block w.heap.size with h1 | h1
  · rwa [addr_blk] at h1
  · unfold World.cell? at hc
    rw [Array.getElem?_eq_none h1] at hc
    cases hc
/-- Slices that come in, under the names 0 (and 1). -/
theorem memr1 {w : World} {A : Option Addr} {n c s : Nat} {xs : List Value} (h : Vc.Rds w A n c s xs) : ∃ e : Env, MemOk [(0, some (false, .rd s n xs))] e w ∧ e.val 0 = .slice A n c := by
  refine ⟨⟨fun _ => 0, fun _ => .slice A n c, fun _ g => ∃ a, A = some a ∧ 0 < xs.length ∧ g = a.block, fun _ => rfl⟩, ⟨fun m b o hm => ?_, fun m o k c' q hm hk => ?_⟩, rfl⟩
  · rw [lookH_cons] at hm
    split at hm
    · cases hm
      exact ⟨⟨A, c, rfl, h, fun a ha h0 => ⟨a, ha, h0, rfl⟩⟩, fun g ⟨a, ha, h0, hg⟩ => hg ▸ rds_lt h a ha h0⟩
    · cases hm
  · rw [lookH_cons] at hm
    split at hm
    · cases hm
    · cases hm
/-- A law that is true, called with values. -/
theorem fnh_law {f : FuncId} {args : List TV} {H : HL} {nx : Nat} (h : FnH Tryz.prog f args H nx ⟨.t (.c (.b true)), [], [], []⟩) (hW : wfH nx H = true) (hA : args.all (fun v => ltAll nx v.ns) = true) {e : Env} {w : World} (M : MemOk H e w) :
    Calls Tryz.prog f (args.map (TV.den e)).toArray w fun en w' => en = .returned (.bool true) ∧ RowKit.Below w.heap.size w w' := by
  refine Calls.mono (h.h (wfH_ok hW) (fun v hv => ltAll_mem (List.all_eq_true.1 hA v hv)) e w M) ?_
  rintro en w' ⟨e', rfl, M'⟩
  exact ⟨rfl, ⟨M'.os, M'.tape, M'.out, M'.size, fun g hg => M'.block g hg fun n o ho => by cases ho⟩⟩
end Cw
