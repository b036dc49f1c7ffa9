/- inode.List, SameInts, by reckoning. -/
import Derived.Test.YtigaallhjlmhbaaInoL
namespace Cw
open Go Vc
open Go.Proofs
set_option maxRecDepth 100000
def item (s : ByteArray) (i : Nat) : Int := (getn s (2 * (i : Int)) 2 : Nat)
def items (s : ByteArray) (k : Nat) : List Int := (List.range k).map (item s)
def ivs (l : List Int) : List Value := l.map (Value.int .i64)
theorem items_succ (s : ByteArray) (k : Nat) : items s (k + 1) = items s k ++ [item s k] := by simp [items, List.range_succ]
def lok (a b c : Int) (s : ByteArray) : Prop := s.size = 64 ∧ (items s 32).all (okb a b c) = true
instance (a b c : Int) (s : ByteArray) : Decidable (lok a b c s) := by unfold lok; infer_instance
theorem ivs_length (l : List Int) : (ivs l).length = l.length := by simp [ivs]
theorem items_length (s : ByteArray) (k : Nat) : (items s k).length = k := by simp [items]
theorem ilist_h (a b c : Int) (s : ByteArray) (hs : s.size ≤ 9223372036854775807) (hg : Gok a b c) (hk : lok a b c s) {H : HL} {nx : Nat} :
    FnH Try.prog 43 [geoT a b c, .c (.s s)] H nx ⟨.tup [.c (.nm nx), .c (iT 0)], [(true, .own 3 1 32 (ivs (items s 32)))], [], []⟩ := by
  have hc : gcheck a b c = 0 := by simp [gcheck, hg]
  refine fnN (fn := Try.f43) 39 rfl rfl rfl (args' := [geoT a b c, .c (.s s)]) (H' := H0) (nx' := 1) (fun e w M => ⟨e0, mem0 w, rfl⟩) rfl rfl rfl (inR_one nx) rfl fun w => ?_
  refine rn [(12, .ret (.t (.c (iT 0)))), (14, .dec false), (18, .dec false)] rfl (by (repeat' (first | exact trivial | exact rfl | exact hc ▸ check0 a b c | exact fun _ => hc ▸ check0 a b c | simp [hk.1] | refine And.intro ?_ ?_))) ?_
  refine At.unroll ?_
  refine rn [(20, .dec true), (26, .ret (.tup [.c (iT (getn s 0 2 : Nat)), .c (iT (gete s.size 0 2))]))] rfl (by (repeat' (first | exact trivial | exact rfl | exact get0 s 0 2 hs | exact fun _ => get0 s 0 2 hs | decide | refine And.intro ?_ ?_))) ?_
  refine nextLoop (X := (k : Nat) ×' (1 ≤ k ∧ k ≤ 32)) 4 (fun k => 32 - k.1)
    (fun k => [(1, .t (.c (.s s))), (2, .t (.c (.p 1 0))), (19, .t (.c (iT (k.1 : Nat)))), (7, .t (.c (.nm 3)))])
    (fun k => [(1, some (true, .cells [iT a, iT b, iT c] 34)), (3, some (true, .own 3 1 k.1 (ivs (items s k.1))))]) ⟨1, by omega, by omega⟩ [] (fun k => wf rfl rfl) (by repeat' (first | exact trivial | exact rfl | refine And.intro ?_ ?_)) (by repeat' (first | exact trivial | exact rfl | refine And.intro ?_ ?_)) rfl fun k => ?_
  obtain ⟨k, hk1, hk2⟩ := k
  have w1 : IntKind.i64.wrap (2 * (k : Int)) = 2 * (k : Int) := wrap_small (by omega) (by omega)
  have w2 : IntKind.i64.wrap ((k : Int) + 1) = ((k + 1 : Nat) : Int) := by rw [wrap_small (by omega) (by omega)]; omega
  refine rn [] rfl (by repeat' (first | exact trivial | exact rfl | refine And.intro ?_ ?_)) ?_
  refine ⟨fun h => ?_, fun h => ?_⟩
  · have hlt : k < 32 := by have : (k : Int) < 32 := of_decide_eq_true h; omega
    refine rn [(26, .ret (.tup [.c (iT (getn s (IntKind.i64.wrap (2 * (k : Int))) 2 : Nat)), .c (iT (gete s.size (IntKind.i64.wrap (2 * (k : Int))) 2))]))] rfl (by (repeat' (first | exact trivial | exact rfl | exact get0 s _ 2 hs | exact fun _ => get0 s _ 2 hs | first | decide | (simp only [maxLen]; omega) | omega | refine And.intro ?_ ?_))) ?_
    refine roundEnd ⟨k + 1, by omega, by omega⟩ [(3, 5)] (by show 32 - (k + 1) < 32 - k; omega) (by (repeat' (first | exact trivial | exact rfl | exact w2 | exact fun _ => w2 | refine And.intro ?_ ?_))) ?_ rfl
    repeat' (first | exact trivial | exact rfl | refine And.intro ?_ ?_)
    rw [app_eq, w1, items_succ]
    simp [ivs, item, CV.den]
  · have hlt : k = 32 := by have : ¬ (k : Int) < 32 := of_decide_eq_false h; omega
    subst hlt
    refine rn [] rfl (by repeat' (first | exact trivial | exact rfl | refine And.intro ?_ ?_)) (roundExit rfl ?_)
    refine rnA [(36, .spec ⟨.t (.c (.b true)), [], [], []⟩), (37, .dec false)] rfl (by (repeat' (first | exact trivial | exact rfl | exact trivial | exact fun _ => trivial | exact hk.2 ▸ blocks_h a b c (items s 32) (by rw [items_length]; decide) (by rw [items_length]; decide) rfl rfl | refine And.intro ?_ ?_))) ?_
    exact retN tysOk [(nx, 3)] rfl (by simp only [retS, SV.eqs, eqsT, TV.eqs, CV.eqs, ren_one]; repeat' (first | exact trivial | exact rfl | refine And.intro ?_ ?_)) (by simp only [newsH, subH, ren_one]; repeat' (first | exact trivial | exact rfl | refine And.intro ?_ ?_)) (by simp [injK, keysH, newsH, inL]) rfl
theorem ilist_no (a b c : Int) (s : ByteArray) (hs : s.size ≤ 9223372036854775807) (hn : ¬ (Gok a b c ∧ lok a b c s)) : Fn0 Try.prog 43 [geoT a b c, .c (.s s)] (.tup [.c .nsl, .c (iT (if Gok a b c then 60 else 4))]) := by
  refine fn0 (fn := Try.f43) 39 rfl rfl rfl rfl rfl fun w => ?_
  by_cases hg : Gok a b c
  · have hc : gcheck a b c = 0 := by simp [gcheck, hg]
    rw [if_pos hg]
    by_cases hz : s.size = 64
    · have hb : (items s 32).all (okb a b c) = false := by
        cases h : (items s 32).all (okb a b c)
        · rfl
        · exact absurd ⟨hg, hz, h⟩ hn
      refine rn [(12, .ret (.t (.c (iT 0)))), (14, .dec false), (18, .dec false)] rfl (by (repeat' (first | exact trivial | exact rfl | exact hc ▸ check0 a b c | exact fun _ => hc ▸ check0 a b c | simp [hz] | refine And.intro ?_ ?_))) ?_
      refine At.unroll ?_
      refine rn [(20, .dec true), (26, .ret (.tup [.c (iT (getn s 0 2 : Nat)), .c (iT (gete s.size 0 2))]))] rfl (by (repeat' (first | exact trivial | exact rfl | exact get0 s 0 2 hs | exact fun _ => get0 s 0 2 hs | decide | refine And.intro ?_ ?_))) ?_
      refine nextLoop (X := (k : Nat) ×' (1 ≤ k ∧ k ≤ 32)) 4 (fun k => 32 - k.1)
        (fun k => [(1, .t (.c (.s s))), (2, .t (.c (.p 1 0))), (19, .t (.c (iT (k.1 : Nat)))), (7, .t (.c (.nm 3)))])
        (fun k => [(1, some (true, .cells [iT a, iT b, iT c] 34)), (3, some (true, .own 3 1 k.1 (ivs (items s k.1))))]) ⟨1, by omega, by omega⟩ [] (fun k => wf rfl rfl) (by repeat' (first | exact trivial | exact rfl | refine And.intro ?_ ?_)) (by repeat' (first | exact trivial | exact rfl | refine And.intro ?_ ?_)) rfl fun k => ?_
      obtain ⟨k, hk1, hk2⟩ := k
      have w1 : IntKind.i64.wrap (2 * (k : Int)) = 2 * (k : Int) := wrap_small (by omega) (by omega)
      have w2 : IntKind.i64.wrap ((k : Int) + 1) = ((k + 1 : Nat) : Int) := by rw [wrap_small (by omega) (by omega)]; omega
      refine rn [] rfl (by repeat' (first | exact trivial | exact rfl | refine And.intro ?_ ?_)) ?_
      refine ⟨fun h => ?_, fun h => ?_⟩
      · have hlt : k < 32 := by have : (k : Int) < 32 := of_decide_eq_true h; omega
        refine rn [(26, .ret (.tup [.c (iT (getn s (IntKind.i64.wrap (2 * (k : Int))) 2 : Nat)), .c (iT (gete s.size (IntKind.i64.wrap (2 * (k : Int))) 2))]))] rfl (by (repeat' (first | exact trivial | exact rfl | exact get0 s _ 2 hs | exact fun _ => get0 s _ 2 hs | first | decide | (simp only [maxLen]; omega) | omega | refine And.intro ?_ ?_))) ?_
        refine roundEnd ⟨k + 1, by omega, by omega⟩ [(3, 5)] (by show 32 - (k + 1) < 32 - k; omega) (by (repeat' (first | exact trivial | exact rfl | exact w2 | exact fun _ => w2 | refine And.intro ?_ ?_))) ?_ rfl
        repeat' (first | exact trivial | exact rfl | refine And.intro ?_ ?_)
        rw [app_eq, w1, items_succ]
        simp [ivs, item, CV.den]
      · have hlt : k = 32 := by have : ¬ (k : Int) < 32 := of_decide_eq_false h; omega
        subst hlt
        refine rn [] rfl (by repeat' (first | exact trivial | exact rfl | refine And.intro ?_ ?_)) (roundExit rfl ?_)
        refine rnA [(36, .spec ⟨.t (.c (.b false)), [], [], []⟩), (37, .dec true)] rfl (by (repeat' (first | exact trivial | exact rfl | exact trivial | exact fun _ => trivial | exact hb ▸ blocks_h a b c (items s 32) (by rw [items_length]; decide) (by rw [items_length]; decide) rfl rfl | refine And.intro ?_ ?_))) ?_
        exact ret0 tysOk rfl (by repeat' (first | exact trivial | exact rfl | refine And.intro ?_ ?_)) rfl
    · refine rn [(12, .ret (.t (.c (iT 0)))), (14, .dec false), (18, .dec true)] rfl (by (repeat' (first | exact trivial | exact rfl | exact hc ▸ check0 a b c | exact fun _ => hc ▸ check0 a b c | (simp; omega) | refine And.intro ?_ ?_))) ?_
      exact ret0 tysOk rfl (by repeat' (first | exact trivial | exact rfl | refine And.intro ?_ ?_)) rfl
  · have hc : gcheck a b c = 4 := by simp [gcheck, hg]
    rw [if_neg hg]
    refine rn [(12, .ret (.t (.c (iT 4)))), (14, .dec true)] rfl (by (repeat' (first | exact trivial | exact rfl | exact hc ▸ check0 a b c | exact fun _ => hc ▸ check0 a b c | refine And.intro ?_ ?_))) ?_
    exact ret0 tysOk rfl (by repeat' (first | exact trivial | exact rfl | refine And.intro ?_ ?_)) rfl
/-- Two slices that are read, under the names 0 and 1. -/
theorem mem_two {e : Env} {w : World} {n1 n2 : Nat} {xs1 xs2 : List Value} {A1 A2 : Option Addr} {c1 c2 : Nat} (h1 : Rds w A1 n1 c1 1 xs1) (h2 : Rds w A2 n2 c2 1 xs2) (g1 : ∀ a, A1 = some a → 0 < xs1.length → a.block < w.heap.size) (g2 : ∀ a, A2 = some a → 0 < xs2.length → a.block < w.heap.size) :
    Mem (fun _ => False) [(0, some (false, .rd 1 n1 xs1)), (1, some (false, .rd 1 n2 xs2))] ⟨e.blk, fun m => if m = 0 then .slice A1 n1 c1 else .slice A2 n2 c2, fun m g => if m = 0 then ∃ a, A1 = some a ∧ 0 < xs1.length ∧ g = a.block else ∃ a, A2 = some a ∧ 0 < xs2.length ∧ g = a.block, fun m => by
      show (if m = 0 then Value.slice A1 n1 c1 else .slice A2 n2 c2).oneCell' = true
      split <;> rfl⟩ w := by
  refine ⟨fun n b o h => ?_, fun n o m c q h => ?_⟩
  · rw [lookH_cons] at h
    split at h
    · rename_i hn
      cases h
      subst hn
      exact ⟨⟨A1, c1, rfl, h1, fun a ha h0 => ⟨a, ha, h0, rfl⟩⟩, fun g ⟨a, ha, h0, hg⟩ => ⟨hg ▸ g1 a ha h0, fun h => by cases h⟩⟩
    · rw [lookH_cons] at h
      split at h
      · rename_i hn
        cases h
        subst hn
        exact ⟨⟨A2, c2, rfl, h2, fun a ha h0 => ⟨a, ha, h0, rfl⟩⟩, fun g ⟨a, ha, h0, hg⟩ => ⟨hg ▸ g2 a ha h0, fun h => by cases h⟩⟩
      · cases h
  · rw [lookH_cons] at h
    split at h
    · cases h
    · rw [lookH_cons] at h
      split at h
      · cases h
      · cases h
theorem ivs_at {l : List Int} {k : Nat} (h : k < l.length) : (ivs l)[k]? = some (.int .i64 l[k]) := by simp [ivs, h]
theorem same_h {v1 v2 : TV} {l1 l2 : List Int} {H : HL} {nx : Nat}
    (hr : ∀ e w, MemOk H e w → ∃ A1 c1 A2 c2, v1.den e = .slice A1 l1.length c1 ∧ Rds w A1 l1.length c1 1 (ivs l1) ∧ (∀ a, A1 = some a → 0 < (ivs l1).length → a.block < w.heap.size) ∧ v2.den e = .slice A2 l2.length c2 ∧ Rds w A2 l2.length c2 1 (ivs l2) ∧ (∀ a, A2 = some a → 0 < (ivs l2).length → a.block < w.heap.size))
    (z : l1.length ≤ 1000000000) : FnH Try.prog 24 [v1, v2] H nx ⟨.t (.c (.b (decide (l1 = l2)))), [], [], []⟩ := by
  refine fnR (fn := Try.f24) 26 rfl rfl rfl (args' := [.c (.nm 0), .c (.nm 1)]) (H' := [(0, some (false, .rd 1 l1.length (ivs l1))), (1, some (false, .rd 1 l2.length (ivs l2)))]) (nx' := 2) (fun e w M => ?_) rfl rfl rfl rfl fun w => ?_
  · obtain ⟨A1, c1, A2, c2, h1, h2, h3, h4, h5, h6⟩ := hr e w M
    exact ⟨_, mem_two (e := e) h2 h5 h3 h6, by simp [TV.den, CV.den, h1, h4] <;> exact ⟨h1, h4⟩⟩
  refine rn [] rfl (by repeat' (first | exact trivial | exact rfl | refine And.intro ?_ ?_)) ?_
  refine ⟨fun h => ?_, fun h => ?_⟩
  · have hne : l1 ≠ l2 := fun e => by subst e; simp at h
    refine rn [] rfl (by repeat' (first | exact trivial | exact rfl | refine And.intro ?_ ?_)) ?_
    rw [decide_eq_false hne]
    exact ret0 tysOk rfl (by repeat' (first | exact trivial | exact rfl | refine And.intro ?_ ?_)) rfl
  have hl : l1.length = l2.length := by simp at h; omega
  clear h
  refine rn [] rfl (by repeat' (first | exact trivial | exact rfl | refine And.intro ?_ ?_)) ?_
  refine At.loop (X := (k : Nat) ×' (k ≤ l1.length ∧ l1.take k = l2.take k)) 2 (fun k => l1.length - k.1)
    (fun k => [(0, .t (.c (.nm 0))), (1, .t (.c (.nm 1))), (5, .t (.c (iT (k.1 : Nat))))])
    (fun _ => [(0, some (false, .rd 1 l1.length (ivs l1))), (1, some (false, .rd 1 l2.length (ivs l2)))]) ⟨0, by omega, rfl⟩ [] (fun k => wf rfl rfl) (by repeat' (first | exact trivial | exact rfl | refine And.intro ?_ ?_)) (by repeat' (first | exact trivial | exact rfl | refine And.intro ?_ ?_)) rfl fun k => ?_
  obtain ⟨k, hk1, hk2⟩ := k
  have w2 : IntKind.i64.wrap ((k : Int) + 1) = ((k + 1 : Nat) : Int) := by rw [wrap_small (by omega) (by omega)]; omega
  refine rn [] rfl (by repeat' (first | exact trivial | exact rfl | refine And.intro ?_ ?_)) ?_
  refine ⟨fun h => ?_, fun h => ?_⟩
  · have hlt : k < l1.length := by have : (k : Int) < (l1.length : Int) := of_decide_eq_true h; omega
    have hlt2 : k < l2.length := by omega
    have e1 : (ivs l1)[(k : Int).toNat * 1]? = some (.int .i64 l1[k]) := by simpa using ivs_at hlt
    have e2 : (ivs l2)[(k : Int).toNat * 1]? = some (.int .i64 l2[k]) := by simpa using ivs_at hlt2
    have b0 : (0 : Int) ≤ (k : Int) := by omega
    have b1 : (k : Int) < (l1.length : Int) := by omega
    have b2 : (k : Int) < (l2.length : Int) := by omega
    refine rn [(20, .ld [iT l1[k]]), (24, .ld [iT l2[k]])] rfl (by (repeat' (first | exact trivial | exact rfl | exact e1 | exact fun _ => e1 | first | exact e2 | exact b0 | exact b1 | exact b2 | decide | refine And.intro ?_ ?_))) ?_
    refine ⟨fun h => ?_, fun h => ?_⟩
    · have hne : l1 ≠ l2 := fun e => by subst e; simp at h
      refine rn [] rfl (by repeat' (first | exact trivial | exact rfl | refine And.intro ?_ ?_)) (roundRet ?_)
      rw [decide_eq_false hne]
      exact ret0 tysOk rfl (by repeat' (first | exact trivial | exact rfl | refine And.intro ?_ ?_)) rfl
    · have he : l1[k] = l2[k] := by simpa using h
      refine rn [] rfl (by repeat' (first | exact trivial | exact rfl | refine And.intro ?_ ?_)) ?_
      refine roundEnd ⟨k + 1, by omega, by rw [List.take_succ_eq_append_getElem hlt, List.take_succ_eq_append_getElem hlt2, hk2, he]⟩ [] (by show l1.length - (k + 1) < l1.length - k; omega) (by (repeat' (first | exact trivial | exact rfl | exact w2 | exact fun _ => w2 | refine And.intro ?_ ?_))) (by repeat' (first | exact trivial | exact rfl | refine And.intro ?_ ?_)) rfl
  · have hlt : k = l1.length := by have : ¬ (k : Int) < (l1.length : Int) := of_decide_eq_false h; omega
    have he : l1 = l2 := by
      rw [hlt, List.take_length] at hk2
      rw [hl, List.take_length] at hk2
      exact hk2
    refine rn [] rfl (by repeat' (first | exact trivial | exact rfl | refine And.intro ?_ ?_)) (roundExit rfl ?_)
    refine rnA [] rfl (by repeat' (first | exact trivial | exact rfl | refine And.intro ?_ ?_)) ?_
    rw [decide_eq_true he]
    exact ret0 tysOk rfl (by repeat' (first | exact trivial | exact rfl | refine And.intro ?_ ?_)) rfl
end Cw
