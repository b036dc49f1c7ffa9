/- The document's answer for the package inode, by reckoning: List; the law InodeReads. -/
import Derived.Test.YtigaallhjlmhbaaInoT2
namespace Cw
open Go Vc
open Go.Proofs
set_option maxRecDepth 100000
theorem item_num {s : ByteArray} (hz : s.size = 64) {k : Nat} (h : k < 32) : item s k = (numAt s (2 * k) 2 : Nat) := by
  have := getn_num hz (2 * k) 2 (by omega) (by omega)
  unfold item
  rw [show (2 * (k : Int)) = ((2 * k : Nat) : Int) by omega]
  exact congrArg (fun x : Nat => (x : Int)) this
theorem items_at {s : ByteArray} {k : Nat} (p : Int → Bool) (h : k < 32) (ha : (items s 32).all p = true) : p (item s k) = true := by
  rw [List.all_eq_true] at ha
  exact ha _ (List.mem_map.2 ⟨k, List.mem_range.2 h, rfl⟩)
/-- One number that may be, as a slice for append. -/
theorem rilist_h (a b c : Int) (s : ByteArray) (hs : s.size ≤ 9223372036854775807) (hg : Gok a b c) (hk : lok a b c s) {H : HL} {nx : Nat} :
    FnH Try.prog 46 [geoT a b c, .c (.s s)] H nx ⟨.tup [.c (.nm nx), .c (iT 0)], [(true, .own 3 1 32 (ivs (items s 32)))], [], []⟩ := by
  have hz := hk.1
  refine fnN (fn := Try.f46) 32 rfl rfl rfl (args' := [geoT a b c, .c (.s s)]) (H' := H0) (nx' := 1) (fun e w M => ⟨e0, mem0 w, rfl⟩) rfl rfl rfl (inR_one nx) rfl fun w => ?_
  refine rn [(10, .ret (.t (.c (iT 0)))), (11, .dec false), (14, .dec false)] rfl (by (repeat' (first | exact trivial | exact rfl | exact gc_eq hg ▸ rcheck0 a b c | exact fun _ => gc_eq hg ▸ rcheck0 a b c | simp [hk.1] | refine And.intro ?_ ?_))) ?_
  refine At.unroll ?_
  have ok0 := items_at (k := 0) _ (by omega) hk.2
  rw [item_num hz (by omega)] at ok0
  have n0 := num0 s (2 * 0) 2 (by decide) (by omega) hs
  refine rn [(16, .dec true), (22, .ret (.t (.c (iT (numAt s (2 * 0) 2 : Nat))))), (25, .ret (.t (.c (.b true)))), (26, .dec false)] rfl (by (repeat' (first | exact trivial | exact rfl | exact n0 | exact fun _ => n0 | first | exact ok0 ▸ rblock0 a b c _ | decide | refine And.intro ?_ ?_))) ?_
  refine nextLoop (X := (k : Nat) ×' (1 ≤ k ∧ k ≤ 32)) 4 (fun k => 32 - k.1)
    (fun k => [(1, .t (.c (.s s))), (2, .t (.c (.p 1 0))), (7, .t (.c (iT (k.1 : Nat)))), (6, .t (.c (.nm 3)))])
    (fun k => [(1, some (true, .cells [iT a, iT b, iT c] 34)), (3, some (true, .own 3 1 k.1 (ivs (items s k.1))))]) ⟨1, by omega, by omega⟩ [] (fun k => wf rfl rfl) (by repeat' (first | exact trivial | exact rfl | refine And.intro ?_ ?_)) ?_ rfl fun k => ?_
  · repeat' (first | exact trivial | exact rfl | refine And.intro ?_ ?_)
    rw [show items s 1 = [item s 0] from rfl, item_num hz (by omega)]
    rfl
  obtain ⟨k, hk1, hk2⟩ := k
  have w1 : IntKind.i64.wrap (2 * (k : Int)) = ((2 * k : Nat) : Int) := by rw [wrap_small (by omega) (by omega)]; omega
  have w2 : IntKind.i64.wrap ((k : Int) + 1) = ((k + 1 : Nat) : Int) := by rw [wrap_small (by omega) (by omega)]; omega
  refine rn [] rfl (by repeat' (first | exact trivial | exact rfl | refine And.intro ?_ ?_)) ?_
  refine ⟨fun h => ?_, fun h => ?_⟩
  · have hlt : k < 32 := by have : (k : Int) < 32 := of_decide_eq_true h; omega
    have okk := items_at (k := k) _ hlt hk.2
    rw [item_num hz hlt] at okk
    have nk := num0 s (2 * k) 2 (by decide) (by omega) hs
    rw [← w1] at nk
    refine rn [(22, .ret (.t (.c (iT (numAt s (2 * k) 2 : Nat))))), (25, .ret (.t (.c (.b true)))), (26, .dec false)] rfl (by (repeat' (first | exact trivial | exact rfl | exact nk | exact fun _ => nk | first | exact okk ▸ rblock0 a b c _ | decide | (simp only [maxLen]; omega) | omega | refine And.intro ?_ ?_))) ?_
    refine roundEnd ⟨k + 1, by omega, by omega⟩ [(3, 5)] (by show 32 - (k + 1) < 32 - k; omega) (by (repeat' (first | exact trivial | exact rfl | exact w2 | exact fun _ => w2 | refine And.intro ?_ ?_))) ?_ rfl
    repeat' (first | exact trivial | exact rfl | refine And.intro ?_ ?_)
    rw [app_eq, items_succ, item_num hz hlt]
    simp [ivs, CV.den]
  · have hlt : k = 32 := by have : ¬ (k : Int) < 32 := of_decide_eq_false h; omega
    subst hlt
    refine rn [] rfl (by repeat' (first | exact trivial | exact rfl | refine And.intro ?_ ?_)) (roundExit rfl ?_)
    refine rnA [] rfl (by repeat' (first | exact trivial | exact rfl | refine And.intro ?_ ?_)) ?_
    exact retN tysOk [(nx, 3)] rfl (by simp only [retS, SV.eqs, eqsT, TV.eqs, CV.eqs, ren_one]; repeat' (first | exact trivial | exact rfl | refine And.intro ?_ ?_)) (by simp only [newsH, subH, ren_one]; repeat' (first | exact trivial | exact rfl | refine And.intro ?_ ?_)) (by simp [injK, keysH, newsH, inL]) rfl
theorem rilist_no (a b c : Int) (s : ByteArray) (hs : s.size ≤ 9223372036854775807) (hn : ¬ (Gok a b c ∧ lok a b c s)) : Fn0 Try.prog 46 [geoT a b c, .c (.s s)] (.tup [.c .nsl, .c (iT (if Gok a b c then 60 else 4))]) := by
  refine fn0 (fn := Try.f46) 32 rfl rfl rfl rfl rfl fun w => ?_
  by_cases hg : Gok a b c
  · rw [if_pos hg]
    by_cases hz : s.size = 64
    · refine rn [(10, .ret (.t (.c (iT 0)))), (11, .dec false), (14, .dec false)] rfl (by (repeat' (first | exact trivial | exact rfl | exact gc_eq hg ▸ rcheck0 a b c | exact fun _ => gc_eq hg ▸ rcheck0 a b c | simp [hz] | refine And.intro ?_ ?_))) ?_
      refine At.unroll ?_
      have n0 := num0 s (2 * 0) 2 (by decide) (by omega) hs
      have i0 := item_num hz (k := 0) (by omega)
      by_cases ok0 : okb a b c (numAt s (2 * 0) 2 : Nat) = true
      · refine rn [(16, .dec true), (22, .ret (.t (.c (iT (numAt s (2 * 0) 2 : Nat))))), (25, .ret (.t (.c (.b true)))), (26, .dec false)] rfl (by (repeat' (first | exact trivial | exact rfl | exact n0 | exact fun _ => n0 | first | exact ok0 ▸ rblock0 a b c _ | decide | refine And.intro ?_ ?_))) ?_
        refine nextLoop (X := (k : Nat) ×' (1 ≤ k ∧ k ≤ 32 ∧ (items s k).all (okb a b c) = true)) 4 (fun k => 32 - k.1)
          (fun k => [(1, .t (.c (.s s))), (2, .t (.c (.p 1 0))), (7, .t (.c (iT (k.1 : Nat)))), (6, .t (.c (.nm 3)))])
          (fun k => [(1, some (true, .cells [iT a, iT b, iT c] 34)), (3, some (true, .own 3 1 k.1 (ivs (items s k.1))))]) ⟨1, by omega, by omega, by rw [show items s 1 = [item s 0] from rfl, i0]; simp [ok0]⟩ [] (fun k => wf rfl rfl) (by repeat' (first | exact trivial | exact rfl | refine And.intro ?_ ?_)) ?_ rfl fun k => ?_
        · repeat' (first | exact trivial | exact rfl | refine And.intro ?_ ?_)
          rw [show items s 1 = [item s 0] from rfl, item_num hz (by omega)]
          rfl
        obtain ⟨k, hk1, hk2, hk3⟩ := k
        have w1 : IntKind.i64.wrap (2 * (k : Int)) = ((2 * k : Nat) : Int) := by rw [wrap_small (by omega) (by omega)]; omega
        have w2 : IntKind.i64.wrap ((k : Int) + 1) = ((k + 1 : Nat) : Int) := by rw [wrap_small (by omega) (by omega)]; omega
        refine rn [] rfl (by repeat' (first | exact trivial | exact rfl | refine And.intro ?_ ?_)) ?_
        refine ⟨fun h => ?_, fun h => ?_⟩
        · have hlt : k < 32 := by have : (k : Int) < 32 := of_decide_eq_true h; omega
          have nk := num0 s (2 * k) 2 (by decide) (by omega) hs
          rw [← w1] at nk
          have ik := item_num hz hlt
          by_cases okk : okb a b c (numAt s (2 * k) 2 : Nat) = true
          · refine rn [(22, .ret (.t (.c (iT (numAt s (2 * k) 2 : Nat))))), (25, .ret (.t (.c (.b true)))), (26, .dec false)] rfl (by (repeat' (first | exact trivial | exact rfl | exact nk | exact fun _ => nk | first | exact okk ▸ rblock0 a b c _ | decide | (simp only [maxLen]; omega) | omega | refine And.intro ?_ ?_))) ?_
            refine roundEnd ⟨k + 1, by omega, by omega, by rw [items_succ, List.all_append, hk3, ik]; simp [okk]⟩ [(3, 5)] (by show 32 - (k + 1) < 32 - k; omega) (by (repeat' (first | exact trivial | exact rfl | exact w2 | exact fun _ => w2 | refine And.intro ?_ ?_))) ?_ rfl
            repeat' (first | exact trivial | exact rfl | refine And.intro ?_ ?_)
            rw [app_eq, items_succ, item_num hz hlt]
            simp [ivs, CV.den]
          · have okf : okb a b c (numAt s (2 * k) 2 : Nat) = false := by simpa using okk
            refine rn [(22, .ret (.t (.c (iT (numAt s (2 * k) 2 : Nat))))), (25, .ret (.t (.c (.b false)))), (26, .dec true)] rfl (by (repeat' (first | exact trivial | exact rfl | exact nk | exact fun _ => nk | first | exact okf ▸ rblock0 a b c _ | decide | refine And.intro ?_ ?_))) (roundRet ?_)
            exact ret0 tysOk rfl (by repeat' (first | exact trivial | exact rfl | refine And.intro ?_ ?_)) rfl
        · have hlt : k = 32 := by have : ¬ (k : Int) < 32 := of_decide_eq_false h; omega
          subst hlt
          exact absurd ⟨hg, hz, hk3⟩ hn
      · have okf : okb a b c (numAt s (2 * 0) 2 : Nat) = false := by simpa using ok0
        refine rn [(16, .dec true), (22, .ret (.t (.c (iT (numAt s (2 * 0) 2 : Nat))))), (25, .ret (.t (.c (.b false)))), (26, .dec true)] rfl (by (repeat' (first | exact trivial | exact rfl | exact n0 | exact fun _ => n0 | first | exact okf ▸ rblock0 a b c _ | decide | refine And.intro ?_ ?_))) (nextRet ?_)
        exact ret0 tysOk rfl (by repeat' (first | exact trivial | exact rfl | refine And.intro ?_ ?_)) rfl
    · refine rn [(10, .ret (.t (.c (iT 0)))), (11, .dec false), (14, .dec true)] rfl (by (repeat' (first | exact trivial | exact rfl | exact gc_eq hg ▸ rcheck0 a b c | exact fun _ => gc_eq hg ▸ rcheck0 a b c | (simp; omega) | refine And.intro ?_ ?_))) ?_
      exact ret0 tysOk rfl (by repeat' (first | exact trivial | exact rfl | refine And.intro ?_ ?_)) rfl
  · rw [if_neg hg]
    refine rn [(10, .ret (.t (.c (iT 4)))), (11, .dec true)] rfl (by (repeat' (first | exact trivial | exact rfl | exact gc_ne hg ▸ rcheck0 a b c | exact fun _ => gc_ne hg ▸ rcheck0 a b c | refine And.intro ?_ ?_))) ?_
    exact ret0 tysOk rfl (by repeat' (first | exact trivial | exact rfl | refine And.intro ?_ ?_)) rfl
theorem rds_own {H : HL} {k : Nat} {b : Bool} {T : TypeId} {n : Nat} {xs : List Value} (hk : lookH H k = some (b, .own T 1 n xs)) {e : Env} {w : World} (M : MemOk H e w) : ∃ A c, e.val k = .slice A n c ∧ Vc.Rds w A n c 1 xs ∧ ∀ a, A = some a → 0 < xs.length → a.block < w.heap.size := by
  obtain ⟨⟨hown, hfp⟩, hlt⟩ := M.ob k b _ hk
  have hob : (Ob.rd 1 n xs).holds (e.ren []) k w := Ob.eqs_ok (o := .own T 1 n xs) (ρ := []) (by repeat' (first | exact trivial | exact rfl | refine And.intro ?_ ?_)) ⟨hown, hfp⟩
  obtain ⟨A1, c1, q1, q2, q3⟩ := hob
  exact ⟨A1, c1, q1, q2, fun a ha h0 => hlt _ (q3 a ha h0)⟩
theorem ireads0 (a b c : Int) (s : ByteArray) (hs : s.size ≤ 9223372036854775807) : Fn0 Try.prog 11 [geoT a b c, .c (.s s)] (.t (.c (.b true))) := by
  refine fn0 (fn := Try.f11) 58 rfl rfl rfl rfl rfl fun w => ?_
  by_cases hg : Gok a b c ∧ lok a b c s
  · refine rn [(16, .ret (.tup [inoT (idec a b c s), .c (iT (idece a b c s))])), (22, .ret (.tup [inoT (idec a b c s), .c (iT (idece a b c s))])), (28, .spec ⟨.tup [.c (.nm 4), .c (iT 0)], [(true, .own 3 1 32 (ivs (items s 32)))], [], []⟩), (34, .spec ⟨.tup [.c (.nm 5), .c (iT 0)], [(true, .own 3 1 32 (ivs (items s 32)))], [], []⟩), (40, .dec true), (48, .spec ⟨.t (.c (.b (decide (items s 32 = items s 32)))), [], [], []⟩), (56, .ret (.t (.c (.b true))))] rfl ?_ ?_
    · repeat' (first | exact trivial | exact rfl | exact idec0 a b c s hs | exact ridec0 a b c s hs | exact ilist_h a b c s hs hg.1 hg.2 | exact rilist_h a b c s hs hg.1 hg.2 | exact fun _ => iworks0 | (simp [polB]; done) | refine And.intro ?_ ?_)
      all_goals
        first | intro _ | skip
        refine same_h (fun e w M => ?_) (by rw [items_length]; decide)
        obtain ⟨A1, c1, q1, q2, q3⟩ := rds_own rfl M (k := 4)
        obtain ⟨A2, c2, r1, r2, r3⟩ := rds_own rfl M (k := 5)
        exact ⟨A1, c1, A2, c2, by rw [items_length]; exact q1, by rw [items_length]; exact q2, q3, by rw [items_length]; exact r1, by rw [items_length]; exact r2, r3⟩
    · refine ret0 tysOk rfl ⟨?_, trivial⟩ rfl
      simp [polB]
  · refine rn [(16, .ret (.tup [inoT (idec a b c s), .c (iT (idece a b c s))])), (22, .ret (.tup [inoT (idec a b c s), .c (iT (idece a b c s))])), (28, .ret (.tup [.c .nsl, .c (iT (if Gok a b c then 60 else 4))])), (34, .ret (.tup [.c .nsl, .c (iT (if Gok a b c then 60 else 4))])), (40, .dec true), (48, .spec ⟨.t (.c (.b (decide (([] : List Int) = [])))), [], [], []⟩), (56, .ret (.t (.c (.b true))))] rfl ?_ ?_
    · repeat' (first | exact trivial | exact rfl | exact idec0 a b c s hs | exact ridec0 a b c s hs | exact ilist_no a b c s hs hg | exact rilist_no a b c s hs hg | exact fun _ => iworks0 | (simp [polB]; done) | refine And.intro ?_ ?_)
      all_goals
        first | intro _ | skip
        exact same_h (fun e w M => ⟨none, 0, none, 0, rfl, ⟨rfl, by decide, by decide, fun _ => rfl, fun j u hu => by simp [ivs] at hu⟩, fun a ha => (by cases ha), rfl, ⟨rfl, by decide, by decide, fun _ => rfl, fun j u hu => by simp [ivs] at hu⟩, fun a ha => (by cases ha)⟩) (by decide)
    · refine ret0 tysOk rfl ⟨?_, trivial⟩ rfl
      simp [polB]
theorem inodeReads_true (a b c : Int) (s : ByteArray) (hs : s.size ≤ 9223372036854775807) (w : World) : Calls Try.prog 11 #[geo a b c, .string s] w fun e w' => e = .returned (.bool true) ∧ RowKit.Below w.heap.size w w' := (ireads0 a b c s hs).h w
end Cw
