/- LeaseNoKnot: the walk of the statement. -/
import Derived.Test.YtmhbblieldglmaaLeaZ
import Derived.Test.YtmhbblieldglmaaAmV
namespace Cw
open Go Vc
open Go.Proofs
set_option maxRecDepth 100000
theorem bnd_mem {held u : List Int} {x : Int} (h : x ∈ bnd held u) : x ∈ held := by
  have := List.all_eq_true.1 (List.all_takeWhile (p := fun r => decide (r ∈ held)) (l := u)) x h
  simpa using this
theorem bnd_sub {held u : List Int} {x : Int} (h : x ∈ bnd held u) : x ∈ u := (List.takeWhile_sublist _).mem h
theorem mis_cases (held u : List Int) : mis held u = -1 ∧ bnd held u = u ∨ mis held u ∈ u ∧ mis held u ∉ held ∧ ∃ t, u = bnd held u ++ mis held u :: t := by
  have h := List.takeWhile_append_dropWhile (p := fun r => decide (r ∈ held)) (l := u)
  have hd : ∀ y t, u.dropWhile (fun r => decide (r ∈ held)) = y :: t → y ∉ held := by
    intro y t he hy
    have := List.head?_dropWhile_not (fun r => decide (r ∈ held)) u
    rw [he] at this
    simp at this
    exact this hy
  unfold mis bnd
  generalize u.dropWhile (fun r => decide (r ∈ held)) = d at *
  generalize hb : u.takeWhile (fun r => decide (r ∈ held)) = b at *
  cases d with
  | nil => left; exact ⟨rfl, by simpa using h⟩
  | cons y t =>
    right
    refine ⟨?_, hd y t rfl, t, h.symm⟩
    rw [← h]
    simp
theorem bnd_lt {held u : List Int} (hu : u.Pairwise (· < ·)) (h : mis held u ∈ held ∨ mis held u ≠ -1) {x : Int} (hx : x ∈ bnd held u) : x < mis held u ∨ mis held u = -1 := by
  rcases mis_cases held u with ⟨h1, _⟩ | ⟨h1, h2, t, h3⟩
  · exact .inr h1
  · left
    rw [h3, List.pairwise_append] at hu
    exact hu.2.2 x hx _ (by simp)
theorem noknot (a b x y : List Int) (hx : ∀ v ∈ x, 0 ≤ v) (hy : ∀ v ∈ y, 0 ≤ v) : (decide (mis x (uq a) ∈ bnd y (uq b)) && decide (mis y (uq b) ∈ bnd x (uq a))) = false := by
  rw [Bool.eq_false_iff]
  intro h
  rw [Bool.and_eq_true, decide_eq_true_eq, decide_eq_true_eq] at h
  obtain ⟨h1, h2⟩ := h
  have p1 := hy _ (bnd_mem h1)
  have p2 := hx _ (bnd_mem h2)
  have q1 := bnd_lt (uq_pw b) (.inr (by omega)) h1
  have q2 := bnd_lt (uq_pw a) (.inr (by omega)) h2
  omega
set_option maxRecDepth 100000 in
set_option maxHeartbeats 2000000 in
theorem noKnot_h (a b ow : List Int) (z1 : a.length ≤ 17592186043904) (z2 : b.length ≤ 17592186043904) (z3 : ow.length ≤ 17592186043904) :
    FnH Try.prog 4 [.c (.nm 0), .c (.nm 1), .c (.nm 2)] [(0, some (false, .rd 1 a.length (ivs a))), (1, some (false, .rd 1 b.length (ivs b))), (2, some (false, .rd 1 ow.length (ivs ow)))] 3 ⟨.t (.c (.b true)), [], [], []⟩ := by
  refine fnR (fn := Try.f4) 60 rfl rfl rfl (args' := [.c (.nm 0), .c (.nm 1), .c (.nm 2)]) (H' := [(0, some (false, .rd 1 a.length (ivs a))), (1, some (false, .rd 1 b.length (ivs b))), (2, some (false, .rd 1 ow.length (ivs ow)))]) (nx' := 3) (fun e w M => ?_) rfl rfl rfl rfl fun w => ?_
  · obtain ⟨e', M', q1, q2, q3⟩ := slr3 (v1 := .c (.nm 0)) (v2 := .c (.nm 1)) (v3 := .c (.nm 2)) (SlR.rd rfl) (SlR.rd rfl) (SlR.rd rfl) e w M
    exact ⟨e', M', by simp [q1, q2, q3]⟩
  refine rn [(15, .spec ⟨.t (.c (.b true)), [], [], []⟩), (16, .dec false)] rfl (by (repeat' (first | exact trivial | exact rfl | exact lworks_h | exact fun _ => lworks_h | refine And.intro ?_ ?_))) ?_
  refine At.nil 7 3 1 rfl ?_
  refine At.nil 8 3 1 rfl ?_
  refine At.loop (X := (x : List Int) ×' (y : List Int) ×' (k : Nat) ×' (k ≤ ow.length ∧ x.length ≤ k ∧ y.length ≤ k ∧ (∀ v ∈ x, 0 ≤ v) ∧ ∀ v ∈ y, 0 ≤ v)) 5 (fun s => ow.length - s.2.2.1)
    (fun s => [(0, .t (.c (.nm 0))), (1, .t (.c (.nm 1))), (7, .t (.c (.nm 3))), (8, .t (.c (.nm 4))), (17, .t (.c (.nm 2))), (18, .t (.c (iT (ow.length : Nat)))), (19, .t (.c (iT (s.2.2.1 : Nat))))])
    (fun s => [(0, some (false, .rd 1 a.length (ivs a))), (1, some (false, .rd 1 b.length (ivs b))), (2, some (false, .rd 1 ow.length (ivs ow))), (3, some (true, .own 3 1 s.1.length (ivs s.1))), (4, some (true, .own 3 1 s.2.1.length (ivs s.2.1)))]) ⟨[], [], 0, by simp⟩ [] (fun k => wf rfl rfl) (by repeat' (first | exact trivial | exact rfl | refine And.intro ?_ ?_)) (by repeat' (first | exact trivial | exact rfl | refine And.intro ?_ ?_)) rfl fun s => ?_
  obtain ⟨x, y, k, hk, hx1, hy1, hx2, hy2⟩ := s
  have w2 : IntKind.i64.wrap ((k : Int) + 1) = ((k + 1 : Nat) : Int) := by rw [wrap_sm (by omega) (by omega)]; omega
  refine rn [] rfl (by repeat' (first | exact trivial | exact rfl | refine And.intro ?_ ?_)) ?_
  refine ⟨fun h => ?_, fun h => ?_⟩
  · have hlt : k < ow.length := by have : (k : Int) < (ow.length : Int) := of_decide_eq_true h; omega
    clear h
    have e1 : (ivs ow)[(k : Int).toNat * 1]? = some (.int .i64 ow[k]) := by simpa using ivs_at hlt
    have b0 : (0 : Int) ≤ (k : Int) := by omega
    have b1 : (k : Int) < (ow.length : Int) := by omega
    refine rn [(23, .ld [iT ow[k]]), (25, .ret (.t (.c (iT (ow[k] % 3)))))] rfl (by (repeat' (first | exact trivial | exact rfl | exact e1 | exact fun _ => e1 | first | exact amV _ 3 (by decide) (by decide) | exact b0 | exact b1 | decide | refine And.intro ?_ ?_))) ?_
    have m1 : x.length + 1 ≤ maxLen := by simp [maxLen]; omega
    have m2 : (x.length + 1) * 8 ≤ 140737488355328 := by omega
    have m3 : y.length + 1 ≤ maxLen := by simp [maxLen]; omega
    have m4 : (y.length + 1) * 8 ≤ 140737488355328 := by omega
    refine ⟨fun h => ?_, fun h => ?_⟩
    · refine rn [] rfl (by (repeat' (first | exact trivial | exact rfl | exact m1 | exact fun _ => m1 | exact m2 | refine And.intro ?_ ?_))) ?_
      refine roundEnd ⟨x ++ [(k : Int)], y, k + 1, by omega, by simp; omega, by omega, fun v hv => ?_, hy2⟩ [(3, 6)] (by show ow.length - (k + 1) < ow.length - k; omega) (by (repeat' (first | exact trivial | exact rfl | exact w2 | exact fun _ => w2 | refine And.intro ?_ ?_))) ?_ rfl
      · rcases List.mem_append.1 hv with hv | hv
        · exact hx2 v hv
        · rw [List.mem_singleton.1 hv]; omega
      · repeat' (first | exact trivial | exact rfl | refine And.intro ?_ ?_)
        · simp
        · rw [ivs_append, app_eq]; rfl
    · refine rn [] rfl (by repeat' (first | exact trivial | exact rfl | refine And.intro ?_ ?_)) ?_
      refine ⟨fun h => ?_, fun h => ?_⟩
      · refine rn [] rfl (by (repeat' (first | exact trivial | exact rfl | exact m3 | exact fun _ => m3 | exact m4 | refine And.intro ?_ ?_))) ?_
        refine roundEnd ⟨x, y ++ [(k : Int)], k + 1, by omega, by omega, by simp; omega, hx2, fun v hv => ?_⟩ [(4, 6)] (by show ow.length - (k + 1) < ow.length - k; omega) (by (repeat' (first | exact trivial | exact rfl | exact w2 | exact fun _ => w2 | refine And.intro ?_ ?_))) ?_ rfl
        · rcases List.mem_append.1 hv with hv | hv
          · exact hy2 v hv
          · rw [List.mem_singleton.1 hv]; omega
        · repeat' (first | exact trivial | exact rfl | refine And.intro ?_ ?_)
          · simp
          · rw [ivs_append, app_eq]; rfl
      · refine rn [] rfl (by repeat' (first | exact trivial | exact rfl | refine And.intro ?_ ?_)) ?_
        exact roundEnd ⟨x, y, k + 1, by omega, by omega, by omega, hx2, hy2⟩ [] (by show ow.length - (k + 1) < ow.length - k; omega) (by (repeat' (first | exact trivial | exact rfl | exact w2 | exact fun _ => w2 | refine And.intro ?_ ?_))) (by repeat' (first | exact trivial | exact rfl | refine And.intro ?_ ?_)) rfl
  · refine rn [] rfl (by repeat' (first | exact trivial | exact rfl | refine And.intro ?_ ?_)) (roundExit rfl ?_)
    have hn := noknot a b x y hx2 hy2
    have hba : (bnd x (uq a)).length ≤ a.length := Nat.le_trans (List.takeWhile_sublist _).length_le (uq_le a)
    have hbb : (bnd y (uq b)).length ≤ b.length := Nat.le_trans (List.takeWhile_sublist _).length_le (uq_le b)
    refine rnA [(42, .spec ⟨.tup [.c (.nm 5), .c (iT (mis x (uq a)))], [(true, .own 3 1 (bnd x (uq a)).length (ivs (bnd x (uq a))))], [], []⟩), (48, .spec ⟨.tup [.c (.nm 6), .c (iT (mis y (uq b)))], [(true, .own 3 1 (bnd y (uq b)).length (ivs (bnd y (uq b))))], [], []⟩),
      (53, .spec ⟨.t (.c (.b (decide (mis x (uq a) ∈ bnd y (uq b))))), [], [], []⟩), (57, .spec ⟨.t (.c (.b (decide (mis y (uq b) ∈ bnd x (uq a))))), [], [], []⟩)] rfl ?_ ?_
    · repeat' (first | exact trivial | exact rfl | refine And.intro ?_ ?_)
      all_goals first | intro _ | skip
      all_goals first
        | exact wanted_h (want := a) (held := x) (SlR.rd rfl) (SlR.own rfl) z1 (by omega)
        | exact wanted_h (want := b) (held := y) (SlR.rd rfl) (SlR.own rfl) z2 (by omega)
        | exact holds_h (l := bnd y (uq b)) (SlR.own rfl) (by omega)
        | exact holds_h (l := bnd x (uq a)) (SlR.own rfl) (by omega)
    · refine ret0 tysOk rfl ?_ rfl
      repeat' (first | exact trivial | exact rfl | refine And.intro ?_ ?_)
      rw [hn]
      rfl
theorem noKnot_true (a b ow : List Int) (A1 A2 A3 : Option Addr) (c1 c2 c3 : Nat) (w : World) (z1 : a.length ≤ 17592186043904) (z2 : b.length ≤ 17592186043904) (z3 : ow.length ≤ 17592186043904) (h1 : Vc.Rds w A1 a.length c1 1 (ivs a)) (h2 : Vc.Rds w A2 b.length c2 1 (ivs b)) (h3 : Vc.Rds w A3 ow.length c3 1 (ivs ow)) :
    Calls Try.prog 4 #[.slice A1 a.length c1, .slice A2 b.length c2, .slice A3 ow.length c3] w fun e w' => e = .returned (.bool true) ∧ RowKit.Below w.heap.size w w' := by
  obtain ⟨e, M, v0, v1, v2⟩ := memr3 h1 h2 h3
  have := fnh_law (noKnot_h a b ow z1 z2 z3) rfl rfl M
  rw [show ([.c (.nm 0), .c (.nm 1), .c (.nm 2)] : List TV).map (TV.den e) = [e.val 0, e.val 1, e.val 2] from rfl, v0, v1, v2] at this
  exact this
end Cw
