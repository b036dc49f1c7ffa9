/- LeaseWants: the walk of the statement. -/
import Derived.Test.YtmhbblieldglmaaLeaY
namespace Cw
open Go Vc
open Go.Proofs
set_option maxRecDepth 100000
theorem sameInts_eq {v1 v2 : TV} {l : List Int} {H : HL} {nx : Nat} (h1 : SlR H v1 l.length 1 (ivs l)) (h2 : SlR H v2 l.length 1 (ivs l)) (z : l.length ≤ 100000000000000) : FnH Try.prog 9 [v1, v2] H nx ⟨.t (.c (.b true)), [], [], []⟩ := by
  have := sameInts_h (nx := nx) h1 h2 z
  rwa [decide_eq_true rfl] at this
theorem lworks_h {H : HL} {nx : Nat} : FnH Try.prog 12 [] H nx ⟨.t (.c (.b true)), [], [], []⟩ := by
  refine fnR (fn := Try.f12) 16 rfl rfl rfl (args' := []) (H' := []) (nx' := 0) (fun e w M => ⟨e, ⟨fun n b o h => (by cases h), fun n o m c q h => (by cases h)⟩, rfl⟩) rfl rfl rfl rfl fun w => ?_
  have hu : uq [5, 2, 3] = [2, 3, 5] := pw_ext (uq_pw _) (by decide) fun x => by rw [mem_uq]; simp; omega
  have c1 := wanted_h (v1 := .c (.nm 0)) (v2 := .c (.nm 1)) (want := [5, 2, 3]) (held := [3, 2]) (H := [(1, some (true, .own 3 1 2 (ivs [3, 2]))), (0, some (true, .own 3 1 3 (ivs [5, 2, 3])))]) (nx := 2) (SlR.own rfl) (SlR.own rfl) (by decide) (by decide)
  rw [hu, show bnd [3, 2] [2, 3, 5] = [2, 3] from by decide, show mis [3, 2] [2, 3, 5] = 5 from by decide] at c1
  have c2 := sameInts_h (v1 := .c (.nm 2)) (v2 := .c (.nm 3)) (l1 := [2, 3]) (l2 := [2, 3]) (H := [(3, some (true, .own 3 1 2 (ivs [2, 3]))), (2, some (true, .own 3 1 2 (ivs [2, 3]))), (1, some (true, .own 3 1 2 (ivs [3, 2]))), (0, some (true, .own 3 1 3 (ivs [5, 2, 3])))]) (nx := 4) (SlR.own rfl) (SlR.own rfl) (by decide)
  rw [decide_eq_true rfl] at c2
  refine rn [(4, .dec true), (5, .dec true), (6, .spec ⟨.tup [.c (.nm 2), .c (iT 5)], [(true, .own 3 1 2 (ivs [2, 3]))], [], []⟩), (10, .dec true), (11, .spec ⟨.t (.c (.b true)), [], [], []⟩)] rfl ?_ ?_
  · (repeat' (first | exact trivial | exact rfl | exact c1 | exact fun _ => c1 | first | exact c2 | decide | refine And.intro ?_ ?_))
  · exact ret0 tysOk rfl (by repeat' (first | exact trivial | exact rfl | refine And.intro ?_ ?_)) rfl
set_option maxRecDepth 100000 in
set_option maxHeartbeats 1000000 in
theorem leaseWants_h (want held : List Int) (z1 : want.length ≤ 17592186043904) (z2 : held.length ≤ 17592186043904) :
    FnH Try.prog 3 [.c (.nm 0), .c (.nm 1)] [(0, some (false, .rd 1 want.length (ivs want))), (1, some (false, .rd 1 held.length (ivs held)))] 2 ⟨.t (.c (.b true)), [], [], []⟩ := by
  refine fnR (fn := Try.f3) 52 rfl rfl rfl (args' := [.c (.nm 0), .c (.nm 1)]) (H' := [(0, some (false, .rd 1 want.length (ivs want))), (1, some (false, .rd 1 held.length (ivs held)))]) (nx' := 2) (fun e w M => ?_) rfl rfl rfl rfl fun w => ?_
  · obtain ⟨e', M', q1, q2⟩ := slr2 (v1 := .c (.nm 0)) (v2 := .c (.nm 1)) (SlR.rd rfl) (SlR.rd rfl) e w M
    exact ⟨e', M', by simp [q1, q2]⟩
  have hu := uq_le want
  have hb : (bnd held (uq want)).length ≤ (uq want).length := (List.takeWhile_sublist _).length_le
  have hbu : ((uq want).take (bnd held (uq want)).length) = bnd held (uq want) := List.prefix_iff_eq_take.1 (List.takeWhile_prefix _) |>.symm
  refine rn [(13, .spec ⟨.t (.c (.sub 2 0 0 want.length)), [(true, .own 3 1 (want.length + 1) (ivs (want ++ [-77])))], [], []⟩), (15, .spec ⟨.t (.c (.sub 3 0 0 held.length)), [(true, .own 3 1 (held.length + 1) (ivs (held ++ [-77])))], [], []⟩),
    (19, .spec ⟨.tup [.c (.nm 4), .c (iT (mis held (uq want)))], [(true, .own 3 1 (bnd held (uq want)).length (ivs (bnd held (uq want))))], [], []⟩),
    (25, .spec ⟨.tup [.c (.sub 5 0 0 (bnd held (uq want)).length), .c (iT (mis held (uq want)))], [(true, .own 3 1 (uq want).length (ivs (uq want)))], [], []⟩),
    (30, .spec ⟨.t (.c (.b true)), [], [], []⟩), (37, .spec ⟨.tup [], [], [(4, none)], []⟩), (42, .spec ⟨.t (.c (.b true)), [], [], []⟩), (47, .spec ⟨.t (.c (.b true)), [], [], []⟩), (50, .spec ⟨.t (.c (.b true)), [], [], []⟩)] rfl ?_ ?_
  · repeat' (first | exact trivial | exact rfl | refine And.intro ?_ ?_)
    all_goals first | intro _ | skip
    all_goals first
      | exact lworks_h
      | exact keptI_h (zs := held) rfl (SlR.rd rfl) z2
      | exact keptI_h (zs := want) rfl (SlR.rd rfl) z1
      | exact spoilI_h rfl (by omega)
      | exact lendI_h (zs := want) (SlR.rd rfl) z1
      | exact lendI_h (zs := held) (SlR.rd rfl) z2
      | exact wanted_h (want := want) (held := held) (SlR.sub rfl (Nat.le_succ _) (by simp [ivs])) (SlR.sub rfl (Nat.le_succ _) (by simp [ivs])) z1 (by omega)
      | exact rwanted0 (want := want) (held := held) (SlR.rd rfl) (SlR.rd rfl) z1 z2
      | exact sameInts_eq (l := bnd held (uq want)) (SlR.own rfl) (SlR.sub rfl hb (by rw [Nat.mul_one, ← ivs_take, hbu])) (by omega)
  · exact ret0 tysOk rfl (by (repeat' (first | exact trivial | exact rfl | exact trivial | exact fun _ => trivial | simp | refine And.intro ?_ ?_))) rfl
theorem leaseWants_true (want held : List Int) (A1 A2 : Option Addr) (c1 c2 : Nat) (w : World) (z1 : want.length ≤ 17592186043904) (z2 : held.length ≤ 17592186043904) (h1 : Vc.Rds w A1 want.length c1 1 (ivs want)) (h2 : Vc.Rds w A2 held.length c2 1 (ivs held)) :
    Calls Try.prog 3 #[.slice A1 want.length c1, .slice A2 held.length c2] w fun e w' => e = .returned (.bool true) ∧ RowKit.Below w.heap.size w w' := by
  obtain ⟨e, M, v0, v1⟩ := memr2 h1 h2
  have := fnh_law (leaseWants_h want held z1 z2) rfl rfl M
  rw [show ([.c (.nm 0), .c (.nm 1)] : List TV).map (TV.den e) = [e.val 0, e.val 1] from rfl, v0, v1] at this
  exact this
end Cw
