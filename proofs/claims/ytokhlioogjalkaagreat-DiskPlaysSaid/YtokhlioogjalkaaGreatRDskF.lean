/- A disk that goes its own way: slices.Clone, maps.Clone, Fork; Size. -/
import Derived.Test.YtokhlioogjalkaaGreatDisk8
import Derived.Test.YtokhlioogjalkaaGreatVcS
import Derived.Shelf.SlMaps.Clone
namespace Cw
open Go Vc
open Go.Proofs
set_option maxRecDepth 100000
/-- A slice that is not nil, held against nil. -/
theorem spec_nnilR {P : Program} {L : LL} {H : HL} {nx k n s : Nat} {b : Bool} {U E : TypeId} {xs : List Value} {tys : List (Nat × Ty)} (hty : TysOk P tys) {o : Oper} {T T' : TypeId} {x y : Operand} {I : Ty} (hop : o.op = .binOp .eql T x y T') (hx : ev L x = some (.c (.nm k))) (hy : ev L y = some (.c .nsl)) (hT : look T tys = some I) (hI : I.d = .slice E)
    (hk : lookH H k = some (b, .own U s n xs)) (hn : 0 < n) : Spec P L H nx o ⟨.t (.c (.b false)), [], [], []⟩ := by
  refine ⟨fun F => step_pure fun e a w S => ?_⟩
  obtain ⟨dt, hd', hId⟩ := (hty _ _ hT).und
  rw [hI] at hId
  simp only [TyD.is] at hId
  subst hId
  have hown := (S.ob k b _ hk).1.1
  obtain ⟨A, c, hv0⟩ : ∃ A c, e.val k = .slice (some A) n c := by
    rcases hown.2 with ⟨_, h0⟩ | ⟨g, cap, cur, h1, _⟩
    · omega
    · exact ⟨_, _, h1⟩
  have hv : a.eval x = .slice (some A) n c := by
    rw [ev_ok S hx]
    exact hv0
  have heq : (Op.equal T (.slice (some A) n c) (.slice none 0 0)).run P w = .ok false w := eq_sn 9999 hd' _ _ _
  have hbin := run_eq (w := w) (op := .eql) rfl (T := T) (x := .slice (some A) n c) (y := .slice none 0 0) (r := false) heq (by simp) (by simp) (by simp) (by simp)
  have hg : (eqGuard .eql T x y (.slice (some A) n c) (.slice none 0 0)).run P w = .ok () w := rfl
  simp only [execOp, hop, Sem.run_bind, hv, ev_ok S hy, TV.den, CV.den, hg, Result.andThen_ok, hbin, Sem.run_pure]
  rfl
def cloneR : Go.Shelf.Ren := ⟨fun | 5 => 29 | 7 => 51 | n => n, fun | 3 => 69 | 4 => 4 | 20 => 20 | 23 => 56 | 25 => 3 | n => n, fun n => n⟩
theorem cloneL : Go.Proofs.SlLaysW.n5 Tryz.prog cloneR := {
  mixed := by kernel_rfl
  f5 := ⟨Tryz.f29.name, by decide, Tryz.func29.trans (congrArg some (by kernel_rfl))⟩
  f7 := Tryz.func51.trans (congrArg some (by kernel_rfl))
  t4 := Tryz.underlying4
  a4 := Tryz.isAgg4
  z4 := Tryz.sizeOf4
  v4 := Tryz.zeroValue4
  t20 := Tryz.underlying20
  a20 := Tryz.isAgg20
  z20 := Tryz.sizeOf20
  v20 := Tryz.zeroValue20
  t23 := Tryz.underlying56
  a23 := Tryz.isAgg56
  z23 := Tryz.sizeOf56
  v23 := Tryz.zeroValue56 }
/-- maps.Clone. -/
theorem mclone_h {H : HL} {nx k : Nat} {b : Bool} {m : List (Int × Value)} (hk : lookH H k = some (b, .mp m)) : FnH Tryz.prog 29 [.c (.mp k)] H nx ⟨.t (.c (.mp nx)), [(true, .mp m)], [], []⟩ := by
  refine ⟨fun _ hargs e w M => ?_⟩
  obtain ⟨⟨_, es, clock, h1, h2, h3, h4⟩, _⟩ := M.ob k b _ hk
  refine Calls.mono (AnyW.maps_Clone cloneL (e.blk k) es clock w h1) ?_
  rintro en w' ⟨rfl, rfl⟩
  refine ⟨e.new nx w.heap.size, ?_, Mv.new ⟨fun g => Env.new_fp e nx _ g, ?_⟩⟩
  · simp [SV.den, TV.den, CV.den, Env.new_blk]
  · rw [Env.new_blk]
    exact ⟨es, clock, heap_alloc_new w _, h2, h3, h4⟩
set_option maxRecDepth 100000 in
set_option maxHeartbeats 1000000 in
theorem sclone_h {H : HL} {nx k : Nat} {b : Bool} {S : List ByteArray} (hk : lookH H k = some (b, .own 9 1 S.length (svs S))) (h0 : 0 < S.length) (hz : S.length ≤ 1000000) : FnH Tryz.prog 28 [.c (.nm k)] H nx ⟨.t (.c (.nm nx)), [(true, .own 9 1 S.length (svs S))], [], []⟩ := by
  refine fnN (fn := Tryz.f28) 8 rfl rfl rfl (args' := [.c (.nm 0)]) (H' := [(0, some (false, .own 9 1 S.length (svs S)))]) (nx' := 1) (fun e w M => ⟨_, mem_one hk M (by repeat' (first | exact trivial | exact rfl | refine And.intro ?_ ?_)), rfl⟩) rfl rfl rfl (inR_one _) rfl fun w => ?_
  have m1 : 0 + S.length ≤ maxLen := by simp [maxLen]; omega
  have m2 : (0 + S.length) * 16 ≤ 140737488355328 := by omega
  have o1 : ∀ u ∈ svs S, u.oneCell' = true := by
    intro u hu
    obtain ⟨s, _, rfl⟩ := List.mem_map.1 hu
    rfl
  have hl := svs_length S
  refine rn [(4, .spec ⟨.t (.c (.b false)), [], [], []⟩)] rfl (by (repeat' (first | exact trivial | exact rfl | exact trivial | exact fun _ => trivial | first | exact spec_nnilR tysOk rfl rfl rfl rfl rfl rfl h0 | decide | refine And.intro ?_ ?_))) ?_
  refine ⟨fun h => (by cases h), fun _ => ?_⟩
  refine rn [(5, .dec true)] rfl (by (repeat' (first | exact trivial | exact rfl | exact trivial | exact fun _ => trivial | first | exact m1 | exact m2 | exact o1 | decide | refine And.intro ?_ ?_))) ?_
  exact retN tysOk [(nx, 2)] rfl (by simp only [retS, SV.eqs, eqsT, TV.eqs, CV.eqs, ren_one]; repeat' (first | exact trivial | exact rfl | refine And.intro ?_ ?_)) (by simp only [newsH, subH, ren_one]; (repeat' (first | exact trivial | exact rfl | exact trivial | exact fun _ => trivial | first | omega | rfl | refine And.intro ?_ ?_))) (by simp [injK, keysH, newsH, inL]) rfl
section
variable {H : HL} {nx d b : Nat} {S : List ByteArray} {W : List (Int × Wr)} {last : Int}
theorem sizeA (hd : lookH H d = some (true, .ab (dP S W last b))) : FnH Tryz.prog 10 [.c (.nm d)] H nx ⟨.t (.c (iT (S.length : Nat))), [], [(d, some (.ab (dP S W last b)))], []⟩ := by
  refine fnA (fn := Tryz.f10) 8 rfl rfl rfl hd (ptr b) (disk_pins _ _ _ _) (disk_pins _ _ _ _) rfl rfl rfl (v' := .t (.c (iT (S.length : Nat)))) (news' := []) rfl rfl rfl rfl fun w Wr => ?_
  refine At.unfoldTo 0 (L1 := (0, .t (.c (.p 1 0))) :: []) (H1 := [(1, some (true, .cells [.nm 2, .mp 3, iT (last)] 58)), (2, some (true, .own 9 1 (S).length (svs (S)))), (3, some (true, .mp (wm (W)))), (4, some (false, .pin 1 b)), (0, none), (0, some (true, .ab (dP (S) (W) (last) b)))]) (nx1 := 5) rfl rfl rfl rfl rfl rfl ?_
  refine rn [] rfl (by repeat' (first | exact trivial | exact rfl | refine And.intro ?_ ?_)) ?_
  refine Done.fold [(0, 1), (1, 2), (2, 3), (3, 4)] (diskO b (S) (wm (W)) (last)) (.p 0 0) (by repeat' (first | exact trivial | exact rfl | refine And.intro ?_ ?_)) rfl rfl (fun _ => rfl) ?_
  exact retM tysOk [(0, 5)] rfl (by repeat' (first | exact trivial | exact rfl | refine And.intro ?_ ?_)) (by repeat' (first | exact trivial | exact rfl | refine And.intro ?_ ?_)) rfl rfl
set_option maxRecDepth 100000 in
set_option maxHeartbeats 2000000 in
theorem forkA (hd : lookH H d = some (true, .ab (dP S W last b))) (h0 : 0 < S.length) (hz : S.length ≤ 1000000) : FnH Tryz.prog 7 [.c (.nm d)] H nx ⟨.t (.c (.nm nx)), [(true, .ab (dX S W last))], [(d, some (.ab (dP S W last b)))], []⟩ := by
  refine fnA (fn := Tryz.f7) 19 rfl rfl rfl hd (ptr b) (disk_pins _ _ _ _) (disk_pins _ _ _ _) rfl rfl rfl (v' := .t (.c (.nm 1))) (news' := [(true, .ab (dX S W last))]) rfl rfl rfl rfl fun w Wr => ?_
  refine At.unfoldTo 0 (L1 := (0, .t (.c (.p 1 0))) :: []) (H1 := [(1, some (true, .cells [.nm 2, .mp 3, iT (last)] 58)), (2, some (true, .own 9 1 (S).length (svs (S)))), (3, some (true, .mp (wm (W)))), (4, some (false, .pin 1 b)), (0, none), (0, some (true, .ab (dP (S) (W) (last) b)))]) (nx1 := 5) rfl rfl rfl rfl rfl rfl ?_
  refine rn [(7, .spec ⟨.t (.c (.nm 5)), [(true, .own 9 1 S.length (svs S))], [], []⟩), (12, .spec ⟨.t (.c (.mp 6)), [(true, .mp (wm W))], [], []⟩)] rfl (by (repeat' (first | exact trivial | exact rfl | exact trivial | exact fun _ => trivial | first | exact sclone_h rfl h0 hz | exact mclone_h rfl | decide | refine And.intro ?_ ?_))) ?_
  refine Done.pin 7 rfl fun b' => ?_
  refine Done.fold [(0, 1), (1, 2), (2, 3), (3, 4)] (diskO b S (wm W) last) (.p 0 0) (by repeat' (first | exact trivial | exact rfl | refine And.intro ?_ ?_)) rfl rfl (fun _ => rfl) ?_
  refine Done.foldR 2 (.p 7 0) [(0, 7), (1, 5), (2, 6), (3, 8)] (diskO b' S (wm W) last) (.p 0 0) rfl (by repeat' (first | exact trivial | exact rfl | refine And.intro ?_ ?_)) (by repeat' (first | exact trivial | exact rfl | refine And.intro ?_ ?_)) rfl rfl (fun _ => rfl) ?_
  refine Done.weak 10 (φ' := dX S W last) rfl (exP_stable fun b => absP_stable _ _) (fun v F w h => ⟨b', h⟩) ?_
  exact retM tysOk [(0, 9), (1, 10)] rfl (by repeat' (first | exact trivial | exact rfl | refine And.intro ?_ ?_)) (by repeat' (first | exact trivial | exact rfl | refine And.intro ?_ ?_)) rfl rfl
end
end Cw
