/- A side of any disk: begun, read, changed, by reckoning. -/
import Derived.Test.YtclcibpghonidaaGreatDoorSoft
namespace Cw
open Go Vc
open Go.Proofs
set_option maxRecDepth 100000
theorem adB_none {last at' o : Int} {t : ByteArray} {n : Nat} (h1 : 0 ≤ at' ∧ at' < 2048) (h2 : fcheck o t.size = 0) (h4 : n < 1024) : adB last at' o t n [] = 0 := by
  rw [adB, if_neg, if_neg, if_neg (by omega)]
  · simp
  · rintro (h | h | h)
    · omega
    · omega
    · exact h h2
section
variable {H : HL} {nx d s q b bd bk : Nat} {b1 : Bool} {V : DV} {W : WW} {R : List Ch} {fly : List (Int × Int)} {last node : Int} {S : List ByteArray} {Y : List (Int × Wr)}
set_option maxRecDepth 100000 in
set_option maxHeartbeats 4000000 in
/-- A new side. -/
theorem softNewG (hd : lookH H d = some (true, .ab (dP S Y last bk))) (hn : node = 0 ∨ node = 1) :
    FnH Tryz.prog 44 [.c (.nm d), .c (iT node), .c (iT 0)] H nx ⟨.tup [.c (.nm nx), .c (iT 0)], [(true, .ab (sfX node bk))], [(d, some (.ab (dP S Y last bk)))], []⟩ := by
  refine fnAs (fn := Tryz.f44) 33 rfl rfl rfl (args' := [.c (.nm 0), .c (iT node), .c (iT 0)]) [(d, dP S Y last bk, dP S Y last bk)] [] ⟨⟨hd, ptr bk, disk_pins _ _ _ _, disk_pins _ _ _ _⟩, trivial⟩ trivial (by simp) rfl rfl rfl rfl (v' := .tup [.c (.nm 1), .c (iT 0)]) (news' := [(true, .ab (sfX node bk))]) rfl rfl rfl rfl rfl fun w Wh => ?_
  refine rn [(10, .spec ⟨.t (.c (.b false)), [], [], []⟩)] rfl (by (repeat' (first | exact trivial | exact rfl | exact nilDk rfl rfl rfl rfl | exact fun _ => nilDk rfl rfl rfl rfl | refine And.intro ?_ ?_))) ?_
  refine ⟨fun h => (by cases h), fun _ => ?_⟩
  refine rn [] rfl (by repeat' (first | exact trivial | exact rfl | refine And.intro ?_ ?_)) ?_
  refine ⟨fun h => ?_, fun _ => ?_⟩
  · exfalso
    have h' : (((decide (node < 0) || decide (2 ≤ node)) || decide ((0 : Int) < 0)) || decide ((4294967295 : Int) < 0)) = true := h
    simp only [Bool.or_eq_true, decide_eq_true_eq] at h'
    omega
  · refine At.num bk ?_
    refine At.alias 0 0 1 rfl (disk_pins _ _ _ _) rfl rfl ?_
    refine rn [(26, .spec ⟨.t (.c (.nm 2)), [(true, .ab (depX [] 0))], [], []⟩)] rfl (by (repeat' (first | exact trivial | exact rfl | exact depNew | exact fun _ => depNew | refine And.intro ?_ ?_))) ?_
    refine Done.ex (φ := depP [] 0) 2 rfl (fun b => absP_stable _ _) fun bd => ?_
    refine Done.newE (frzP []) (.pointer none) (frzP_stable _) rfl (fun w p hp => by cases hp) ?_
    refine Done.pin 4 rfl fun b => ?_
    refine Done.foldR 6 (.p 4 0) [(0, 4), (1, 2), (2, 5), (3, 3), (4, 1), (5, 6)] (sfO [] [] 0 [] node b bd bk) (.p 0 0) rfl (by repeat' (first | exact trivial | exact rfl | refine And.intro ?_ ?_)) (by repeat' (first | exact trivial | exact rfl | refine And.intro ?_ ?_)) rfl rfl (fun _ => rfl) ?_
    refine Done.weak 7 (φ' := sfX node bk) rfl (exP_stable fun _ => sfB_st _ _ _ _ _ _) (fun v F w h => ⟨(b, bd), sfB_of DR.nil v F w h⟩) ?_
    exact retM tysOk [(0, 0), (1, 7)] rfl (by repeat' (first | exact trivial | exact rfl | refine And.intro ?_ ?_)) (by repeat' (first | exact trivial | exact rfl | refine And.intro ?_ ?_)) rfl rfl
set_option maxRecDepth 100000 in
set_option maxHeartbeats 4000000 in
/-- A sector is read. -/
theorem softReadG (hs : lookH H s = some (true, .ab (sfP V W R.length fly node b bd bk))) (hd : lookH H d = some (true, .ab (dP S Y last bk))) (hsd : s ≠ d) (h : DR V W R) {k : Int} {t : ByteArray} (hk : rdE S.length k = 0) (ht : rdT S k = t) (hz : t.size ≤ 9223372036854775807) {t2 : ByteArray} {e2 : Int} (hv : pt t (vwP R k) = t2 ∧ pte t (vwP R k) = e2) :
    FnH Tryz.prog 122 [.c (.nm s), .c (iT k)] H nx ⟨.tup [.c (.s t2), .c (iT e2)], [], [(s, some (.ab (sfB R fly node b bd bk))), (d, some (.ab (dP S Y last bk)))], []⟩ := by
  refine fnAs (fn := Tryz.f122) 29 rfl rfl rfl (args' := [.c (.nm 0), .c (iT k)]) [(s, sfP V W R.length fly node b bd bk, sfB R fly node b bd bk), (d, dP S Y last bk, dP S Y last bk)] [] ⟨⟨hs, ptr b, sf_pins _ _ _ _ _ _ _ _, sfB_pins _ _ _ _ _ _⟩, ⟨hd, ptr bk, disk_pins _ _ _ _, disk_pins _ _ _ _⟩, trivial⟩ trivial (by simp [hsd]) rfl rfl rfl rfl (v' := .tup [.c (.s t2), .c (iT e2)]) (news' := []) rfl rfl rfl rfl rfl fun w Wh => ?_
  refine At.unfoldTo 0 (L1 := (0, .t (.c (.p 2 0))) :: [(1, .t (.c (iT k)))]) (H1 := [(2, some (true, .cells [.nm 3, .p 6 0, iT node, iT 0, .mp 5] 79)), (3, some (true, .ab (depP V (R.length : Nat) bd))), (4, some (true, .ab (frzP W))), (5, some (true, .mp (gm iV fly))), (6, some (false, .pin 6 bk)), (7, some (false, .pin 2 b)), (0, none), (0, some (true, .ab (sfP V W R.length fly node b bd bk))), (1, some (true, .ab (dP S Y last bk)))]) (nx1 := 8) rfl rfl rfl rfl rfl rfl ?_
  have hr := fun (H : HL) (nx : Nat) (h1 : lookH H 1 = some (true, .ab (dP S Y last bk))) (h6 : lookH H 6 = some (false, .pin 6 bk)) => fnh_al1 h1 (disk_pins _ _ _ _) h6 (readA (nx := nx) h1 k)
  simp only [ht, hk] at hr
  have hw := fun (H : HL) (nx : Nat) (h3 : lookH H 3 = some (true, .ab (depP V R.length bd))) => viewP (nx := nx) h3 h k t hz
  simp only [hv.1, hv.2] at hw
  refine rn [(14, .spec ⟨.tup [.c (.s t), .c (iT 0)], [], [(1, some (.ab (dP S Y last bk)))], []⟩), (18, .dec false), (26, .spec ⟨.tup [.c (.s t2), .c (iT e2)], [], [(3, some (.ab (depP V R.length bd)))], []⟩)] rfl (by (repeat' (first | exact trivial | exact rfl | exact trivial | exact fun _ => trivial | first | exact hr _ _ rfl rfl | exact hw _ _ rfl | rfl | decide | refine And.intro ?_ ?_))) ?_
  refine Done.fold [(0, 2), (1, 3), (2, 4), (3, 5), (4, 6), (5, 7)] (sfO V W R.length fly node b bd bk) (.p 0 0) (by (repeat' (first | exact trivial | exact rfl | exact trivial | exact fun _ => trivial | refine And.intro ?_ ?_))) rfl rfl (fun _ => rfl) ?_
  refine Done.weak 8 (φ' := sfB R fly node b bd bk) rfl (sfB_st _ _ _ _ _ _) (sfB_of h) ?_
  exact retM tysOk [(0, 8), (1, 1)] rfl (by repeat' (first | exact trivial | exact rfl | refine And.intro ?_ ?_)) (by repeat' (first | exact trivial | exact rfl | refine And.intro ?_ ?_)) rfl rfl
set_option maxRecDepth 100000 in
set_option maxHeartbeats 4000000 in
/-- A change with none told ahead. -/
theorem softAddG (hs : lookH H s = some (true, .ab (sfP V W R.length fly node b bd bk))) (hd : lookH H d = some (true, .ab (dP S Y last bk))) (hsd : s ≠ d) (h : DR V W R) (hR : R.length ≤ 500) {k o : Int} {t : ByteArray} (hk : rdE S.length k = 0) (hk2 : 0 ≤ k ∧ k < 2048) (ho : fcheck o t.size = 0) (hts : t.size ≤ 9223372036854775807) :
    FnH Tryz.prog 125 [.c (.nm s), .c (iT k), .agg [iT o, .s t], .c .nsl] H nx ⟨.tup [.c (iT ((R.length : Int) + 1)), .c (iT 0)], [], [(s, some (.ab (sfB (R ++ [newC (und R) R.length k (o, t) []]) fly node b bd bk))), (d, some (.ab (dP S Y last bk)))], []⟩ := by
  refine fnAs (fn := Tryz.f125) 34 rfl rfl rfl (args' := [.c (.nm 0), .c (iT k), .agg [iT o, .s t], .c .nsl]) [(s, sfP V W R.length fly node b bd bk, sfB (R ++ [newC (und R) R.length k (o, t) []]) fly node b bd bk), (d, dP S Y last bk, dP S Y last bk)] [] ⟨⟨hs, ptr b, sf_pins _ _ _ _ _ _ _ _, sfB_pins _ _ _ _ _ _⟩, ⟨hd, ptr bk, disk_pins _ _ _ _, disk_pins _ _ _ _⟩, trivial⟩ trivial (by simp [hsd]) rfl rfl rfl rfl (v' := .tup [.c (iT ((R.length : Int) + 1)), .c (iT 0)]) (news' := []) rfl rfl rfl rfl rfl fun w Wh => ?_
  refine At.unfoldTo 0 (L1 := (0, .t (.c (.p 2 0))) :: [(1, .t (.c (iT k))), (2, .t (.agg [iT o, .s t])), (3, .t (.c .nsl))]) (H1 := [(2, some (true, .cells [.nm 3, .p 6 0, iT node, iT 0, .mp 5] 79)), (3, some (true, .ab (depP V (R.length : Nat) bd))), (4, some (true, .ab (frzP W))), (5, some (true, .mp (gm iV fly))), (6, some (false, .pin 6 bk)), (7, some (false, .pin 2 b)), (0, none), (0, some (true, .ab (sfP V W R.length fly node b bd bk))), (1, some (true, .ab (dP S Y last bk)))]) (nx1 := 8) rfl rfl rfl rfl rfl rfl ?_
  have hr := fun (H : HL) (nx : Nat) (h1 : lookH H 1 = some (true, .ab (dP S Y last bk))) (h6 : lookH H 6 = some (false, .pin 6 bk)) => fnh_al1 h1 (disk_pins _ _ _ _) h6 (readA (nx := nx) h1 k)
  simp only [hk] at hr
  have hVl := h.le
  have hab : adB R.length k o t V.length [] = 0 := adB_none hk2 ho (by omega)
  have hadd := fun (H : HL) (nx : Nat) (h3 : lookH H 3 = some (true, .ab (depP V R.length bd))) => addP (nx := nx) h3 SlQ.nil (by simp only [List.length_nil]; omega) hts h hab
  refine rn [(18, .spec ⟨.tup [.c (.s (rdT S k)), .c (iT 0)], [], [(1, some (.ab (dP S Y last bk)))], []⟩), (22, .dec false), (31, .spec ⟨.tup [.c (iT ((R.length : Int) + 1)), .c (iT 0)], [], [(3, some (.ab (adP V R.length bd (newC (und R) R.length k (o, t) []))))], []⟩)] rfl (by (repeat' (first | exact trivial | exact rfl | exact trivial | exact fun _ => trivial | first | exact hr _ _ rfl rfl | exact hadd _ _ rfl | rfl | decide | refine And.intro ?_ ?_))) ?_
  refine Done.growP 3 4 rfl rfl (by decide) h hab (by simp only [List.length_nil]; omega) hts (by omega) rfl fun V' W' hdr' => ?_
  refine Done.fold [(0, 2), (1, 3), (2, 4), (3, 5), (4, 6), (5, 7)] (sfO V' W' (R ++ [newC (und R) R.length k (o, t) []]).length fly node b bd bk) (.p 0 0) (by repeat' (first | exact trivial | exact rfl | refine And.intro ?_ ?_)) rfl rfl (fun _ => rfl) ?_
  refine Done.weak 9 (φ' := sfB (R ++ [newC (und R) R.length k (o, t) []]) fly node b bd bk) rfl (sfB_st _ _ _ _ _ _) (sfB_of hdr') ?_
  exact retM tysOk [(0, 9), (1, 1)] rfl (by repeat' (first | exact trivial | exact rfl | refine And.intro ?_ ?_)) (by repeat' (first | exact trivial | exact rfl | refine And.intro ?_ ?_)) rfl rfl
end
end Cw
