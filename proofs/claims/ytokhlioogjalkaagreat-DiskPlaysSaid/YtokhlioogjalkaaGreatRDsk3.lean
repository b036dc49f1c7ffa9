/- The document's disk: Drop, Apply, About, Waiting, Issue, Raise, Swap, New, Fork by reckoning. -/
import Derived.Test.YtokhlioogjalkaaGreatRDsk2
namespace Cw
open Go Vc
open Go.Proofs
set_option maxRecDepth 100000
section
variable {H : HL} {nx d b : Nat} {S : List ByteArray} {W : List (Int × Wr)} {last : Int}
theorem rpassA (hd : lookH H d = some (true, .ab (rdP S W last b))) (h0 : 2 ≤ S.length) (hz : ∀ s ∈ S, s.size = 64) (node n : Int) : FnH Tryz.prog 52 [.c (.nm d), .c (iT node), .c (iT n)] H nx ⟨.t (.c (.b (psD (s1 S) node n))), [], [(d, some (.ab (rdP S W last b)))], []⟩ :=
  fnh_shut (O := rdO S W last b) (x := .p 0 0) (v' := .t (.c (.b (psD (s1 S) node n)))) (news' := []) hd rfl rfl rfl rfl rfl (rpassesU (d := 0) (l := 1) (m := 2) rfl rfl rfl h0 hz node n)
set_option maxRecDepth 100000 in
set_option maxHeartbeats 2000000 in
theorem rdropA (hd : lookH H d = some (true, .ab (rdP S W last b))) (z : W.length ≤ 1024) (k : Int) : FnH Tryz.prog 34 [.c (.nm d), .c (iT k)] H nx ⟨.t (.c (iT (drE W k))), [], [(d, some (.ab (rdP S (wdel k W) last b)))], []⟩ := by
  refine fnA (fn := Tryz.f34) 30 rfl rfl rfl hd (ptr b) (rd_pins _ _ _ _) (rd_pins _ _ _ _) rfl rfl rfl (v' := .t (.c (iT (drE W k)))) (news' := []) rfl rfl rfl rfl fun w Wr => ?_
  refine At.unfoldTo 0 (L1 := (0, .t (.c (.p 1 0))) :: [(1, .t (.c (iT k)))]) (H1 := [(1, some (true, .cells [.nm 2, .nm 3, iT last] 42)), (2, some (true, .own 9 1 S.length (svs S))), (3, some (true, .own 78 5 W.length (wrs W))), (4, some (false, .pin 1 b)), (0, none), (0, some (true, .ab (rdP S W last b)))]) (nx1 := 5) rfl rfl rfl rfl rfl rfl ?_
  have hfi := rfindQ (S := S) (W := W) (last := last) (by omega) k
  rcases fxW_ok k W with ⟨h1, h2⟩ | ⟨i, h0, h1, h2, h3, h4⟩
  · have e0 : fxW k W = -1 := by rw [fxW, if_neg (by omega)]
    have e1 : drE W k = 5 := by simp [drE, h1]
    rw [e0] at hfi
    rw [e1, wdel_none h1]
    refine rn [(8, .spec ⟨.t (.c (iT (-1))), [], [], []⟩), (10, .dec true)] rfl (by (repeat' (first | exact trivial | exact rfl | exact trivial | exact fun _ => trivial | first | exact hfi _ _ rfl rfl rfl | decide | refine And.intro ?_ ?_))) ?_
    refine Done.fold [(0, 1), (1, 2), (2, 3), (3, 4)] (rdO (S) (W) (last) b) (.p 0 0) (by (repeat' (first | exact trivial | exact rfl | exact trivial | exact fun _ => trivial | trivial | refine And.intro ?_ ?_))) rfl rfl (fun _ => rfl) ?_
    exact retM tysOk [(0, 5)] rfl (by (repeat' (first | exact trivial | exact rfl | exact trivial | exact fun _ => trivial | trivial | refine And.intro ?_ ?_))) (by repeat' (first | exact trivial | exact rfl | refine And.intro ?_ ?_)) rfl rfl
  · have e0 : fxW k W = (i : Nat) := by rw [fxW, h1, if_pos h0]
    have e1 : drE W k = 0 := by simp [drE, h2]
    rw [e0] at hfi
    rw [e1, h4]
    have g1 : decide ((i : Int) < 0) = false := decide_eq_false (by omega)
    have w1 : IntKind.i64.wrap ((i : Int) + 1) = (i : Int) + 1 := wrap_sm (by omega) (by omega)
    have c0 : (0 : Int) ≤ (i : Int) := by omega
    have c2 : (i : Int) ≤ (W.length : Int) := by omega
    have c3 : (0 : Int) ≤ IntKind.i64.wrap ((i : Int) + 1) := by omega
    have c4 : IntKind.i64.wrap ((i : Int) + 1) ≤ (W.length : Int) := by omega
    have o1 := wrs_one W
    have hll : (wrs W).length = W.length * 5 := wrs_length W
    have m1 : 0 + (i : Int).toNat + (W.length - (IntKind.i64.wrap ((i : Int) + 1)).toNat) ≤ maxLen := by simp [maxLen]; omega
    have m2 : (0 + (i : Int).toNat + (W.length - (IntKind.i64.wrap ((i : Int) + 1)).toNat)) * 48 ≤ 140737488355328 := by omega
    have m3 : 0 + (i : Int).toNat ≤ maxLen := by simp [maxLen]; omega
    have m4 : (0 + (i : Int).toNat) * 48 ≤ 140737488355328 := by omega
    have m5 : (IntKind.i64.wrap ((i : Int) + 1)).toNat + (W.length - (IntKind.i64.wrap ((i : Int) + 1)).toNat) ≤ W.length := by omega
    have m6 : 0 + (i : Int).toNat ≤ W.length := by omega
    have w2 : (IntKind.i64.wrap ((i : Int) + 1)).toNat = i + 1 := by omega
    have e5 : 0 + (i : Int).toNat + (W.length - (IntKind.i64.wrap ((i : Int) + 1)).toNat) = (W.eraseIdx i).length := by
      rw [List.length_eraseIdx, if_pos h0, w2, Int.toNat_natCast]
      omega
    have e6 : app (app [] (((wrs W).drop 0).take ((i : Int).toNat * 5))) (((wrs W).drop ((IntKind.i64.wrap ((i : Int) + 1)).toNat * 5)).take ((W.length - (IntKind.i64.wrap ((i : Int) + 1)).toNat) * 5)) = wrs (W.eraseIdx i) := by
      obtain ⟨s1, _⟩ := fcs_split wrC_len W i (by omega)
      obtain ⟨_, s2⟩ := fcs_split wrC_len W (i + 1) (by omega)
      have s3 : (fcs wrC (W.drop (i + 1))).length = (W.length - (i + 1)) * 5 := by rw [fcs_length wrC_len, List.length_drop]
      rw [app_eq, app_eq, List.nil_append, List.drop_zero, w2, Int.toNat_natCast]
      show (fcs wrC W).take (i * 5) ++ ((fcs wrC W).drop ((i + 1) * 5)).take _ = _
      rw [s1, s2, ← s3, List.take_length, List.eraseIdx_eq_take_drop_succ]
      simp only [fcs, List.map_append, List.flatten_append]
    refine rn [(8, .spec ⟨.t (.c (iT (i : Nat))), [], [], []⟩), (10, .dec false), (12, .dec true)] rfl (by (repeat' (first | exact trivial | exact rfl | exact trivial | exact fun _ => trivial | first | exact hfi _ _ rfl rfl rfl | exact g1 | exact c0 | exact c2 | exact c3 | exact c4 | exact ⟨c0, c2⟩ | exact ⟨c3, c4⟩ | exact m1 | exact m2 | exact m3 | exact m4 | exact m5 | exact m6 | exact o1 | decide | refine And.intro ?_ ?_))) ?_
    refine Done.fold [(0, 1), (1, 2), (2, 7), (3, 4)] (rdO (S) (W.eraseIdx i) (last) b) (.p 0 0) (by (repeat' (first | exact trivial | exact rfl | exact trivial | exact fun _ => trivial | first | exact e5 | exact e6 | refine And.intro ?_ ?_))) rfl rfl (fun _ => rfl) ?_
    exact retM tysOk [(0, 8)] rfl (by (repeat' (first | exact trivial | exact rfl | exact trivial | exact fun _ => trivial | first | exact e5 | exact e6 | refine And.intro ?_ ?_))) (by repeat' (first | exact trivial | exact rfl | refine And.intro ?_ ?_)) rfl rfl
set_option maxRecDepth 100000 in
set_option maxHeartbeats 2000000 in
theorem rapplyA (hd : lookH H d = some (true, .ab (rdP S W last b))) (z : W.length ≤ 1024) (h2 : 2 ≤ S.length) (hz : ∀ s ∈ S, s.size = 64) (hw : ∀ p ∈ W, inS S.length p.2.pl = true) (k : Int) :
    FnH Tryz.prog 32 [.c (.nm d), .c (iT k)] H nx ⟨.tup [.c (.b (apB S W k)), .c (iT (drE W k))], [], [(d, some (.ab (rdP (apS S W k) (wdel k W) last b)))], []⟩ := by
  refine fnA (fn := Tryz.f32) 39 rfl rfl rfl hd (ptr b) (rd_pins _ _ _ _) (rd_pins _ _ _ _) rfl rfl rfl (v' := .tup [.c (.b (apB S W k)), .c (iT (drE W k))]) (news' := []) rfl rfl rfl rfl fun w Wr => ?_
  refine At.unfoldTo 0 (L1 := (0, .t (.c (.p 1 0))) :: [(1, .t (.c (iT k)))]) (H1 := [(1, some (true, .cells [.nm 2, .nm 3, iT last] 42)), (2, some (true, .own 9 1 S.length (svs S))), (3, some (true, .own 78 5 W.length (wrs W))), (4, some (false, .pin 1 b)), (0, none), (0, some (true, .ab (rdP S W last b)))]) (nx1 := 5) rfl rfl rfl rfl rfl rfl ?_
  have hfi := rfindQ (S := S) (W := W) (last := last) (by omega) k
  rcases fxW_ok k W with ⟨q1, q2⟩ | ⟨i, h0, q1, q2, q3, q4⟩
  · have e0 : fxW k W = -1 := by rw [fxW, if_neg (by omega)]
    have e1 : drE W k = 5 := by simp [drE, q1]
    have e2 : apB S W k = false := by simp [apB, q1]
    have e3 : apS S W k = S := by simp [apS, q1]
    rw [e0] at hfi
    rw [e1, e2, e3, wdel_none q1]
    refine rn [(10, .spec ⟨.t (.c (iT (-1))), [], [], []⟩), (12, .dec true)] rfl (by (repeat' (first | exact trivial | exact rfl | exact trivial | exact fun _ => trivial | first | exact hfi _ _ rfl rfl rfl | decide | refine And.intro ?_ ?_))) ?_
    refine Done.fold [(0, 1), (1, 2), (2, 3), (3, 4)] (rdO (S) (W) (last) b) (.p 0 0) (by (repeat' (first | exact trivial | exact rfl | exact trivial | exact fun _ => trivial | trivial | refine And.intro ?_ ?_))) rfl rfl (fun _ => rfl) ?_
    exact retM tysOk [(0, 5)] rfl (by (repeat' (first | exact trivial | exact rfl | exact trivial | exact fun _ => trivial | trivial | refine And.intro ?_ ?_))) (by repeat' (first | exact trivial | exact rfl | refine And.intro ?_ ?_)) rfl rfl
  · have e0 : fxW k W = (i : Nat) := by rw [fxW, q1, if_pos h0]
    have e1 : drE W k = 0 := by simp [drE, q2]
    have hin := hw _ (wget_mem q2)
    have r1 : Vc.rowAt (wrs W) ((i : Int).toNat * 5) [iT W[i].1, iT W[i].2.node, iT W[i].2.ep, iT W[i].2.pl, .s W[i].2.s] := wrs_rd h0
    have dD := fun (H : HL) (nx d : Nat) (h : lookH H d = some (true, .ab (rdP S W last b))) => rdropA (nx := nx) h z k
    have e2 : apB S W k = psD (s1 S) W[i].2.node W[i].2.ep := by simp [apB, q2]
    have e3 : apS S W k = if psD (s1 S) W[i].2.node W[i].2.ep then S.set W[i].2.pl.toNat W[i].2.s else S := by simp [apS, q2]
    rw [e1] at dD
    rw [e0] at hfi
    rw [e1, e2, e3]
    generalize W[i].2 = x at *
    have hb := inS_iff.1 hin
    have hlt : x.pl.toNat < S.length := by have q5 : x.pl < (S.length : Int) := hb.2; have q6 : 0 ≤ x.pl := hb.1; omega
    have hsl : (svs S).length = S.length := svs_length S
    have g1 : decide ((i : Int) < 0) = false := decide_eq_false (by omega)
    have c0 : (0 : Int) ≤ (i : Int) := by omega
    have c1 : (i : Int) < (W.length : Int) := by omega
    have c5 : (i : Int).toNat * 5 < (wrs W).length := by rw [wrs_length]; omega
    refine rn [(10, .spec ⟨.t (.c (iT (i : Nat))), [], [], []⟩), (12, .dec false), (19, .ld [iT W[i].1, iT x.node, iT x.ep, iT x.pl, .s x.s]), (20005, .dec true)] rfl (by (repeat' (first | exact trivial | exact rfl | exact trivial | exact fun _ => trivial | first | exact hfi _ _ rfl rfl rfl | exact g1 | exact r1 | exact c0 | exact c1 | exact c5 | decide | refine And.intro ?_ ?_))) ?_
    refine At.foldR 0 (.p 1 0) [(0, 1), (1, 2), (2, 3), (3, 4)] (rdO S W last b) (.p 0 0) rfl (by repeat' (first | exact trivial | exact rfl | refine And.intro ?_ ?_)) (by repeat' (first | exact trivial | exact rfl | refine And.intro ?_ ?_)) rfl rfl (fun _ => rfl) ?_
    have pD := fun (H : HL) (nx d : Nat) (h : lookH H d = some (true, .ab (rdP S (wdel k W) last b))) => rpassA (nx := nx) h h2 hz x.node x.ep
    refine rn [(22, .spec ⟨.t (.c (iT 0)), [], [(6, some (.ab (rdP S (wdel k W) last b)))], []⟩), (28, .spec ⟨.t (.c (.b (psD (s1 S) x.node x.ep))), [], [(6, some (.ab (rdP S (wdel k W) last b)))], []⟩)] rfl (by (repeat' (first | exact trivial | exact rfl | exact trivial | exact fun _ => trivial | first | exact dD _ _ _ rfl | exact pD _ _ _ rfl | decide | refine And.intro ?_ ?_))) ?_
    refine ⟨fun hp => ?_, fun hp => ?_⟩
    · have hp' : psD (s1 S) x.node x.ep = false := by simpa using hp
      rw [hp', if_neg (by simp)]
      refine rn [] rfl (by repeat' (first | exact trivial | exact rfl | refine And.intro ?_ ?_)) ?_
      exact retM tysOk [(0, 6)] rfl (by repeat' (first | exact trivial | exact rfl | refine And.intro ?_ ?_)) (by repeat' (first | exact trivial | exact rfl | refine And.intro ?_ ?_)) rfl rfl
    · have hp' : psD (s1 S) x.node x.ep = true := by simpa using hp
      rw [hp', if_pos rfl]
      refine At.unfoldTo (O := rdO S (wdel k W) last b) (x := .p 0 0) (nx1 := 11) 6 rfl rfl rfl rfl rfl rfl ?_
      refine rn [] rfl (by (repeat' (first | exact trivial | exact rfl | exact trivial | exact fun _ => trivial | first | exact hb.1 | exact hb.2 | (show x.pl.toNat * 1 + 1 ≤ (svs S).length; omega) | decide | refine And.intro ?_ ?_))) ?_
      refine Done.fold [(0, 7), (1, 8), (2, 9), (3, 10)] (rdO (S.set x.pl.toNat x.s) (wdel k W) last b) (.p 0 0) (by (repeat' (first | exact trivial | exact rfl | exact trivial | exact fun _ => trivial | first | exact (List.length_set ..).symm | exact set_svs hlt | refine And.intro ?_ ?_))) rfl rfl (fun _ => rfl) ?_
      exact retM tysOk [(0, 11)] rfl (by repeat' (first | exact trivial | exact rfl | refine And.intro ?_ ?_)) (by repeat' (first | exact trivial | exact rfl | refine And.intro ?_ ?_)) rfl rfl
set_option maxRecDepth 100000 in
set_option maxHeartbeats 1000000 in
theorem raboutA (hd : lookH H d = some (true, .ab (rdP S W last b))) (z : W.length ≤ 1024) (k : Int) :
    FnH Tryz.prog 21 [.c (.nm d), .c (iT k)] H nx ⟨.tup [.c (iT (abW W k).node), .c (iT (abW W k).ep), .c (iT (abW W k).pl), .c (iT (drE W k))], [], [(d, some (.ab (rdP S W last b)))], []⟩ := by
  refine fnA (fn := Tryz.f21) 38 rfl rfl rfl hd (ptr b) (rd_pins _ _ _ _) (rd_pins _ _ _ _) rfl rfl rfl (v' := .tup [.c (iT (abW W k).node), .c (iT (abW W k).ep), .c (iT (abW W k).pl), .c (iT (drE W k))]) (news' := []) rfl rfl rfl rfl fun w Wr => ?_
  refine At.unfoldTo 0 (L1 := (0, .t (.c (.p 1 0))) :: [(1, .t (.c (iT k)))]) (H1 := [(1, some (true, .cells [.nm 2, .nm 3, iT last] 42)), (2, some (true, .own 9 1 S.length (svs S))), (3, some (true, .own 78 5 W.length (wrs W))), (4, some (false, .pin 1 b)), (0, none), (0, some (true, .ab (rdP S W last b)))]) (nx1 := 5) rfl rfl rfl rfl rfl rfl ?_
  have hfi := rfindQ (S := S) (W := W) (last := last) (by omega) k
  rcases fxW_ok k W with ⟨h1, h2⟩ | ⟨i, h0, h1, h2, h3, h4⟩
  · have e0 : fxW k W = -1 := by rw [fxW, if_neg (by omega)]
    have e1 : drE W k = 5 := by simp [drE, h1]
    have e2 : abW W k = ⟨0, 0, 0, ⟨#[]⟩⟩ := by simp [abW, h1]
    rw [e0] at hfi
    rw [e1, e2]
    refine rn [(11, .spec ⟨.t (.c (iT (-1))), [], [], []⟩), (13, .dec true)] rfl (by (repeat' (first | exact trivial | exact rfl | exact trivial | exact fun _ => trivial | first | exact hfi _ _ rfl rfl rfl | decide | refine And.intro ?_ ?_))) ?_
    refine Done.fold [(0, 1), (1, 2), (2, 3), (3, 4)] (rdO (S) (W) (last) b) (.p 0 0) (by (repeat' (first | exact trivial | exact rfl | exact trivial | exact fun _ => trivial | trivial | refine And.intro ?_ ?_))) rfl rfl (fun _ => rfl) ?_
    exact retM tysOk [(0, 5)] rfl (by (repeat' (first | exact trivial | exact rfl | exact trivial | exact fun _ => trivial | trivial | refine And.intro ?_ ?_))) (by repeat' (first | exact trivial | exact rfl | refine And.intro ?_ ?_)) rfl rfl
  · have e0 : fxW k W = (i : Nat) := by rw [fxW, h1, if_pos h0]
    have e1 : drE W k = 0 := by simp [drE, h2]
    have e2 : abW W k = W[i].2 := by simp [abW, h2]
    have r1 := wrs_n h0
    have r2 := wrs_e h0
    have r3 := wrs_p h0
    rw [e0] at hfi
    rw [e1, e2]
    have g1 : decide ((i : Int) < 0) = false := decide_eq_false (by omega)
    have c0 : (0 : Int) ≤ (i : Int) := by omega
    have c1 : (i : Int) < (W.length : Int) := by omega
    have c5 : (i : Int).toNat * 5 < (wrs W).length := by rw [wrs_length]; omega
    refine rn [(11, .spec ⟨.t (.c (iT (i : Nat))), [], [], []⟩), (13, .dec false), (21, .ld [iT W[i].2.node]), (29, .ld [iT W[i].2.ep]), (37, .ld [iT W[i].2.pl])] rfl (by (repeat' (first | exact trivial | exact rfl | exact trivial | exact fun _ => trivial | first | exact hfi _ _ rfl rfl rfl | exact g1 | exact r1 | exact r2 | exact r3 | exact ⟨r1, trivial⟩ | exact ⟨r2, trivial⟩ | exact ⟨r3, trivial⟩ | exact c0 | exact c1 | exact c5 | decide | refine And.intro ?_ ?_))) ?_
    refine Done.fold [(0, 1), (1, 2), (2, 3), (3, 4)] (rdO (S) (W) (last) b) (.p 0 0) (by (repeat' (first | exact trivial | exact rfl | exact trivial | exact fun _ => trivial | trivial | refine And.intro ?_ ?_))) rfl rfl (fun _ => rfl) ?_
    exact retM tysOk [(0, 5)] rfl (by (repeat' (first | exact trivial | exact rfl | exact trivial | exact fun _ => trivial | trivial | refine And.intro ?_ ?_))) (by repeat' (first | exact trivial | exact rfl | refine And.intro ?_ ?_)) rfl rfl
set_option maxRecDepth 100000 in
set_option maxHeartbeats 2000000 in
theorem rwaitA (hd : lookH H d = some (true, .ab (rdP S W last b))) (hz : W.length ≤ 1024) (node : Int) :
    FnH Tryz.prog 13 [.c (.nm d), .c (iT node)] H nx ⟨.t (.c (.nm nx)), [(true, .own 3 1 (waitL W node).length (ivs (waitL W node)))], [(d, some (.ab (rdP S W last b)))], []⟩ := by
  refine fnA (fn := Tryz.f13) 38 rfl rfl rfl hd (ptr b) (rd_pins _ _ _ _) (rd_pins _ _ _ _) rfl rfl rfl (v' := .t (.c (.nm 1))) (news' := [(true, .own 3 1 (waitL W node).length (ivs (waitL W node)))]) rfl rfl rfl rfl fun w Wr => ?_
  refine At.unfoldTo 0 (L1 := (0, .t (.c (.p 1 0))) :: [(1, .t (.c (iT node)))]) (H1 := [(1, some (true, .cells [.nm 2, .nm 3, iT last] 42)), (2, some (true, .own 9 1 S.length (svs S))), (3, some (true, .own 78 5 W.length (wrs W))), (4, some (false, .pin 1 b)), (0, none), (0, some (true, .ab (rdP S W last b)))]) (nx1 := 5) rfl rfl rfl rfl rfl rfl ?_
  refine rn [] rfl (by repeat' (first | exact trivial | exact rfl | refine And.intro ?_ ?_)) ?_
  refine At.nil 5 3 1 rfl ?_
  refine At.loop (X := (j : Nat) ×' (j ≤ W.length)) 6 (fun s => W.length - s.1)
    (fun s => [(0, .t (.c (.p 1 0))), (1, .t (.c (iT node))), (5, .t (.c (.nm 5))), (6, .t (.c (iT (s.1 : Nat))))])
    (fun s => [(1, some (true, .cells [.nm 2, .nm 3, iT last] 42)), (2, some (true, .own 9 1 S.length (svs S))), (3, some (true, .own 78 5 W.length (wrs W))), (4, some (false, .pin 1 b)), (5, some (true, .own 3 1 (waitL (W.take s.1) node).length (ivs (waitL (W.take s.1) node))))]) ⟨0, by omega⟩ [] (fun k => wf rfl rfl) (by repeat' (first | exact trivial | exact rfl | refine And.intro ?_ ?_)) (by repeat' (first | exact trivial | exact rfl | refine And.intro ?_ ?_)) rfl fun s => ?_
  obtain ⟨j, hj⟩ := s
  have w3 : IntKind.i64.wrap ((j : Int) + 1) = ((j + 1 : Nat) : Int) := by rw [wrap_sm (by omega) (by omega)]; omega
  refine rn [] rfl (by repeat' (first | exact trivial | exact rfl | refine And.intro ?_ ?_)) ?_
  refine ⟨fun h => ?_, fun h => ?_⟩
  · have hlt : j < W.length := by have : (j : Int) < (W.length : Int) := of_decide_eq_true h; omega
    clear h
    have r1 := wrs_at hlt
    have r2 := wrs_n hlt
    have b0 : (0 : Int) ≤ (j : Int) := by omega
    have b1 : (j : Int) < (W.length : Int) := by omega
    have c5 : (j : Int).toNat * 5 < (wrs W).length := by rw [wrs_length]; omega
    have hsu := waitL_succ (node := node) hlt
    have hwl := waitL_le (W.take j) node
    rw [List.length_take] at hwl
    have m1 : (waitL (W.take j) node).length + 1 ≤ maxLen := by simp [maxLen]; omega
    have m2 : ((waitL (W.take j) node).length + 1) * 8 ≤ 140737488355328 := by omega
    refine rn [(23, .ld [iT W[j].2.node])] rfl (by (repeat' (first | exact trivial | exact rfl | exact trivial | exact fun _ => trivial | first | exact r2 | exact ⟨r2, trivial⟩ | exact b0 | exact b1 | exact c5 | decide | refine And.intro ?_ ?_))) ?_
    refine ⟨fun h => ?_, fun h => ?_⟩
    · rw [if_pos h] at hsu
      refine rn [(34, .ld [iT W[j].1])] rfl (by (repeat' (first | exact trivial | exact rfl | exact trivial | exact fun _ => trivial | first | exact m1 | exact m2 | exact r1 | exact ⟨r1, trivial⟩ | exact b0 | exact b1 | exact c5 | decide | refine And.intro ?_ ?_))) ?_
      refine roundEnd ⟨j + 1, by omega⟩ [(5, 7)] (by show W.length - (j + 1) < W.length - j; omega) (by (repeat' (first | exact trivial | exact rfl | exact w3 | exact fun _ => w3 | refine And.intro ?_ ?_))) ?_ rfl
      repeat' (first | exact trivial | exact rfl | refine And.intro ?_ ?_)
      · rw [hsu]; simp
      · rw [hsu, ivsApp, app_eq]; rfl
    · have hf : (W[j].2.node == node) = false := h
      rw [hf] at hsu
      simp only [Bool.false_eq_true, if_false, List.append_nil] at hsu
      refine rn [] rfl (by repeat' (first | exact trivial | exact rfl | refine And.intro ?_ ?_)) ?_
      refine roundEnd ⟨j + 1, by omega⟩ [] (by show W.length - (j + 1) < W.length - j; omega) (by (repeat' (first | exact trivial | exact rfl | exact w3 | exact fun _ => w3 | refine And.intro ?_ ?_))) ?_ rfl
      repeat' (first | exact trivial | exact rfl | refine And.intro ?_ ?_)
      · rw [hsu]
      · rw [hsu]
  · have hlt : j = W.length := by have : ¬ (j : Int) < (W.length : Int) := of_decide_eq_false h; omega
    have hw : waitL (W.take j) node = waitL W node := by rw [hlt, List.take_length]
    refine rn [] rfl (by repeat' (first | exact trivial | exact rfl | refine And.intro ?_ ?_)) (roundExit rfl ?_)
    refine rnA [] rfl (by repeat' (first | exact trivial | exact rfl | refine And.intro ?_ ?_)) ?_
    refine Done.fold [(0, 1), (1, 2), (2, 3), (3, 4)] (rdO S W last b) (.p 0 0) (by repeat' (first | exact trivial | exact rfl | refine And.intro ?_ ?_)) rfl rfl (fun _ => rfl) ?_
    exact retM tysOk [(0, 6), (1, 5)] rfl (by repeat' (first | exact trivial | exact rfl | refine And.intro ?_ ?_)) (by (repeat' (first | exact trivial | exact rfl | exact trivial | exact fun _ => trivial | first | exact congrArg List.length hw | exact congrArg ivs hw | refine And.intro ?_ ?_))) rfl rfl
end
end Cw
namespace Cw
open Go Vc
open Go.Proofs
set_option maxRecDepth 100000
section
variable {H : HL} {nx d b n : Nat} {S : List ByteArray} {W : List (Int × Wr)} {last : Int}
theorem isE_not {node ep : Int} (h : isE node ep = 1) : (((decide (node < 0) || decide (1 < node)) || decide (ep < 0)) || decide (4294967295 < ep)) = true := by
  unfold isE at h
  split at h
  · cases h
  · rename_i h'
    simp only [Bool.or_eq_true, decide_eq_true_eq]
    omega
theorem isE_yes {node ep : Int} (h : isE node ep = 0) : (((decide (node < 0) || decide (1 < node)) || decide (ep < 0)) || decide (4294967295 < ep)) = false := by
  unfold isE at h
  split at h
  · simp only [Bool.or_eq_false_iff, decide_eq_false_iff_not]
    omega
  · cases h
set_option maxRecDepth 100000 in
set_option maxHeartbeats 4000000 in
theorem rissueA (hd : lookH H d = some (true, .ab (rdP S W last b))) (h2 : 2 ≤ S.length) (hz : ∀ s ∈ S, s.size = 64) (hl0 : 0 ≤ last) (hl1 : last ≤ 1000000) (hwl : W.length ≤ 1024) (node ep pl : Int) (s : ByteArray) :
    FnH Tryz.prog 31 [.c (.nm d), .c (iT node), .c (iT ep), .c (iT pl), .c (.s s)] H nx ⟨.tup [.c (iT (isuN S W last node ep pl s)), .c (iT (isuE S W node ep pl s))], [], [(d, some (.ab (rdP S (isuW S W last node ep pl s) (isuL S W last node ep pl s) b)))], []⟩ := by
  refine fnA (fn := Tryz.f31) 82 rfl rfl rfl hd (ptr b) (rd_pins _ _ _ _) (rd_pins _ _ _ _) rfl rfl rfl (v' := .tup [.c (iT (isuN S W last node ep pl s)), .c (iT (isuE S W node ep pl s))]) (news' := []) rfl rfl rfl rfl fun w Wr => ?_
  refine At.unfoldTo 0 (L1 := (0, .t (.c (.p 1 0))) :: [(1, .t (.c (iT node))), (2, .t (.c (iT ep))), (3, .t (.c (iT pl))), (4, .t (.c (.s s)))]) (H1 := [(1, some (true, .cells [.nm 2, .nm 3, iT last] 42)), (2, some (true, .own 9 1 S.length (svs S))), (3, some (true, .own 78 5 W.length (wrs W))), (4, some (false, .pin 1 b)), (0, none), (0, some (true, .ab (rdP S W last b)))]) (nx1 := 5) rfl rfl rfl rfl rfl rfl ?_
  have hr := rreadQ (S := S) (W := W) (last := last) pl
  rcases (isE_cases node ep).symm with q1 | q1
  · have e0 : isuE S W node ep pl s = 1 := by simp [isuE, q1]
    have e1 : isuN S W last node ep pl s = 0 := by simp [isuN, e0]
    have e2 : isuL S W last node ep pl s = last := by simp [isuL, e0]
    have e3 : isuW S W last node ep pl s = W := by simp [isuW, e0]
    have d1 := isE_not q1
    rw [e0, e1, e2, e3]
    refine rn [(27, .dec true)] rfl (by (repeat' (first | exact trivial | exact rfl | exact d1 | exact fun _ => d1 | refine And.intro ?_ ?_))) ?_
    refine Done.fold [(0, 1), (1, 2), (2, 3), (3, 4)] (rdO (S) (W) (last) b) (.p 0 0) (by (repeat' (first | exact trivial | exact rfl | exact trivial | exact fun _ => trivial | trivial | refine And.intro ?_ ?_))) rfl rfl (fun _ => rfl) ?_
    exact retM tysOk [(0, 5)] rfl (by (repeat' (first | exact trivial | exact rfl | exact trivial | exact fun _ => trivial | trivial | refine And.intro ?_ ?_))) (by repeat' (first | exact trivial | exact rfl | refine And.intro ?_ ?_)) rfl rfl
  have d1 := isE_yes q1
  cases hin : inS S.length pl with
  | false =>
    have w0 : wrE S.length pl s = 1 := by simp [wrE, hin]
    have e0 : isuE S W node ep pl s = 1 := by simp [isuE, q1, w0]
    have e1 : isuN S W last node ep pl s = 0 := by simp [isuN, e0]
    have e2 : isuL S W last node ep pl s = last := by simp [isuL, e0]
    have e3 : isuW S W last node ep pl s = W := by simp [isuW, e0]
    have f2 : rdE S.length pl = 1 := by simp [rdE, hin]
    rw [f2] at hr
    rw [e0, e1, e2, e3]
    refine rn [(27, .dec false), (31, .spec ⟨.tup [.c (.s (rdT S pl)), .c (iT 1)], [], [], []⟩), (35, .dec true)] rfl (by (repeat' (first | exact trivial | exact rfl | exact d1 | exact fun _ => d1 | first | exact hr _ _ rfl rfl rfl | decide | refine And.intro ?_ ?_))) ?_
    refine Done.fold [(0, 1), (1, 2), (2, 3), (3, 4)] (rdO (S) (W) (last) b) (.p 0 0) (by (repeat' (first | exact trivial | exact rfl | exact trivial | exact fun _ => trivial | trivial | refine And.intro ?_ ?_))) rfl rfl (fun _ => rfl) ?_
    exact retM tysOk [(0, 5)] rfl (by (repeat' (first | exact trivial | exact rfl | exact trivial | exact fun _ => trivial | trivial | refine And.intro ?_ ?_))) (by repeat' (first | exact trivial | exact rfl | refine And.intro ?_ ?_)) rfl rfl
  | true =>
    have f2 : rdE S.length pl = 0 := by simp [rdE, hin]
    rw [f2] at hr
    by_cases hs : s.size = 64
    · have w0 : wrE S.length pl s = 0 := by simp [wrE, hin, hs]
      have d2 : (((s.size : Nat) : Int) != 64) = false := by rw [hs]; rfl
      by_cases q3 : 1024 ≤ W.length
      · have e0 : isuE S W node ep pl s = 2 := by simp [isuE, q1, w0, q3]
        have e1 : isuN S W last node ep pl s = 0 := by simp [isuN, e0]
        have e2 : isuL S W last node ep pl s = last := by simp [isuL, e0]
        have e3 : isuW S W last node ep pl s = W := by simp [isuW, e0]
        have d3 : decide ((1024 : Int) ≤ (W.length : Nat)) = true := decide_eq_true (by omega)
        rw [e0, e1, e2, e3]
        refine rn [(27, .dec false), (31, .spec ⟨.tup [.c (.s (rdT S pl)), .c (iT 0)], [], [], []⟩), (35, .dec false), (39, .dec false), (45, .dec true)] rfl (by (repeat' (first | exact trivial | exact rfl | exact d1 | exact fun _ => d1 | first | exact hr _ _ rfl rfl rfl | exact d2 | exact d3 | decide | refine And.intro ?_ ?_))) ?_
        refine Done.fold [(0, 1), (1, 2), (2, 3), (3, 4)] (rdO (S) (W) (last) b) (.p 0 0) (by (repeat' (first | exact trivial | exact rfl | exact trivial | exact fun _ => trivial | trivial | refine And.intro ?_ ?_))) rfl rfl (fun _ => rfl) ?_
        exact retM tysOk [(0, 5)] rfl (by (repeat' (first | exact trivial | exact rfl | exact trivial | exact fun _ => trivial | trivial | refine And.intro ?_ ?_))) (by repeat' (first | exact trivial | exact rfl | refine And.intro ?_ ?_)) rfl rfl
      · have d3 : decide ((1024 : Int) ≤ (W.length : Nat)) = false := decide_eq_false (by omega)
        have hp := rpassQ (W := W) (last := last) h2 hz node ep
        cases q4 : psD (s1 S) node ep with
        | false =>
          have e0 : isuE S W node ep pl s = 110 := by simp [isuE, q1, w0, q3, q4]
          have e1 : isuN S W last node ep pl s = 0 := by simp [isuN, e0]
          have e2 : isuL S W last node ep pl s = last := by simp [isuL, e0]
          have e3 : isuW S W last node ep pl s = W := by simp [isuW, e0]
          rw [q4] at hp
          rw [e0, e1, e2, e3]
          refine rn [(27, .dec false), (31, .spec ⟨.tup [.c (.s (rdT S pl)), .c (iT 0)], [], [], []⟩), (35, .dec false), (39, .dec false), (45, .dec false), (49, .spec ⟨.t (.c (.b false)), [], [], []⟩), (50, .dec true)] rfl (by (repeat' (first | exact trivial | exact rfl | exact d1 | exact fun _ => d1 | first | exact hr _ _ rfl rfl rfl | exact hp _ _ rfl rfl rfl | exact d2 | exact d3 | decide | refine And.intro ?_ ?_))) ?_
          refine Done.fold [(0, 1), (1, 2), (2, 3), (3, 4)] (rdO (S) (W) (last) b) (.p 0 0) (by (repeat' (first | exact trivial | exact rfl | exact trivial | exact fun _ => trivial | trivial | refine And.intro ?_ ?_))) rfl rfl (fun _ => rfl) ?_
          exact retM tysOk [(0, 5)] rfl (by (repeat' (first | exact trivial | exact rfl | exact trivial | exact fun _ => trivial | trivial | refine And.intro ?_ ?_))) (by repeat' (first | exact trivial | exact rfl | refine And.intro ?_ ?_)) rfl rfl
        | true =>
          have e0 : isuE S W node ep pl s = 0 := by simp [isuE, q1, w0, q3, q4]
          have e1 : isuN S W last node ep pl s = last + 1 := by simp [isuN, e0]
          have e2 : isuL S W last node ep pl s = last + 1 := by simp [isuL, e0]
          have e3 : isuW S W last node ep pl s = W ++ [(last + 1, ⟨node, ep, pl, s⟩)] := by simp [isuW, e0]
          have w1 : IntKind.i64.wrap (last + 1) = last + 1 := wrap_sm (by omega) (by omega)
          have o1 := wrs_one W
          have o2 : ∀ u ∈ [Value.int .i64 (IntKind.i64.wrap (last + 1)), .int .i64 node, .int .i64 ep, .int .i64 pl, .string s], u.oneCell' = true := by rw [w1]; exact wrC_one (last + 1, ⟨node, ep, pl, s⟩)
          have m1 : 0 + W.length + 1 ≤ maxLen := by simp [maxLen]; omega
          have m2 : (0 + W.length + 1) * 48 ≤ 140737488355328 := by omega
          have m3 : 0 + W.length ≤ maxLen := by simp [maxLen]; omega
          have m4 : (0 + W.length) * 48 ≤ 140737488355328 := by omega
          have e5 : 0 + W.length + 1 = (W ++ [(last + 1, (⟨node, ep, pl, s⟩ : Cw.Wr))]).length := by simp
          have e6 : app (app [] (wrs W)) [Value.int .i64 (IntKind.i64.wrap (last + 1)), .int .i64 node, .int .i64 ep, .int .i64 pl, .string s] = wrs (W ++ [(last + 1, ⟨node, ep, pl, s⟩)]) := by rw [w1, app_eq, app_eq, List.nil_append]; exact (fcs_app wrC W (last + 1, ⟨node, ep, pl, s⟩)).symm
          rw [q4] at hp
          rw [e0, e1, e2, e3]
          refine rn [(27, .dec false), (31, .spec ⟨.tup [.c (.s (rdT S pl)), .c (iT 0)], [], [], []⟩), (35, .dec false), (39, .dec false), (45, .dec false), (49, .spec ⟨.t (.c (.b true)), [], [], []⟩), (50, .dec false), (59, .dec true)] rfl (by (repeat' (first | exact trivial | exact rfl | exact d1 | exact fun _ => d1 | first | exact hr _ _ rfl rfl rfl | exact hp _ _ rfl rfl rfl | exact d2 | exact d3 | exact o1 | exact o2 | exact m1 | exact m2 | exact m3 | exact m4 | decide | refine And.intro ?_ ?_))) ?_
          refine Done.fold [(0, 1), (1, 2), (2, 8), (3, 4)] (rdO (S) (W ++ [(last + 1, ⟨node, ep, pl, s⟩)]) (last + 1) b) (.p 0 0) (by (repeat' (first | exact trivial | exact rfl | exact trivial | exact fun _ => trivial | first | exact e5 | exact e6 | exact w1 | refine And.intro ?_ ?_))) rfl rfl (fun _ => rfl) ?_
          exact retM tysOk [(0, 9)] rfl (by (repeat' (first | exact trivial | exact rfl | exact trivial | exact fun _ => trivial | first | exact e5 | exact e6 | exact w1 | refine And.intro ?_ ?_))) (by repeat' (first | exact trivial | exact rfl | refine And.intro ?_ ?_)) rfl rfl
    · have w0 : wrE S.length pl s = 3 := by simp [wrE, hin, hs]
      have e0 : isuE S W node ep pl s = 3 := by simp [isuE, q1, w0]
      have e1 : isuN S W last node ep pl s = 0 := by simp [isuN, e0]
      have e2 : isuL S W last node ep pl s = last := by simp [isuL, e0]
      have e3 : isuW S W last node ep pl s = W := by simp [isuW, e0]
      have d2 : (((s.size : Nat) : Int) != 64) = true := by simp; omega
      rw [e0, e1, e2, e3]
      refine rn [(27, .dec false), (31, .spec ⟨.tup [.c (.s (rdT S pl)), .c (iT 0)], [], [], []⟩), (35, .dec false), (39, .dec true)] rfl (by (repeat' (first | exact trivial | exact rfl | exact d1 | exact fun _ => d1 | first | exact hr _ _ rfl rfl rfl | exact d2 | decide | refine And.intro ?_ ?_))) ?_
      refine Done.fold [(0, 1), (1, 2), (2, 3), (3, 4)] (rdO (S) (W) (last) b) (.p 0 0) (by (repeat' (first | exact trivial | exact rfl | exact trivial | exact fun _ => trivial | trivial | refine And.intro ?_ ?_))) rfl rfl (fun _ => rfl) ?_
      exact retM tysOk [(0, 5)] rfl (by (repeat' (first | exact trivial | exact rfl | exact trivial | exact fun _ => trivial | trivial | refine And.intro ?_ ?_))) (by repeat' (first | exact trivial | exact rfl | refine And.intro ?_ ?_)) rfl rfl
set_option maxRecDepth 100000 in
set_option maxHeartbeats 2000000 in
theorem rraiseA (hd : lookH H d = some (true, .ab (rdP S W last b))) (h2 : 2 ≤ S.length) (hz : ∀ s ∈ S, s.size = 64) (node n : Int) :
    FnH Tryz.prog 36 [.c (.nm d), .c (iT node), .c (iT n)] H nx ⟨.t (.c (iT (rsE S node n))), [], [(d, some (.ab (rdP (rsS S node n) W last b)))], []⟩ := by
  refine fnA (fn := Tryz.f36) 32 rfl rfl rfl hd (ptr b) (rd_pins _ _ _ _) (rd_pins _ _ _ _) rfl rfl rfl (v' := .t (.c (iT (rsE S node n)))) (news' := []) rfl rfl rfl rfl fun w Wr => ?_
  refine At.unfoldTo 0 (L1 := (0, .t (.c (.p 1 0))) :: [(1, .t (.c (iT node))), (2, .t (.c (iT n)))]) (H1 := [(1, some (true, .cells [.nm 2, .nm 3, iT last] 42)), (2, some (true, .own 9 1 S.length (svs S))), (3, some (true, .own 78 5 W.length (wrs W))), (4, some (false, .pin 1 b)), (0, none), (0, some (true, .ab (rdP S W last b)))]) (nx1 := 5) rfl rfl rfl rfl rfl rfl ?_
  have hg : s1 S = S[1] := by rw [s1, List.getD_eq_getElem?_getD, List.getElem?_eq_getElem (by omega)]; rfl
  have l1 : (svs S)[(1 : Int).toNat * 1]? = some (.string (s1 S)) := by rw [hg]; exact svs_at (by omega)
  have hs : (s1 S).size = 64 := by rw [hg]; exact hz _ (List.getElem_mem _)
  have hr := rraise0 (s1 S) node n (by omega)
  have b1 : (1 : Int) < (S.length : Int) := by omega
  have hsl : (svs S).length = S.length := svs_length S
  rcases raiseE_cases (s1 S) node n with q | q | q
  · have e0 : rsE S node n = 0 := by simp [rsE, q]
    have e1 : rsS S node n = S.set 1 (setE (s1 S) node n) := by simp [rsS, q]
    have e2 : raiseS (s1 S) node n = setE (s1 S) node n := by rw [raiseS, if_pos q]
    rw [q, e2] at hr
    rw [e0, e1]
    refine rn [(15, .ld [.s (s1 S)]), (18, .ret (.tup [.c (.s (setE (s1 S) node n)), .c (iT 0)])), (22, .dec false), (24, .dec false)] rfl (by (repeat' (first | exact trivial | exact rfl | exact l1 | exact fun _ => l1 | first | exact hr | exact b1 | (show (1 : Int).toNat * 1 + 1 ≤ (svs S).length; omega) | decide | refine And.intro ?_ ?_))) ?_
    refine Done.fold [(0, 1), (1, 2), (2, 3), (3, 4)] (rdO (S.set 1 (setE (s1 S) node n)) (W) (last) b) (.p 0 0) (by (repeat' (first | exact trivial | exact rfl | exact trivial | exact fun _ => trivial | first | exact (List.length_set ..).symm | exact set_svs (k := 1) (by omega) | refine And.intro ?_ ?_))) rfl rfl (fun _ => rfl) ?_
    exact retM tysOk [(0, 5)] rfl (by (repeat' (first | exact trivial | exact rfl | exact trivial | exact fun _ => trivial | first | exact (List.length_set ..).symm | exact set_svs (k := 1) (by omega) | refine And.intro ?_ ?_))) (by repeat' (first | exact trivial | exact rfl | refine And.intro ?_ ?_)) rfl rfl
  · have e0 : rsE S node n = 1 := by simp [rsE, q]
    have e1 : rsS S node n = S := by simp [rsS, q]
    rw [q] at hr
    rw [e0, e1]
    refine rn [(15, .ld [.s (s1 S)]), (18, .ret (.tup [.c (.s (raiseS (s1 S) node n)), .c (iT 1)])), (22, .dec false), (24, .dec true)] rfl (by (repeat' (first | exact trivial | exact rfl | exact l1 | exact fun _ => l1 | first | exact hr | exact b1 | decide | refine And.intro ?_ ?_))) ?_
    refine Done.fold [(0, 1), (1, 2), (2, 3), (3, 4)] (rdO (S) (W) (last) b) (.p 0 0) (by (repeat' (first | exact trivial | exact rfl | exact trivial | exact fun _ => trivial | trivial | refine And.intro ?_ ?_))) rfl rfl (fun _ => rfl) ?_
    exact retM tysOk [(0, 5)] rfl (by (repeat' (first | exact trivial | exact rfl | exact trivial | exact fun _ => trivial | trivial | refine And.intro ?_ ?_))) (by repeat' (first | exact trivial | exact rfl | refine And.intro ?_ ?_)) rfl rfl
  · have e0 : rsE S node n = 110 := by simp [rsE, q]
    have e1 : rsS S node n = S := by simp [rsS, q]
    rw [q] at hr
    rw [e0, e1]
    refine rn [(15, .ld [.s (s1 S)]), (18, .ret (.tup [.c (.s (raiseS (s1 S) node n)), .c (iT 40)])), (22, .dec true)] rfl (by (repeat' (first | exact trivial | exact rfl | exact l1 | exact fun _ => l1 | first | exact hr | exact b1 | decide | refine And.intro ?_ ?_))) ?_
    refine Done.fold [(0, 1), (1, 2), (2, 3), (3, 4)] (rdO (S) (W) (last) b) (.p 0 0) (by (repeat' (first | exact trivial | exact rfl | exact trivial | exact fun _ => trivial | trivial | refine And.intro ?_ ?_))) rfl rfl (fun _ => rfl) ?_
    exact retM tysOk [(0, 5)] rfl (by (repeat' (first | exact trivial | exact rfl | exact trivial | exact fun _ => trivial | trivial | refine And.intro ?_ ?_))) (by repeat' (first | exact trivial | exact rfl | refine And.intro ?_ ?_)) rfl rfl
end
end Cw
namespace Cw
open Go Vc
open Go.Proofs
set_option maxRecDepth 100000
section
variable {H : HL} {nx d b n : Nat} {S : List ByteArray} {W : List (Int × Wr)} {last : Int}
set_option maxRecDepth 100000 in
set_option maxHeartbeats 4000000 in
theorem rswapA (hd : lookH H d = some (true, .ab (rdP S W last b))) (h2 : 2 ≤ S.length) (hz : ∀ s ∈ S, s.size = 64) (node ep k : Int) (was now : Pt) (z1 : was.2.size ≤ 9223372036854775807) (z2 : now.2.size ≤ 9223372036854775807) :
    FnH Tryz.prog 38 [.c (.nm d), .c (iT node), .c (iT ep), .c (iT k), ptT was, ptT now] H nx ⟨.tup [.c (.b (swB S node ep k was now)), .c (iT (swE S node ep k was now))], [], [(d, some (.ab (rdP (swS S node ep k was now) W last b)))], []⟩ := by
  refine fnA (fn := Tryz.f38) 88 rfl rfl rfl hd (ptr b) (rd_pins _ _ _ _) (rd_pins _ _ _ _) rfl rfl rfl (v' := .tup [.c (.b (swB S node ep k was now)), .c (iT (swE S node ep k was now))]) (news' := []) rfl rfl rfl rfl fun w Wr => ?_
  refine At.unfoldTo 0 (L1 := (0, .t (.c (.p 1 0))) :: [(1, .t (.c (iT node))), (2, .t (.c (iT ep))), (3, .t (.c (iT k))), (4, .t (ptT was)), (5, .t (ptT now))]) (H1 := [(1, some (true, .cells [.nm 2, .nm 3, iT last] 42)), (2, some (true, .own 9 1 S.length (svs S))), (3, some (true, .own 78 5 W.length (wrs W))), (4, some (false, .pin 1 b)), (0, none), (0, some (true, .ab (rdP S W last b)))]) (nx1 := 5) rfl rfl rfl rfl rfl rfl ?_
  have hr := rreadQ (S := S) (W := W) (last := last) k
  rcases (isE_cases node ep).symm with q1 | q1
  · have e0 : swE S node ep k was now = 1 := by simp [swE, q1]
    have e1 : swB S node ep k was now = false := by simp [swB, e0]
    have e2 : swS S node ep k was now = S := by simp [swS, e1]
    have d1 := isE_not q1
    rw [e0, e1, e2]
    refine rn [(29, .dec true)] rfl (by (repeat' (first | exact trivial | exact rfl | exact d1 | exact fun _ => d1 | refine And.intro ?_ ?_))) ?_
    refine Done.fold [(0, 1), (1, 2), (2, 3), (3, 4)] (rdO (S) (W) (last) b) (.p 0 0) (by (repeat' (first | exact trivial | exact rfl | exact trivial | exact fun _ => trivial | trivial | refine And.intro ?_ ?_))) rfl rfl (fun _ => rfl) ?_
    exact retM tysOk [(0, 7)] rfl (by (repeat' (first | exact trivial | exact rfl | exact trivial | exact fun _ => trivial | trivial | refine And.intro ?_ ?_))) (by repeat' (first | exact trivial | exact rfl | refine And.intro ?_ ?_)) rfl rfl
  have d1 := isE_yes q1
  cases q2 : inS S.length k with
  | false =>
    have e0 : swE S node ep k was now = 1 := by simp [swE, q1, q2]
    have e1 : swB S node ep k was now = false := by simp [swB, e0]
    have e2 : swS S node ep k was now = S := by simp [swS, e1]
    have f2 : rdE S.length k = 1 := by simp [rdE, q2]
    rw [f2] at hr
    rw [e0, e1, e2]
    refine rn [(29, .dec false), (33, .spec ⟨.tup [.c (.s (rdT S k)), .c (iT 1)], [], [], []⟩), (37, .dec true)] rfl (by (repeat' (first | exact trivial | exact rfl | exact d1 | exact fun _ => d1 | first | exact hr _ _ rfl rfl rfl | decide | refine And.intro ?_ ?_))) ?_
    refine Done.fold [(0, 1), (1, 2), (2, 3), (3, 4)] (rdO (S) (W) (last) b) (.p 0 0) (by (repeat' (first | exact trivial | exact rfl | exact trivial | exact fun _ => trivial | trivial | refine And.intro ?_ ?_))) rfl rfl (fun _ => rfl) ?_
    exact retM tysOk [(0, 7)] rfl (by (repeat' (first | exact trivial | exact rfl | exact trivial | exact fun _ => trivial | trivial | refine And.intro ?_ ?_))) (by repeat' (first | exact trivial | exact rfl | refine And.intro ?_ ?_)) rfl rfl
  | true =>
    have f2 : rdE S.length k = 0 := by simp [rdE, q2]
    rw [f2] at hr
    have hb := inS_iff.1 q2
    have hlt : k.toNat < S.length := by omega
    have hmem : rdT S k ∈ S := by
      rw [rdT, if_pos q2, List.getD_eq_getElem?_getD, List.getElem?_eq_getElem hlt]
      exact List.getElem_mem hlt
    have h64 := hz _ hmem
    have hfw := rcheck0 was
    have hfn := rcheck0 now
    have hsl : (svs S).length = S.length := svs_length S
    cases q4 : okp was with
    | false =>
      have e0 : swE S node ep k was now = 1 := by simp [swE, q1, q2, q4]
      have e1 : swB S node ep k was now = false := by simp [swB, e0]
      have e2 : swS S node ep k was now = S := by simp [swS, e1]
      have hf : fcheck was.1 was.2.size = 1 := by
        have : finside was.1 was.2.size = false := q4
        simp [fcheck, this]
      rw [hf] at hfw
      rw [e0, e1, e2]
      refine rn [(29, .dec false), (33, .spec ⟨.tup [.c (.s (rdT S k)), .c (iT 0)], [], [], []⟩), (37, .dec false), (40, .ret (.t (.c (iT 1)))), (42, .dec true), (46, .dec true)] rfl (by (repeat' (first | exact trivial | exact rfl | exact d1 | exact fun _ => d1 | first | exact hr _ _ rfl rfl rfl | exact hfw | decide | refine And.intro ?_ ?_))) ?_
      refine Done.fold [(0, 1), (1, 2), (2, 3), (3, 4)] (rdO (S) (W) (last) b) (.p 0 0) (by (repeat' (first | exact trivial | exact rfl | exact trivial | exact fun _ => trivial | trivial | refine And.intro ?_ ?_))) rfl rfl (fun _ => rfl) ?_
      exact retM tysOk [(0, 7)] rfl (by (repeat' (first | exact trivial | exact rfl | exact trivial | exact fun _ => trivial | trivial | refine And.intro ?_ ?_))) (by repeat' (first | exact trivial | exact rfl | refine And.intro ?_ ?_)) rfl rfl
    | true =>
      have hf : fcheck was.1 was.2.size = 0 := by
        have : finside was.1 was.2.size = true := q4
        simp [fcheck, this]
      rw [hf] at hfw
      cases q5 : okp now with
      | false =>
        have e0 : swE S node ep k was now = 1 := by simp [swE, q1, q2, q5]
        have e1 : swB S node ep k was now = false := by simp [swB, e0]
        have e2 : swS S node ep k was now = S := by simp [swS, e1]
        have hf' : fcheck now.1 now.2.size = 1 := by
          have : finside now.1 now.2.size = false := q5
          simp [fcheck, this]
        rw [hf'] at hfn
        rw [e0, e1, e2]
        refine rn [(29, .dec false), (33, .spec ⟨.tup [.c (.s (rdT S k)), .c (iT 0)], [], [], []⟩), (37, .dec false), (40, .ret (.t (.c (iT 0)))), (42, .dec false), (44, .ret (.t (.c (iT 1)))), (46, .dec true)] rfl (by (repeat' (first | exact trivial | exact rfl | exact d1 | exact fun _ => d1 | first | exact hr _ _ rfl rfl rfl | exact hfw | exact hfn | decide | refine And.intro ?_ ?_))) ?_
        refine Done.fold [(0, 1), (1, 2), (2, 3), (3, 4)] (rdO (S) (W) (last) b) (.p 0 0) (by (repeat' (first | exact trivial | exact rfl | exact trivial | exact fun _ => trivial | trivial | refine And.intro ?_ ?_))) rfl rfl (fun _ => rfl) ?_
        exact retM tysOk [(0, 7)] rfl (by (repeat' (first | exact trivial | exact rfl | exact trivial | exact fun _ => trivial | trivial | refine And.intro ?_ ?_))) (by repeat' (first | exact trivial | exact rfl | refine And.intro ?_ ?_)) rfl rfl
      | true =>
        have hf' : fcheck now.1 now.2.size = 0 := by
          have : finside now.1 now.2.size = true := q5
          simp [fcheck, this]
        rw [hf'] at hfn
        by_cases q6 : was.1 ≠ now.1 ∨ was.2.size ≠ now.2.size
        · have e0 : swE S node ep k was now = 4 := by simp [swE, q1, q2, q4, q5, q6]
          have e1 : swB S node ep k was now = false := by simp [swB, e0]
          have e2 : swS S node ep k was now = S := by simp [swS, e1]
          have hc : ((was.1 != now.1) || (((was.2.size : Nat) : Int) != (now.2.size : Nat))) = true := by
            rw [Bool.or_eq_true, bne_iff_ne, bne_iff_ne]
            rcases q6 with h | h
            · exact .inl h
            · exact .inr (by omega)
          rw [e0, e1, e2]
          refine rn [(29, .dec false), (33, .spec ⟨.tup [.c (.s (rdT S k)), .c (iT 0)], [], [], []⟩), (37, .dec false), (40, .ret (.t (.c (iT 0)))), (42, .dec false), (44, .ret (.t (.c (iT 0)))), (46, .dec false), (60, .dec true)] rfl (by (repeat' (first | exact trivial | exact rfl | exact d1 | exact fun _ => d1 | first | exact hr _ _ rfl rfl rfl | exact hfw | exact hfn | exact hc | decide | refine And.intro ?_ ?_))) ?_
          refine Done.fold [(0, 1), (1, 2), (2, 3), (3, 4)] (rdO (S) (W) (last) b) (.p 0 0) (by (repeat' (first | exact trivial | exact rfl | exact trivial | exact fun _ => trivial | trivial | refine And.intro ?_ ?_))) rfl rfl (fun _ => rfl) ?_
          exact retM tysOk [(0, 7)] rfl (by (repeat' (first | exact trivial | exact rfl | exact trivial | exact fun _ => trivial | trivial | refine And.intro ?_ ?_))) (by repeat' (first | exact trivial | exact rfl | refine And.intro ?_ ?_)) rfl rfl
        · have q7 : was.1 = now.1 ∧ was.2.size = now.2.size := ⟨Decidable.byContradiction fun h => q6 (.inl h), Decidable.byContradiction fun h => q6 (.inr h)⟩
          have hc : ((was.1 != now.1) || (((was.2.size : Nat) : Int) != (now.2.size : Nat))) = false := by
            rw [q7.1, q7.2]; simp
          have hp := rpassQ (W := W) (last := last) h2 hz node ep
          cases q8 : psD (s1 S) node ep with
          | false =>
            have e0 : swE S node ep k was now = 110 := by simp [swE, q1, q2, q4, q5, q7, q8]
            have e1 : swB S node ep k was now = false := by simp [swB, e0]
            have e2 : swS S node ep k was now = S := by simp [swS, e1]
            rw [q8] at hp
            rw [e0, e1, e2]
            refine rn [(29, .dec false), (33, .spec ⟨.tup [.c (.s (rdT S k)), .c (iT 0)], [], [], []⟩), (37, .dec false), (40, .ret (.t (.c (iT 0)))), (42, .dec false), (44, .ret (.t (.c (iT 0)))), (46, .dec false), (60, .dec false), (64, .spec ⟨.t (.c (.b false)), [], [], []⟩), (65, .dec true)] rfl (by (repeat' (first | exact trivial | exact rfl | exact d1 | exact fun _ => d1 | first | exact hr _ _ rfl rfl rfl | exact hfw | exact hfn | exact hc | exact hp _ _ rfl rfl rfl | decide | refine And.intro ?_ ?_))) ?_
            refine Done.fold [(0, 1), (1, 2), (2, 3), (3, 4)] (rdO (S) (W) (last) b) (.p 0 0) (by (repeat' (first | exact trivial | exact rfl | exact trivial | exact fun _ => trivial | trivial | refine And.intro ?_ ?_))) rfl rfl (fun _ => rfl) ?_
            exact retM tysOk [(0, 7)] rfl (by (repeat' (first | exact trivial | exact rfl | exact trivial | exact fun _ => trivial | trivial | refine And.intro ?_ ?_))) (by repeat' (first | exact trivial | exact rfl | refine And.intro ?_ ?_)) rfl rfl
          | true =>
            have e0 : swE S node ep k was now = 0 := by simp [swE, q1, q2, q4, q5, q7, q8]
            have e1 : swB S node ep k was now = (plc (rdT S k) was == was.2) := by simp [swB, e0]
            have hok := okp_iff q4
            have wk : IntKind.i64.wrap (was.1 + (was.2.size : Nat)) = was.1 + (was.2.size : Nat) := wrap_sm (by omega) (by omega)
            have ho := rone0 (rdT S k) now h64 q5
            rw [q8] at hp
            rw [e0]
            refine rn [(29, .dec false), (33, .spec ⟨.tup [.c (.s (rdT S k)), .c (iT 0)], [], [], []⟩), (37, .dec false), (40, .ret (.t (.c (iT 0)))), (42, .dec false), (44, .ret (.t (.c (iT 0)))), (46, .dec false), (60, .dec false), (64, .spec ⟨.t (.c (.b true)), [], [], []⟩), (65, .dec false)] rfl (by (repeat' (first | exact trivial | exact rfl | exact d1 | exact fun _ => d1 | first | exact hr _ _ rfl rfl rfl | exact hfw | exact hfn | exact hc | exact hp _ _ rfl rfl rfl | (rw [wk]; omega) | omega | decide | refine And.intro ?_ ?_))) ?_
            rw [wk]
            refine ⟨fun h => ?_, fun h => ?_⟩
            · have hne : (plc (rdT S k) was == was.2) = false := by
                rw [bq]
                have : ¬ plc (rdT S k) was = was.2 := by have h' := h; simp [bt_iff2] at h'; exact h'
                exact decide_eq_false this
              rw [hne] at e1
              have e2 : swS S node ep k was now = S := by simp [swS, e1]
              rw [e1, e2]
              refine rn [] rfl (by repeat' (first | exact trivial | exact rfl | refine And.intro ?_ ?_)) ?_
              refine Done.fold [(0, 1), (1, 2), (2, 3), (3, 4)] (rdO (S) (W) (last) b) (.p 0 0) (by (repeat' (first | exact trivial | exact rfl | exact trivial | exact fun _ => trivial | trivial | refine And.intro ?_ ?_))) rfl rfl (fun _ => rfl) ?_
              exact retM tysOk [(0, 7)] rfl (by (repeat' (first | exact trivial | exact rfl | exact trivial | exact fun _ => trivial | trivial | refine And.intro ?_ ?_))) (by repeat' (first | exact trivial | exact rfl | refine And.intro ?_ ?_)) rfl rfl
            · have hne : (plc (rdT S k) was == was.2) = true := by
                rw [bq]
                have : plc (rdT S k) was = was.2 := by have h' := h; simp [bt_iff2] at h'; exact h'
                exact decide_eq_true this
              rw [hne] at e1
              have e2 : swS S node ep k was now = S.set k.toNat (pt (rdT S k) [now]) := by simp [swS, e1]
              rw [e1, e2]
              refine rn [(86, .ret (.t (.c (.s (pt (rdT S k) [now])))))] rfl (by (repeat' (first | exact trivial | exact rfl | exact trivial | exact fun _ => trivial | first | exact ho | exact hb.1 | exact hb.2 | (show k.toNat * 1 + 1 ≤ (svs S).length; omega) | decide | refine And.intro ?_ ?_))) ?_
              refine Done.fold [(0, 1), (1, 2), (2, 3), (3, 4)] (rdO (S.set k.toNat (pt (rdT S k) [now])) (W) (last) b) (.p 0 0) (by (repeat' (first | exact trivial | exact rfl | exact trivial | exact fun _ => trivial | first | exact (List.length_set ..).symm | exact set_svs hlt | refine And.intro ?_ ?_))) rfl rfl (fun _ => rfl) ?_
              exact retM tysOk [(0, 7)] rfl (by (repeat' (first | exact trivial | exact rfl | exact trivial | exact fun _ => trivial | first | exact (List.length_set ..).symm | exact set_svs hlt | refine And.intro ?_ ?_))) (by repeat' (first | exact trivial | exact rfl | refine And.intro ?_ ?_)) rfl rfl
set_option maxRecDepth 100000 in
set_option maxHeartbeats 2000000 in
theorem rforkA (hd : lookH H d = some (true, .ab (rdP S W last b))) (h1 : S.length ≤ 1000000) (h2 : W.length ≤ 1000000) : FnH Tryz.prog 8 [.c (.nm d)] H nx ⟨.t (.c (.nm nx)), [(true, .ab (rdX S W last))], [(d, some (.ab (rdP S W last b)))], []⟩ := by
  refine fnA (fn := Tryz.f8) 21 rfl rfl rfl hd (ptr b) (rd_pins _ _ _ _) (rd_pins _ _ _ _) rfl rfl rfl (v' := .t (.c (.nm 1))) (news' := [(true, .ab (rdX S W last))]) rfl rfl rfl rfl fun w Wr => ?_
  refine At.unfoldTo 0 (L1 := (0, .t (.c (.p 1 0))) :: []) (H1 := [(1, some (true, .cells [.nm 2, .nm 3, iT last] 42)), (2, some (true, .own 9 1 S.length (svs S))), (3, some (true, .own 78 5 W.length (wrs W))), (4, some (false, .pin 1 b)), (0, none), (0, some (true, .ab (rdP S W last b)))]) (nx1 := 5) rfl rfl rfl rfl rfl rfl ?_
  have m1 : 0 + S.length ≤ maxLen := by simp [maxLen]; omega
  have m2 : (0 + S.length) * 16 ≤ 140737488355328 := by omega
  have m3 : 0 + W.length ≤ maxLen := by simp [maxLen]; omega
  have m4 : (0 + W.length) * 48 ≤ 140737488355328 := by omega
  have o1 : ∀ u ∈ svs S, u.oneCell' = true := by
    intro u hu
    obtain ⟨s, _, rfl⟩ := List.mem_map.1 hu
    rfl
  have o2 := wrs_one W
  refine rn [(3, .dec true), (9, .dec true)] rfl (by (repeat' (first | exact trivial | exact rfl | exact trivial | exact fun _ => trivial | first | exact m1 | exact m2 | exact m3 | exact m4 | exact o1 | exact o2 | decide | refine And.intro ?_ ?_))) ?_
  refine Done.pin 9 rfl fun b' => ?_
  refine Done.fold [(0, 1), (1, 2), (2, 3), (3, 4)] (rdO S W last b) (.p 0 0) (by repeat' (first | exact trivial | exact rfl | refine And.intro ?_ ?_)) rfl rfl (fun _ => rfl) ?_
  refine Done.foldR 2 (.p 9 0) [(0, 9), (1, 6), (2, 8), (3, 10)] (rdO S W last b') (.p 0 0) rfl (by repeat' (first | exact trivial | exact rfl | refine And.intro ?_ ?_)) (by (repeat' (first | exact trivial | exact rfl | exact trivial | exact fun _ => trivial | first | omega | rfl | refine And.intro ?_ ?_))) rfl rfl (fun _ => rfl) ?_
  refine Done.weak 12 (φ' := rdX S W last) rfl (exP_stable fun b => absP_stable _ _) (fun v F w h => ⟨b', h⟩) ?_
  exact retM tysOk [(0, 11), (1, 12)] rfl (by repeat' (first | exact trivial | exact rfl | refine And.intro ?_ ?_)) (by repeat' (first | exact trivial | exact rfl | refine And.intro ?_ ?_)) rfl rfl
end
theorem rnewBad {H : HL} {nx : Nat} {n : Int} (h : n < 2 ∨ 2048 < n) : FnH Tryz.prog 5 [.c (iT n)] H nx ⟨.tup [.c .np, .c (iT 1)], [], [], []⟩ := by
  refine fnR (fn := Tryz.f5) 37 rfl rfl rfl (args' := [.c (iT n)]) (H' := []) (nx' := 0) (fun e w M => ⟨e, ⟨fun n b o h => (by cases h), fun n o m c q h => (by cases h)⟩, rfl⟩) rfl rfl rfl rfl fun w => ?_
  have hc : (decide (n < 2) || decide (2048 < n)) = true := by rw [Bool.or_eq_true, decide_eq_true_eq, decide_eq_true_eq]; exact h
  refine rn [(11, .dec true)] rfl (by (repeat' (first | exact trivial | exact rfl | exact hc | exact fun _ => hc | refine And.intro ?_ ?_))) ?_
  exact ret0 tysOk rfl (by repeat' (first | exact trivial | exact rfl | refine And.intro ?_ ?_)) rfl
set_option maxRecDepth 100000 in
set_option maxHeartbeats 2000000 in
theorem rnewA {H : HL} {nx n : Nat} (h0 : 2 ≤ n) (h1 : n ≤ 2048) : FnH Tryz.prog 5 [.c (iT n)] H nx ⟨.tup [.c (.nm nx), .c (iT 0)], [(true, .ab (rdX (S0 n) [] 0))], [], []⟩ := by
  refine fnM (fn := Tryz.f5) 37 rfl rfl rfl (args' := [.c (iT n)]) (H' := []) (nx' := 0) [] (fun e w M => ⟨e, ⟨fun n b o h => (by cases h), fun n o m c q h => (by cases h)⟩, rfl⟩) rfl rfl rfl (fun e w M u hu => by cases hu) (fun u hu => by cases hu) (by simp) (v' := .tup [.c (.nm 0), .c (iT 0)]) (news' := [(true, .ab (rdX (S0 n) [] 0))]) rfl rfl rfl rfl rfl fun w Wr => ?_
  have hc : (decide ((n : Int) < 2) || decide (2048 < (n : Int))) = false := by
    rw [Bool.or_eq_false_iff]
    exact ⟨decide_eq_false (by omega), decide_eq_false (by omega)⟩
  refine rn [(11, .dec false)] rfl (by (repeat' (first | exact trivial | exact rfl | exact hc | exact fun _ => hc | refine And.intro ?_ ?_))) ?_
  refine At.nilCell 0 0 9 1 rfl rfl rfl ?_
  refine At.nilCell 0 1 78 5 rfl rfl rfl ?_
  refine At.loop (X := (j : Nat) ×' (j ≤ n)) 3 (fun s => n - s.1)
    (fun s => [(0, .t (.c (iT (n : Nat)))), (4, .t (.c (.p 0 0))), (5, .t (.c (iT (s.1 : Nat))))])
    (fun s => [(0, some (true, .cells [.nm 1, .nm 2, iT 0] 42)), (1, some (true, .own 9 1 s.1 (svs (List.replicate s.1 B0)))), (2, some (true, .own 78 5 0 (wrs [])))]) ⟨0, by omega⟩ [] (fun k => wf rfl rfl) (by repeat' (first | exact trivial | exact rfl | refine And.intro ?_ ?_)) (by repeat' (first | exact trivial | exact rfl | refine And.intro ?_ ?_)) rfl fun s => ?_
  obtain ⟨j, hj⟩ := s
  have w3 : IntKind.i64.wrap ((j : Int) + 1) = ((j + 1 : Nat) : Int) := by rw [wrap_sm (by omega) (by omega)]; omega
  refine rn [] rfl (by repeat' (first | exact trivial | exact rfl | refine And.intro ?_ ?_)) ?_
  refine ⟨fun h => ?_, fun h => ?_⟩
  · have hlt : j < n := by have : (j : Int) < (n : Int) := of_decide_eq_true h; omega
    clear h
    have m1 : j + 1 ≤ maxLen := by simp [maxLen]; omega
    have m2 : (j + 1) * 16 ≤ 140737488355328 := by omega
    refine rn [(24, .ret (.t (.c (.s B0))))] rfl (by (repeat' (first | exact trivial | exact rfl | exact rblank0 | exact fun _ => rblank0 | first | exact m1 | exact m2 | refine And.intro ?_ ?_))) ?_
    refine roundEnd ⟨j + 1, by omega⟩ [(1, 4)] (by show n - (j + 1) < n - j; omega) (by (repeat' (first | exact trivial | exact rfl | exact w3 | exact fun _ => w3 | refine And.intro ?_ ?_))) ?_ rfl
    repeat' (first | exact trivial | exact rfl | refine And.intro ?_ ?_)
    rw [svs_repl, svs_repl, app_eq, List.replicate_succ']
    rfl
  · have hlt : j = n := by have : ¬ (j : Int) < (n : Int) := of_decide_eq_false h; omega
    subst hlt
    have hsl : (svs (List.replicate j B0)).length = j := by rw [svs_length, List.length_replicate]
    refine rn [] rfl (by repeat' (first | exact trivial | exact rfl | refine And.intro ?_ ?_)) (roundExit rfl ?_)
    refine rnA [(34, .ret (.t (.c (.s (wallB 0 0)))))] rfl (by (repeat' (first | exact trivial | exact rfl | exact rwall0 0 0 (by decide) (by decide) | exact fun _ => rwall0 0 0 (by decide) (by decide) | first | (show (1 : Int).toNat * 1 + 1 ≤ (svs (List.replicate j B0)).length; rw [hsl]; omega) | (show (1 : Int) < ((j : Nat) : Int); omega) | decide | refine And.intro ?_ ?_))) ?_
    refine Done.pin 0 rfl fun b => ?_
    refine Done.foldR 2 (.p 0 0) [(0, 0), (1, 1), (2, 2), (3, 3)] (rdO (S0 j) [] 0 b) (.p 0 0) rfl (by repeat' (first | exact trivial | exact rfl | refine And.intro ?_ ?_)) ?_ rfl rfl (fun _ => rfl) ?_
    · (repeat' (first | exact trivial | exact rfl | exact trivial | exact fun _ => trivial | first | (show j = (S0 j).length; simp [S0]) | exact set_svs (S := List.replicate j B0) (k := 1) (by simp; omega) | refine And.intro ?_ ?_))
    refine Done.weak 4 (φ' := rdX (S0 j) [] 0) rfl (exP_stable fun b => absP_stable _ _) (fun v F w h => ⟨b, h⟩) ?_
    exact retM tysOk [(0, 4)] rfl (by repeat' (first | exact trivial | exact rfl | refine And.intro ?_ ?_)) (by repeat' (first | exact trivial | exact rfl | refine And.intro ?_ ?_)) rfl rfl
end Cw
