/- The disk: Waiting, New by reckoning. -/
import Derived.Test.YtokhlioogjalkaaGreatDisk3
import Derived.Test.YtokhlioogjalkaaGreatMapD
import Derived.Test.YtokhlioogjalkaaGreatAmV
namespace Cw
open Go Vc
open Go.Proofs
set_option maxRecDepth 100000
theorem ivsApp (a b : List Int) : ivs (a ++ b) = ivs a ++ ivs b := by simp [ivs]
/-- The numbers of a node's writes that wait. -/
def waitL (W : List (Int × Wr)) (node : Int) : List Int := (W.filter fun p => p.2.node == node).map Prod.fst
theorem waitL_succ {W : List (Int × Wr)} {node : Int} {j : Nat} (h : j < W.length) : waitL (W.take (j + 1)) node = waitL (W.take j) node ++ if W[j].2.node == node then [W[j].1] else [] := by
  rw [List.take_succ_eq_append_getElem h]
  unfold waitL
  rw [List.filter_append, List.map_append]
  congr 1
  cases hb : W[j].2.node == node <;> simp [List.filter, hb]
theorem waitL_le (W : List (Int × Wr)) (node : Int) : (waitL W node).length ≤ W.length := by
  unfold waitL
  rw [List.length_map]
  exact List.length_filter_le _ _
theorem wget_at : ∀ {W : List (Int × Wr)}, (W.map Prod.fst).Pairwise (· < ·) → ∀ {j : Nat} (h : j < W.length), wget W[j].1 W = some W[j].2
  | [], _, j, h => by simp at h
  | (q, x) :: l, hp, 0, _ => by simp [wget]
  | (q, x) :: l, hp, j + 1, h => by
    rw [List.map_cons, List.pairwise_cons] at hp
    have hj : j < l.length := by simpa using h
    have hlt := hp.1 l[j].1 (List.mem_map.2 ⟨l[j], List.getElem_mem hj, rfl⟩)
    show wget l[j].1 ((q, x) :: l) = some l[j].2
    unfold wget
    rw [if_neg (by omega)]
    exact wget_at hp.2 hj
theorem lk_plain {k : Int} {x : Wr} {W : List (Int × Wr)} (h : wget k W = some x) (z : Value) : lkV (wm W) k z false = (SV.t (wT x)).den e0 := by
  unfold lkV
  rw [wm_get, h]
  rfl
theorem wm_fst (W : List (Int × Wr)) : (wm W).map Prod.fst = W.map Prod.fst := by simp [wm]
section
variable {H : HL} {nx d b : Nat} {S : List ByteArray} {W : List (Int × Wr)} {last : Int}
set_option maxRecDepth 100000 in
set_option maxHeartbeats 2000000 in
theorem waitA (hd : lookH H d = some (true, .ab (dP S W last b))) (hk : (W.map Prod.fst).Pairwise (· < ·)) (hz : W.length ≤ 100000) (node : Int) :
    FnH Tryz.prog 12 [.c (.nm d), .c (iT node)] H nx ⟨.t (.c (.nm nx)), [(true, .own 3 1 (waitL W node).length (ivs (waitL W node)))], [(d, some (.ab (dP S W last b)))], []⟩ := by
  refine fnA (fn := Tryz.f12) 34 rfl rfl rfl hd (ptr b) (disk_pins _ _ _ _) (disk_pins _ _ _ _) rfl rfl rfl (v' := .t (.c (.nm 1))) (news' := [(true, .own 3 1 (waitL W node).length (ivs (waitL W node)))]) rfl rfl rfl rfl fun w Wr => ?_
  refine At.unfoldTo 0 (L1 := (0, .t (.c (.p 1 0))) :: [(1, .t (.c (iT node)))]) (H1 := [(1, some (true, .cells [.nm 2, .mp 3, iT (last)] 58)), (2, some (true, .own 9 1 (S).length (svs (S)))), (3, some (true, .mp (wm (W)))), (4, some (false, .pin 1 b)), (0, none), (0, some (true, .ab (dP (S) (W) (last) b)))]) (nx1 := 5) rfl rfl rfl rfl rfl rfl ?_
  have hks : srtI ((wm W).map Prod.fst) = W.map Prod.fst := by rw [wm_fst, srtI_sorted hk]
  refine rn [(12, .spec ⟨.t (.c (.fn (.func 60) [(5, 0)])), [(true, .cells [.mp 3] 56)], [], []⟩), (13, .spec ⟨.t (.c (.nm 6)), [(true, .own 3 1 W.length (ivs (W.map Prod.fst)))], [], []⟩)] rfl ?_ ?_
  · repeat' (first | exact trivial | exact rfl | refine And.intro ?_ ?_)
    · have := sortedD (H := (5, some (true, .cells [.mp 3] 56)) :: [(1, some (true, .cells [.nm 2, .mp 3, iT last] 58)), (2, some (true, .own 9 1 S.length (svs S))), (3, some (true, .mp (wm W))), (4, some (false, .pin 1 b)), (0, none), (0, some (true, .ab (dP S W last b)))]) (nx := 6) (q := 5) (k := 3) rfl rfl (by rw [wm_length]; omega)
      rw [hks, wm_length] at this
      exact this
    · exact keysD
  refine At.nil 5 3 1 rfl ?_
  refine At.loop (X := (j : Nat) ×' (j ≤ W.length)) 8 (fun s => W.length - s.1)
    (fun s => [(0, .t (.c (.p 1 0))), (1, .t (.c (iT node))), (5, .t (.c (.nm 7))), (13, .t (.c (.nm 6))), (14, .t (.c (iT (W.length : Nat)))), (15, .t (.c (iT (s.1 : Nat))))])
    (fun s => [(1, some (true, .cells [.nm 2, .mp 3, iT last] 58)), (2, some (true, .own 9 1 S.length (svs S))), (3, some (true, .mp (wm W))), (4, some (false, .pin 1 b)), (6, some (true, .own 3 1 W.length (ivs (W.map Prod.fst)))), (7, some (true, .own 3 1 (waitL (W.take s.1) node).length (ivs (waitL (W.take s.1) node))))]) ⟨0, by omega⟩ [] (fun k => wf rfl rfl) (by repeat' (first | exact trivial | exact rfl | refine And.intro ?_ ?_)) (by repeat' (first | exact trivial | exact rfl | refine And.intro ?_ ?_)) rfl fun s => ?_
  obtain ⟨j, hj⟩ := s
  have w3 : IntKind.i64.wrap ((j : Int) + 1) = ((j + 1 : Nat) : Int) := by rw [wrap_sm (by omega) (by omega)]; omega
  refine rn [] rfl (by repeat' (first | exact trivial | exact rfl | refine And.intro ?_ ?_)) ?_
  refine ⟨fun h => ?_, fun h => ?_⟩
  · have hlt : j < W.length := by have : (j : Int) < (W.length : Int) := of_decide_eq_true h; omega
    clear h
    have e1 : (ivs (W.map Prod.fst))[(j : Int).toNat * 1]? = some (.int .i64 W[j].1) := by
      have := ivs_at (l := W.map Prod.fst) (k := j) (by simpa using hlt)
      simpa using this
    have b0 : (0 : Int) ≤ (j : Int) := by omega
    have b1 : (j : Int) < (W.length : Int) := by omega
    have hlk := lk_plain (wget_at hk hlt) (.agg #[.int .i64 0, .int .i64 0, .int .i64 0, .string ⟨#[]⟩])
    have hsu := waitL_succ (node := node) hlt
    have hwl := waitL_le (W.take j) node
    rw [List.length_take] at hwl
    have m1 : (waitL (W.take j) node).length + 1 ≤ maxLen := by simp [maxLen]; omega
    have m2 : ((waitL (W.take j) node).length + 1) * 8 ≤ 140737488355328 := by omega
    refine rn [(18, .ld [iT W[j].1]), (24, .ret (.t (wT W[j].2)))] rfl (by (repeat' (first | exact trivial | exact rfl | exact e1 | exact fun _ => e1 | first | exact hlk | exact b0 | exact b1 | decide | refine And.intro ?_ ?_))) ?_
    refine ⟨fun h => ?_, fun h => ?_⟩
    · rw [if_pos h] at hsu
      refine rn [] rfl (by (repeat' (first | exact trivial | exact rfl | exact m1 | exact fun _ => m1 | exact m2 | refine And.intro ?_ ?_))) ?_
      refine roundEnd ⟨j + 1, by omega⟩ [(7, 9)] (by show W.length - (j + 1) < W.length - j; omega) (by (repeat' (first | exact trivial | exact rfl | exact w3 | exact fun _ => w3 | refine And.intro ?_ ?_))) ?_ rfl
      repeat' (first | exact trivial | exact rfl | refine And.intro ?_ ?_)
      · rw [hsu]; simp
      · rw [hsu, ivsApp, app_eq]; rfl
    · have hf : (W[j].2.node == node) = false := h
      rw [hf] at hsu
      simp only [Bool.false_eq_true, if_false, List.append_nil] at hsu
      refine rn [] rfl (by repeat' (first | exact trivial | exact rfl | refine And.intro ?_ ?_)) ?_
      refine roundEnd ⟨j + 1, by omega⟩ [] (by show W.length - (j + 1) < W.length - j; omega) (by (repeat' (first | exact trivial | exact rfl | exact w3 | exact fun _ => w3 | refine And.intro ?_ ?_))) ?_ rfl
      repeat' (first | exact trivial | exact rfl | refine And.intro ?_ ?_)
      · rw [hsu]
      · rw [hsu]
  · have hlt : j = W.length := by have : ¬ (j : Int) < (W.length : Int) := of_decide_eq_false h; omega
    have hw : waitL (W.take j) node = waitL W node := by rw [hlt, List.take_length]
    refine rn [] rfl (by repeat' (first | exact trivial | exact rfl | refine And.intro ?_ ?_)) (roundExit rfl ?_)
    refine rnA [] rfl (by repeat' (first | exact trivial | exact rfl | refine And.intro ?_ ?_)) ?_
    refine Done.fold [(0, 1), (1, 2), (2, 3), (3, 4)] (diskO b S (wm W) last) (.p 0 0) (by repeat' (first | exact trivial | exact rfl | refine And.intro ?_ ?_)) rfl rfl (fun _ => rfl) ?_
    exact retM tysOk [(0, 8), (1, 7)] rfl (by repeat' (first | exact trivial | exact rfl | refine And.intro ?_ ?_)) (by (repeat' (first | exact trivial | exact rfl | exact trivial | exact fun _ => trivial | first | exact congrArg List.length hw | exact congrArg ivs hw | refine And.intro ?_ ?_))) rfl rfl
end
/-- A new disk's sectors. -/
def S0 (n : Nat) : List ByteArray := (List.replicate n B0).set 1 (wallB 0 0)
theorem newBad {H : HL} {nx : Nat} {n : Int} (h : n < 2 ∨ 2048 < n) : FnH Tryz.prog 4 [.c (iT n)] H nx ⟨.tup [.c .np, .c (iT 1)], [], [], []⟩ := by
  refine fnR (fn := Tryz.f4) 39 rfl rfl rfl (args' := [.c (iT n)]) (H' := []) (nx' := 0) (fun e w M => ⟨e, ⟨fun n b o h => (by cases h), fun n o m c q h => (by cases h)⟩, rfl⟩) rfl rfl rfl rfl fun w => ?_
  have hc : (decide (n < 2) || decide (2048 < n)) = true := by rw [Bool.or_eq_true, decide_eq_true_eq, decide_eq_true_eq]; exact h
  refine rn [(10, .dec true)] rfl (by (repeat' (first | exact trivial | exact rfl | exact hc | exact fun _ => hc | refine And.intro ?_ ?_))) ?_
  exact ret0 tysOk rfl (by repeat' (first | exact trivial | exact rfl | refine And.intro ?_ ?_)) rfl
theorem svs_repl (n : Nat) (s : ByteArray) : svs (List.replicate n s) = List.replicate n (.string s) := by simp [svs]
set_option maxRecDepth 100000 in
set_option maxHeartbeats 2000000 in
theorem newA {H : HL} {nx n : Nat} (h0 : 2 ≤ n) (h1 : n ≤ 2048) : FnH Tryz.prog 4 [.c (iT n)] H nx ⟨.tup [.c (.nm nx), .c (iT 0)], [(true, .ab (exP (dP (S0 n) [] 0)))], [], []⟩ := by
  refine fnM (fn := Tryz.f4) 39 rfl rfl rfl (args' := [.c (iT n)]) (H' := []) (nx' := 0) [] (fun e w M => ⟨e, ⟨fun n b o h => (by cases h), fun n o m c q h => (by cases h)⟩, rfl⟩) rfl rfl rfl (fun e w M u hu => by cases hu) (fun u hu => by cases hu) (by simp) (v' := .tup [.c (.nm 0), .c (iT 0)]) (news' := [(true, .ab (exP (dP (S0 n) [] 0)))]) rfl rfl rfl rfl rfl fun w Wr => ?_
  have hc : (decide ((n : Int) < 2) || decide (2048 < (n : Int))) = false := by
    rw [Bool.or_eq_false_iff]
    exact ⟨decide_eq_false (by omega), decide_eq_false (by omega)⟩
  refine rn [(10, .dec false)] rfl (by (repeat' (first | exact trivial | exact rfl | exact hc | exact fun _ => hc | refine And.intro ?_ ?_))) ?_
  refine At.nilCell 1 0 9 1 rfl rfl rfl ?_
  refine At.loop (X := (j : Nat) ×' (j ≤ n)) 3 (fun s => n - s.1)
    (fun s => [(4, .t (.c (.p 1 0))), (14, .t (.c (iT (n : Nat)))), (15, .t (.c (iT (s.1 : Nat))))])
    (fun s => [(0, some (true, .mp (wm []))), (1, some (true, .cells [.nm 2, .mp 0, iT 0] 58)), (2, some (true, .own 9 1 s.1 (svs (List.replicate s.1 B0))))]) ⟨0, by omega⟩ [] (fun k => wf rfl rfl) (by repeat' (first | exact trivial | exact rfl | refine And.intro ?_ ?_)) (by repeat' (first | exact trivial | exact rfl | refine And.intro ?_ ?_)) rfl fun s => ?_
  obtain ⟨j, hj⟩ := s
  have w3 : IntKind.i64.wrap ((j : Int) + 1) = ((j + 1 : Nat) : Int) := by rw [wrap_sm (by omega) (by omega)]; omega
  refine rn [] rfl (by repeat' (first | exact trivial | exact rfl | refine And.intro ?_ ?_)) ?_
  refine ⟨fun h => ?_, fun h => ?_⟩
  · have hlt : j < n := by have : (j : Int) < (n : Int) := of_decide_eq_true h; omega
    clear h
    have m1 : j + 1 ≤ maxLen := by simp [maxLen]; omega
    have m2 : (j + 1) * 16 ≤ 140737488355328 := by omega
    refine rn [(22, .ret (.t (.c (.s B0))))] rfl (by (repeat' (first | exact trivial | exact rfl | exact blank0 | exact fun _ => blank0 | first | exact m1 | exact m2 | refine And.intro ?_ ?_))) ?_
    refine roundEnd ⟨j + 1, by omega⟩ [(2, 4)] (by show n - (j + 1) < n - j; omega) (by (repeat' (first | exact trivial | exact rfl | exact w3 | exact fun _ => w3 | refine And.intro ?_ ?_))) ?_ rfl
    repeat' (first | exact trivial | exact rfl | refine And.intro ?_ ?_)
    rw [svs_repl, svs_repl, app_eq, List.replicate_succ']
    rfl
  · have hlt : j = n := by have : ¬ (j : Int) < (n : Int) := of_decide_eq_false h; omega
    subst hlt
    have hsl : (svs (List.replicate j B0)).length = j := by rw [svs_length, List.length_replicate]
    refine rn [] rfl (by repeat' (first | exact trivial | exact rfl | refine And.intro ?_ ?_)) (roundExit rfl ?_)
    refine rnA [(34, .ret (.tup [.c (.s (wallB 0 0)), .c (iT 0)]))] rfl (by (repeat' (first | exact trivial | exact rfl | exact fence0 | exact fun _ => fence0 | first | (show (1 : Int).toNat * 1 + 1 ≤ (svs (List.replicate j B0)).length; rw [hsl]; omega) | (show (1 : Int) < ((j : Nat) : Int); omega) | decide | refine And.intro ?_ ?_))) ?_
    refine Done.pin 1 rfl fun b => ?_
    refine Done.foldR 2 (.p 1 0) [(0, 1), (1, 2), (2, 0), (3, 3)] (diskO b (S0 j) (wm []) 0) (.p 0 0) rfl (by repeat' (first | exact trivial | exact rfl | refine And.intro ?_ ?_)) ?_ rfl rfl (fun _ => rfl) ?_
    · (repeat' (first | exact trivial | exact rfl | exact trivial | exact fun _ => trivial | first | (show j = (S0 j).length; simp [S0]) | exact set_svs (S := List.replicate j B0) (k := 1) (by simp; omega) | refine And.intro ?_ ?_))
    refine Done.weak 4 (φ' := exP (dP (S0 j) [] 0)) rfl (exP_stable fun b => absP_stable _ _) (fun v F w h => ⟨b, h⟩) ?_
    exact retM tysOk [(0, 4)] rfl (by repeat' (first | exact trivial | exact rfl | refine And.intro ?_ ?_)) (by repeat' (first | exact trivial | exact rfl | refine And.intro ?_ ?_)) rfl rfl
end Cw
