/- The cache: the sector that was used longest ago; Put where one must go. -/
import Derived.Test.YtaopblgnaoojkaaCach2
namespace Cw
open Go Vc Go.MapKept
open Go.Proofs
set_option maxRecDepth 100000
/-- Of those seen: out is that which is free and was used longest ago; -1: none is free. -/
def isOld (Sn : Int → Prop) (M : List (Int × Bf)) (out : Int) : Prop :=
  (out = -1 ∧ ∀ p ∈ M, Sn p.1 → bfree p.2 = false) ∨ ∃ x, (out, x) ∈ M ∧ bfree x = true ∧ Sn out ∧ ∀ p ∈ M, Sn p.1 → bfree p.2 = true → x.u ≤ p.2.u
theorem gget_nd {α : Type} {k : Int} {x : α} : ∀ {M : List (Int × α)}, (M.map Prod.fst).Nodup → (k, x) ∈ M → gget k M = some x
  | [], _, h => by cases h
  | p :: l, hn, h => by
    have hn' : p.1 ∉ l.map Prod.fst ∧ (l.map Prod.fst).Nodup := List.nodup_cons.1 hn
    unfold gget
    rcases List.mem_cons.1 h with rfl | h
    · rw [if_pos rfl]
    · rw [if_neg fun he => hn'.1 (by rw [he]; exact List.mem_map.2 ⟨_, h, rfl⟩)]
      exact gget_nd hn'.2 h
theorem isOld_step {Sn Sn' : Int → Prop} {M : List (Int × Bf)} {out k : Int} {x : Bf} (hn : (M.map Prod.fst).Nodup) (hx : (k, x) ∈ M) (hs : ∀ j, Sn' j ↔ Sn j ∨ j = k) (h : isOld Sn M out) (h0 : ∀ p ∈ M, 0 ≤ p.1) :
    (bfree x = false → isOld Sn' M out) ∧ (bfree x = true → out < 0 → isOld Sn' M k) ∧ (bfree x = true → ¬ out < 0 → ∃ z, (out, z) ∈ M ∧ (x.u < z.u → isOld Sn' M k) ∧ (¬ x.u < z.u → isOld Sn' M out)) := by
  have hkx : ∀ p ∈ M, p.1 = k → p.2 = x := fun p hp he => by
    have h1 := gget_nd hn hx
    have h2 := gget_nd (k := p.1) (x := p.2) hn hp
    rw [he, h1] at h2
    exact (Option.some.inj h2).symm
  refine ⟨fun hf => ?_, fun hf ho => ?_, fun hf ho => ?_⟩
  · rcases h with ⟨h1, h2⟩ | ⟨z, h1, h2, h3, h4⟩
    · refine .inl ⟨h1, fun p hp hs' => ?_⟩
      rcases (hs _).1 hs' with hs' | hs'
      · exact h2 p hp hs'
      · rw [hkx p hp hs']; exact hf
    · refine .inr ⟨z, h1, h2, (hs _).2 (.inl h3), fun p hp hs' hf' => ?_⟩
      rcases (hs _).1 hs' with hs' | hs'
      · exact h4 p hp hs' hf'
      · rw [hkx p hp hs', hf] at hf'; cases hf'
  · rcases h with ⟨h1, h2⟩ | ⟨z, h1, h2, h3, h4⟩
    · refine .inr ⟨x, hx, hf, (hs _).2 (.inr rfl), fun p hp hs' hf' => ?_⟩
      rcases (hs _).1 hs' with hs' | hs'
      · rw [h2 p hp hs'] at hf'; cases hf'
      · rw [hkx p hp hs']; exact Int.le_refl _
    · have := h0 _ h1; simp only at this; omega
  · rcases h with ⟨h1, h2⟩ | ⟨z, h1, h2, h3, h4⟩
    · omega
    · refine ⟨z, h1, fun hu => .inr ⟨x, hx, hf, (hs _).2 (.inr rfl), fun p hp hs' hf' => ?_⟩, fun hu => .inr ⟨z, h1, h2, (hs _).2 (.inl h3), fun p hp hs' hf' => ?_⟩⟩
      · rcases (hs _).1 hs' with hs' | hs'
        · have := h4 p hp hs' hf'; omega
        · rw [hkx p hp hs']; exact Int.le_refl _
      · rcases (hs _).1 hs' with hs' | hs'
        · exact h4 p hp hs' hf'
        · rw [hkx p hp hs']; omega
/-- The keys that were handed out. -/
def sn (es : Array MapEntry) (seen : Array Nat) (k : Int) : Prop := ∃ y ∈ es.toList, y.key = .int .i64 k ∧ seen.contains y.born = true
theorem sn_nil {es : Array MapEntry} {k : Int} : ¬ sn es #[] k := fun ⟨y, _, _, h⟩ => by simp at h
theorem sn_push {es : Array MapEntry} {ck : Nat} {seen : Array Nat} {y : MapEntry} {k : Int} (hst : Stamped es ck) (hy : y ∈ es.toList) (hk : y.key = .int .i64 k) (j : Int) : sn es (seen.push y.born) j ↔ sn es seen j ∨ j = k := by
  constructor
  · rintro ⟨z, hz, h1, h2⟩
    rw [contains_push, Bool.or_eq_true, beq_iff_eq] at h2
    rcases h2 with h2 | h2
    · exact .inl ⟨z, hz, h1, h2⟩
    · have hzy : z = y := by
        have h3 := find_born y es.toList hst.2.1 hy
        have h4 := find_born z es.toList hst.2.1 hz
        rw [h2] at h4
        exact Option.some.inj (h4.symm.trans h3)
      subst hzy
      rw [hk] at h1
      cases h1
      exact .inr rfl
  · rintro (⟨z, hz, h1, h2⟩ | rfl)
    · exact ⟨z, hz, h1, by rw [contains_push, h2]; rfl⟩
    · exact ⟨y, hy, hk, by rw [contains_push]; simp⟩
theorem sn_all {es : Array MapEntry} {seen : Array Nat} {m : List (Int × Value)} (hes : es.toList.map mkv = m.map mpe) (h0 : (leftOf es seen).size = 0) : ∀ p ∈ m, sn es seen p.1 := by
  intro p hp
  have : mpe p ∈ es.toList.map mkv := by rw [hes]; exact List.mem_map.2 ⟨p, hp, rfl⟩
  obtain ⟨y, hy, he⟩ := List.mem_map.1 this
  refine ⟨y, hy, congrArg Prod.fst he, ?_⟩
  cases hc : seen.contains y.born with
  | true => rfl
  | false =>
    have hm : y ∈ leftOf es seen := by
      unfold leftOf
      rw [Array.mem_filter]
      exact ⟨Array.mem_toList_iff.1 hy, by rw [hc]; rfl⟩
    rw [Array.eq_empty_of_size_eq_zero h0] at hm
    simp at hm
theorem es_at {es : Array MapEntry} {nb : Int → Nat} {M : List (Int × Bf)} (hes : es.toList.map mkv = (cvM nb M).map mpe) {y : MapEntry} (hy : y ∈ es.toList) : ∃ k x, (k, x) ∈ M ∧ y.key = .int .i64 k ∧ y.val = ptr (nb k) := by
  have : mkv y ∈ (cvM nb M).map mpe := by rw [← hes]; exact List.mem_map.2 ⟨y, hy, rfl⟩
  obtain ⟨p, hp, he⟩ := List.mem_map.1 this
  obtain ⟨q, hq, rfl⟩ := List.mem_map.1 hp
  exact ⟨q.1, q.2, hq, (congrArg Prod.fst he).symm, (congrArg Prod.snd he).symm⟩
section
variable {H : HL} {nx : Nat} {room clock : Int} {M : List (Int × Bf)} {nb : Int → Nat} {b1 b2 b3 : Bool}
def hcC (room clock : Int) (nb : Int → Nat) (M : List (Int × Bf)) : HL := [(1, some (false, .cells [iT room, iT clock, .mp 2] 54)), (2, some (false, .mp (cvM nb M))), (3, some (false, .ab (bufsQ 58 (cvQ nb M))))]
theorem memC (h1 : lookH H 1 = some (b1, .cells [iT room, iT clock, .mp 2] 54)) (h2 : lookH H 2 = some (b2, .mp (cvM nb M))) (h3 : lookH H 3 = some (b3, .ab (bufsQ 58 (cvQ nb M)))) : rdsOk (fun n => n) H (hcC room clock nb M) := ⟨⟨b1, h1⟩, ⟨b2, h2⟩, ⟨b3, h3⟩, trivial⟩
set_option maxRecDepth 100000 in
set_option maxHeartbeats 4000000 in
theorem oldest_h (h1 : lookH H 1 = some (b1, .cells [iT room, iT clock, .mp 2] 54)) (h2 : lookH H 2 = some (b2, .mp (cvM nb M))) (h3 : lookH H 3 = some (b3, .ab (bufsQ 58 (cvQ nb M))))
    (hnd : ((cvQ nb M).map Prod.fst).Nodup) (hk : (M.map Prod.fst).Nodup) (hpos : ∀ p ∈ M, 0 ≤ p.1) {o : Int} (hu : ∀ o', isOld (fun _ => True) M o' → o' = o) :
    FnH Try.prog 23 [.c (.p 1 0)] H nx ⟨.t (.c (iT o)), [], [], []⟩ := by
  refine fnR (fn := Try.f23) 40 rfl rfl rfl (args' := [.c (.p 1 0)]) (H' := hcC room clock nb M) (nx' := 4) (fun e w M' => ⟨_, mem_rd (fun n => n) (memC h1 h2 h3) M', rfl⟩) rfl rfl rfl rfl fun w => ?_
  show At _ _ _ _ _ _ [(1, some (false, .cells [iT room, iT clock, .mp 2] 54)), (2, some (false, .mp (cvM nb M))), (3, some (false, .ab (bufsQ 58 (cvQ nb M))))] 4
  refine At.pin 2 rfl fun bm => ?_
  refine At.twin (d := 2) (p := 4) rfl rfl fun es ck hst hes => ?_
  refine rn [(10, .spec ⟨.t (.c (.nm 6)), [(true, .ab (itP bm ck #[]))], [], []⟩)] rfl (by (repeat' (first | exact trivial | exact rfl | exact spec_range (p := 4) (tw := 5) tysOk rfl rfl rfl rfl rfl rfl | exact fun _ => spec_range (p := 4) (tw := 5) tysOk rfl rfl rfl rfl rfl rfl | refine And.intro ?_ ?_))) ?_
  refine At.loop (X := (x : Array Nat × Int) ×' isOld (sn es x.1) M x.2) 7 (fun x => (leftOf es x.1.1).size)
    (fun x => [(0, .t (.c (.p 1 0))), (3, .t (.c (iT x.1.2))), (10, .t (.c (.nm 6)))])
    (fun x => [(1, some (false, .cells [iT room, iT clock, .mp 2] 54)), (2, some (false, .mp (cvM nb M))), (3, some (false, .ab (bufsQ 58 (cvQ nb M)))), (4, some (false, .pin 2 bm)), (5, some (false, .ab (mapX bm es ck))), (6, some (true, .ab (itP bm ck x.1.1)))])
    ⟨(#[], -1), .inl ⟨rfl, fun p _ h => (sn_nil h).elim⟩⟩ [] (fun x => wf rfl rfl) (by repeat' (first | exact trivial | exact rfl | refine And.intro ?_ ?_)) (by repeat' (first | exact trivial | exact rfl | refine And.intro ?_ ?_)) rfl fun x => ?_
  obtain ⟨⟨seen, out⟩, hinv⟩ := x
  simp only at hinv
  by_cases hz : (leftOf es seen).size = 0
  · refine rn [(11, .spec ⟨.tup [.c (.b false)], [], [], []⟩), (12, .dec false)] rfl (by (repeat' (first | exact trivial | exact rfl | exact spec_next_end (it := 6) (tw := 5) rfl rfl rfl rfl hst hz | exact fun _ => spec_next_end (it := 6) (tw := 5) rfl rfl rfl rfl hst hz | refine And.intro ?_ ?_))) (roundExit rfl ?_)
    have hout : out = o := by
      refine hu out ?_
      have hall := sn_all hes hz
      have hall' : ∀ p ∈ M, sn es seen p.1 := fun p hp => hall (p.1, ptr (nb p.1)) (List.mem_map.2 ⟨p, hp, rfl⟩)
      rcases hinv with ⟨g1, g2⟩ | ⟨z, g1, g2, g3, g4⟩
      · exact .inl ⟨g1, fun p hp _ => g2 p hp (hall' p hp)⟩
      · exact .inr ⟨z, g1, g2, trivial, fun p hp _ => g4 p hp (hall' p hp)⟩
    subst hout
    refine rnA [] rfl (by repeat' (first | exact trivial | exact rfl | refine And.intro ?_ ?_)) ?_
    exact ret0 tysOk rfl (by repeat' (first | exact trivial | exact rfl | refine And.intro ?_ ?_)) rfl
  · have hone : ∀ y ∈ es.toList, y.key.oneCell' = true ∧ y.val.oneCell' = true := fun y hy => by
      obtain ⟨k, x, _, g2, g3⟩ := es_at hes hy
      rw [g2, g3]
      exact ⟨rfl, rfl⟩
    refine rn [(11, .spec ⟨.tup [.c (.b true), .c (.nm 7), .c (.nm 8)], [(false, .ab anyP), (false, .ab anyP)], [(6, some (.ab (exP fun y : {y // y ∈ (leftOf es seen).toList} => itL bm ck seen y.1)))], []⟩), (12, .dec true), (20004, .dec true)] rfl
      (by (repeat' (first | exact trivial | exact rfl | exact spec_next (it := 6) (tw := 5) rfl rfl rfl rfl hst hz hone | exact fun _ => spec_next (it := 6) (tw := 5) rfl rfl rfl rfl hst hz hone | refine And.intro ?_ ?_))) ?_
    refine At.ex 6 rfl (fun _ => itL_stable) fun y => ?_
    obtain ⟨y, hy⟩ := y
    have hye := (mem_left hy).1
    obtain ⟨k, x, g1, g2, g3⟩ := es_at hes hye
    have hgk := gget_nd hk g1
    have hq := cvQ_get hnd hgk
    obtain ⟨s1, s2, s3⟩ := isOld_step hk g1 (fun j => sn_push hst hye g2 j) hinv hpos
    have hμ := left_shrinks es seen y hy
    refine At.num (nb k) ?_
    have hent : ∀ {L : LL} {H : HL}, lookH H 9 = some (false, .pin 9 (nb k)) → ∀ F e a w, Sat F (fun t => look t L) (lookH H) e a w → y.key = (TV.c (iT k)).den e ∧ y.val = (TV.c (.p 9 0)).den e := fun h9 F e a w S => by
      have hb := (S.ob 9 _ _ h9).1.2
      refine ⟨g2, ?_⟩
      rw [g3]
      simp only [TV.den, CV.den, hb]
      rfl
    by_cases hf : bfree x = true
    · by_cases ho : out < 0
      · refine rn [(13, .spec ⟨.tup [.c (iT k), .c (.p 9 0)], [], [], []⟩), (17, .spec ⟨.t (.c (.b true)), [], [], []⟩), (30017, .dec true), (18, .dec true), (21, .dec true), (37, .dec true)] rfl
          (by (repeat' (first | exact trivial | exact rfl | exact trivial | exact fun _ => trivial | first | exact spec_entry (it := 6) (tw := 5) rfl rfl rfl rfl hst hye (hent rfl) | exact hf ▸ free_h (p := 9) (q := 3) rfl rfl hq | exact decide_eq_true ho | refine And.intro ?_ ?_))) ?_
        refine Done.weak 6 rfl itP_stable itL_itP ?_
        exact roundEnd ⟨(seen.push y.born, k), s2 hf ho⟩ [] hμ (by repeat' (first | exact trivial | exact rfl | refine And.intro ?_ ?_)) (by repeat' (first | exact trivial | exact rfl | refine And.intro ?_ ?_)) rfl
      · obtain ⟨z, g4, g5, g6⟩ := s3 hf ho
        have hgo := gget_nd hk g4
        have hqo := cvQ_get hnd hgo
        refine At.num (nb out) ?_
        refine rn [(13, .spec ⟨.tup [.c (iT k), .c (.p 9 0)], [], [], []⟩), (17, .spec ⟨.t (.c (.b true)), [], [], []⟩), (30017, .dec true), (30025, .dec true), (30031, .dec true), (30034, .dec true), (18, .dec true), (21, .dec false), (25, .spec ⟨.t (.c (iT x.u)), [], [], []⟩), (31, .spec ⟨.t (.c (.p 10 0)), [], [], []⟩), (34, .spec ⟨.t (.c (iT z.u)), [], [], []⟩)] rfl
          (by (repeat' (first | exact trivial | exact rfl | exact trivial | exact fun _ => trivial | first | exact spec_entry (it := 6) (tw := 5) rfl rfl rfl rfl hst hye (hent rfl) | exact hf ▸ free_h (p := 9) (q := 3) rfl rfl hq | exact decide_eq_false ho | exact spec_loadQ (p := 9) (q := 3) (y := iT x.u) tysOk rfl rfl rfl rfl rfl rfl rfl hq rfl | exact spec_lookp (q := 10) tysOk rfl rfl rfl rfl rfl (cvM_some hgo) | exact spec_loadQ (p := 10) (q := 3) (y := iT z.u) tysOk rfl rfl rfl rfl rfl rfl rfl hqo rfl | refine And.intro ?_ ?_))) ?_
        refine ⟨fun h => ?_, fun h => ?_⟩
        · refine rn [] rfl (by repeat' (first | exact trivial | exact rfl | refine And.intro ?_ ?_)) ?_
          refine Done.weak 6 rfl itP_stable itL_itP ?_
          exact roundEnd ⟨(seen.push y.born, k), g5 (of_decide_eq_true h)⟩ [] hμ (by repeat' (first | exact trivial | exact rfl | refine And.intro ?_ ?_)) (by repeat' (first | exact trivial | exact rfl | refine And.intro ?_ ?_)) rfl
        · refine rn [] rfl (by repeat' (first | exact trivial | exact rfl | refine And.intro ?_ ?_)) ?_
          refine Done.weak 6 rfl itP_stable itL_itP ?_
          exact roundEnd ⟨(seen.push y.born, out), g6 (of_decide_eq_false h)⟩ [] hμ (by repeat' (first | exact trivial | exact rfl | refine And.intro ?_ ?_)) (by repeat' (first | exact trivial | exact rfl | refine And.intro ?_ ?_)) rfl
    · have hf' : bfree x = false := by simpa using hf
      refine rn [(13, .spec ⟨.tup [.c (iT k), .c (.p 9 0)], [], [], []⟩), (17, .spec ⟨.t (.c (.b false)), [], [], []⟩), (30017, .dec true), (18, .dec false), (37, .dec false)] rfl
        (by (repeat' (first | exact trivial | exact rfl | exact trivial | exact fun _ => trivial | first | exact spec_entry (it := 6) (tw := 5) rfl rfl rfl rfl hst hye (hent rfl) | exact hf' ▸ free_h (p := 9) (q := 3) rfl rfl hq | refine And.intro ?_ ?_))) ?_
      refine Done.weak 6 rfl itP_stable itL_itP ?_
      exact roundEnd ⟨(seen.push y.born, out), s1 hf'⟩ [] hμ (by repeat' (first | exact trivial | exact rfl | refine And.intro ?_ ?_)) (by repeat' (first | exact trivial | exact rfl | refine And.intro ?_ ?_)) rfl
end
section
variable {H : HL} {nx d b : Nat} {room clock : Int} {M : List (Int × Bf)} {k : Int} {s : ByteArray} {dy : Bool}
set_option maxRecDepth 100000 in
set_option maxHeartbeats 2000000 in
theorem putFull (hd : lookH H d = some (true, .ab (cacheB room clock M b))) (hk : 0 ≤ k ∧ k < 2048) (hs : s.size = 64) (hg : gget k M = none) (hl : room ≤ (M.length : Int)) (hkn : (M.map Prod.fst).Nodup) (hpos : ∀ p ∈ M, 0 ≤ p.1) (hu : ∀ o', isOld (fun _ => True) M o' → o' = -1) :
    FnH Try.prog 9 [.c (.nm d), .c (iT k), .c (.s s), .c (.b dy)] H nx ⟨.tup [.c (iT 0), .c (iT 50)], [], [(d, some (.ab (cacheB room clock M b)))], []⟩ := by
  refine fnA (fn := Try.f9) 75 rfl rfl rfl hd (ptr b) (cacheB_pins _ _ _ _) (cacheB_pins _ _ _ _) rfl rfl rfl (v' := .tup [.c (iT 0), .c (iT 50)]) (news' := []) rfl rfl rfl rfl fun w Wr => ?_
  have hc := put_hc hk
  have g1 : ((s.size : Int) != 64) = false := by simp; omega
  refine At.ex 0 rfl (cacheP_st _ _ _ _) fun nb => ?_
  refine At.unfoldTo 0 (L1 := (0, .t (.c (.p 1 0))) :: [(1, .t (.c (iT k))), (2, .t (.c (.s s))), (3, .t (.c (.b dy)))]) (H1 := [(1, some (true, .cells [iT room, iT clock, .mp 2] 54)), (2, some (true, .mp (cvM nb M))), (3, some (true, .ab (bufsQ 58 (cvQ nb M)))), (4, some (false, .pin 1 b)), (0, none), (0, some (true, .ab (cacheP room clock M b nb))), (0, some (true, .ab (cacheB room clock M b)))]) (nx1 := 5) rfl rfl rfl rfl rfl rfl ?_
  refine At.fact 3 rfl (fun v F w h => h.2.1) fun hnd => ?_
  have hlk : lkV (cvM nb M) k (.pointer none) false = (SV.t (.c .np)).den e0 := by unfold lkV; rw [cvM_none hg]; rfl
  have g2 : decide (room ≤ ((cvM nb M).length : Int)) = true := by rw [cvM_length]; exact decide_eq_true (by omega)
  refine rn [(11, .dec false), (18, .dec false), (27, .ret (.t (.c .np))), (29, .dec true), (39, .dec true), (41, .spec ⟨.t (.c (iT (-1))), [], [], []⟩), (43, .dec true)] rfl (by (repeat' (first | exact trivial | exact rfl | exact hc | exact fun _ => hc | first | exact g1 | exact g2 | exact hlk | exact oldest_h rfl rfl rfl hnd hkn hpos hu | refine And.intro ?_ ?_))) ?_
  refine Done.fold [(0, 1), (1, 2), (2, 3), (3, 4)] (cacheO room clock M nb b) (.p 0 0) (by repeat' (first | exact trivial | exact rfl | refine And.intro ?_ ?_)) rfl rfl (fun _ => rfl) ?_
  refine Done.weak 5 (φ' := cacheB room clock M b) rfl (exP_stable (cacheP_st _ _ _ _)) (fun v F w h => ⟨nb, h⟩) ?_
  exact retM tysOk [(0, 5)] rfl (by repeat' (first | exact trivial | exact rfl | refine And.intro ?_ ?_)) (by repeat' (first | exact trivial | exact rfl | refine And.intro ?_ ?_)) rfl rfl
theorem gdel_no {α : Type} {k o : Int} {W : List (Int × α)} (h : ∀ p ∈ W, p.1 ≠ k) : ∀ p ∈ gdel o W, p.1 ≠ k := fun p hp => h p (gdel_mem hp)
set_option maxRecDepth 100000 in
set_option maxHeartbeats 2000000 in
theorem putEvict (hd : lookH H d = some (true, .ab (cacheB room clock M b))) (hk : 0 ≤ k ∧ k < 2048) (hs : s.size = 64) (hz : 0 ≤ clock ∧ clock ≤ 1000000) (hg : gget k M = none) (hl : room ≤ (M.length : Int)) (hno' : ∀ p ∈ M, p.1 ≠ k) (hkn : (M.map Prod.fst).Nodup) (hpos : ∀ p ∈ M, 0 ≤ p.1)
    {o : Int} {x : Bf} (hu : ∀ o', isOld (fun _ => True) M o' → o' = o) (hgo : gget o M = some x) :
    FnH Try.prog 9 [.c (.nm d), .c (iT k), .c (.s s), .c (.b dy)] H nx ⟨.tup [.c (iT o), .c (iT 0)], [], [(d, some (.ab (cacheB room (clock + 1) (gdel o M ++ [(k, ⟨s, dy, 0, clock + 1⟩)]) b)))], []⟩ := by
  refine fnA (fn := Try.f9) 75 rfl rfl rfl hd (ptr b) (cacheB_pins _ _ _ _) (cacheB_pins _ _ _ _) rfl rfl rfl (v' := .tup [.c (iT o), .c (iT 0)]) (news' := []) rfl rfl rfl rfl fun w Wr => ?_
  have hc := put_hc hk
  have g1 : ((s.size : Int) != 64) = false := by simp; omega
  have g3 : decide (o < 0) = false := decide_eq_false (by have := hpos _ (gget_mem hgo); simp only at this; omega)
  have hno := gdel_no (o := o) hno'
  refine At.ex 0 rfl (cacheP_st _ _ _ _) fun nb => ?_
  refine At.unfoldTo 0 (L1 := (0, .t (.c (.p 1 0))) :: [(1, .t (.c (iT k))), (2, .t (.c (.s s))), (3, .t (.c (.b dy)))]) (H1 := [(1, some (true, .cells [iT room, iT clock, .mp 2] 54)), (2, some (true, .mp (cvM nb M))), (3, some (true, .ab (bufsQ 58 (cvQ nb M)))), (4, some (false, .pin 1 b)), (0, none), (0, some (true, .ab (cacheP room clock M b nb))), (0, some (true, .ab (cacheB room clock M b)))]) (nx1 := 5) rfl rfl rfl rfl rfl rfl ?_
  refine At.fact 3 rfl (fun v F w h => h.2.1) fun hnd => ?_
  have hlk : lkV (cvM nb M) k (.pointer none) false = (SV.t (.c .np)).den e0 := by unfold lkV; rw [cvM_none hg]; rfl
  have g2 : decide (room ≤ ((cvM nb M).length : Int)) = true := by rw [cvM_length]; exact decide_eq_true (by omega)
  refine rn [(11, .dec false), (18, .dec false), (27, .ret (.t (.c .np))), (29, .dec true), (39, .dec true), (41, .spec ⟨.t (.c (iT o)), [], [], []⟩), (43, .dec false), (20014, .dec true)] rfl (by (repeat' (first | exact trivial | exact rfl | exact hc | exact fun _ => hc | first | exact g1 | exact g2 | exact g3 | exact hlk | exact oldest_h rfl rfl rfl hnd hkn hpos hu | refine And.intro ?_ ?_))) ?_
  refine At.pin 5 rfl fun b' => ?_
  refine At.weak 3 (φ' := absP (oneO 58 (nb o) (bfC x) (cvQ nb (gdel o M))) .np) rfl (absP_stable _ _) (fun v F w h => bufsQ_out v F w (bufsQ_perm (cvQ_out hgo) v F w h)) ?_
  refine At.unfold 3 rfl rfl rfl ?_
  refine rn [(9999, .spec ⟨.t (.c (.raw undef)), [], [(2, some (.mp (mput k (ptr b') (mdel o (cvM nb M)))))], []⟩), (64, .dec false), (73, .spec ⟨.tup [], [], [(1, some (.cells [iT room, iT (clock + 1), .mp 2] 54)), (5, some (.cells (bfC ⟨s, dy, 0, clock + 1⟩) 58))], []⟩)] rfl
    (by (repeat' (first | exact trivial | exact rfl | exact trivial | exact fun _ => trivial | first | exact spec_mapup (n := 5) (q := 6) tysOk rfl rfl rfl rfl rfl rfl ⟨by omega, by omega⟩ | exact use_h (x := ⟨s, dy, 0, 0⟩) rfl rfl rfl (by decide) (by decide) (by decide) hz | refine And.intro ?_ ?_))) ?_
  refine Done.fold [(0, 5), (1, 6), (2, 9)] (oneO 58 b' (bfC (⟨s, dy, 0, clock + 1⟩)) (cvQ nb (gdel o M))) .np (by (repeat' (first | exact trivial | exact rfl | exact trivial | exact fun _ => trivial | rfl | refine And.intro ?_ ?_))) rfl rfl (fun _ => rfl) ?_
  refine Done.weak 10 (φ' := bufsQ 58 (cvQ (fun j => if j = k then b' else nb j) (gdel o M ++ [(k, (⟨s, dy, 0, clock + 1⟩ : Bf))]))) rfl bufsQ_stable (fun v F w h => by
    rw [cvQ_put hno]
    exact bufsQ_perm (List.perm_append_comm (l₁ := [(b', bfC (⟨s, dy, 0, clock + 1⟩))])) v F w (bufsQ_in rfl v F w h)) ?_
  refine Done.fold [(0, 1), (1, 2), (2, 10), (3, 4)] (cacheO room (clock + 1) (gdel o M ++ [(k, (⟨s, dy, 0, clock + 1⟩ : Bf))]) (fun j => if j = k then b' else nb j) b) (.p 0 0) (by (repeat' (first | exact trivial | exact rfl | exact trivial | exact fun _ => trivial | first | exact cvM_put hno | (rw [cvM_del]; exact cvM_put hno) | rfl | refine And.intro ?_ ?_))) rfl rfl (fun _ => rfl) ?_
  refine Done.weak 11 (φ' := cacheB room (clock + 1) (gdel o M ++ [(k, (⟨s, dy, 0, clock + 1⟩ : Bf))]) b) rfl (exP_stable (cacheP_st _ _ _ _)) (fun v F w h => ⟨fun j => if j = k then b' else nb j, h⟩) ?_
  exact retM tysOk [(0, 11)] rfl (by repeat' (first | exact trivial | exact rfl | refine And.intro ?_ ?_)) (by repeat' (first | exact trivial | exact rfl | refine And.intro ?_ ?_)) rfl rfl
end
end Cw
