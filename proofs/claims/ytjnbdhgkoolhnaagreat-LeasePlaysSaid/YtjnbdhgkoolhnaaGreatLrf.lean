/- The document's leases (cutwaterref23), by reckoning. -/
import Derived.Test.YtjnbdhgkoolhnaaGreatLse
import Derived.Test.YtjnbdhgkoolhnaaGreatTabR
import Derived.Test.YtjnbdhgkoolhnaaGreatRDsk
namespace Cw
open Go Vc
open Go.Proofs
set_option maxRecDepth 100000
section
variable {H : HL} {nx d b N n : Nat} {S : List ByteArray} {W : List (Int × Wr)} {last a bb c : Int}
set_option maxRecDepth 100000 in
set_option maxHeartbeats 4000000 in
theorem rltab_no4 (hd : lookH H d = some (true, .ab (rdP S W last b))) (hg : ¬ Gok a bb c) :
    FnH Tryz.prog 11 [.c (.nm d), geoT a bb c] H nx ⟨.tup [.c .nsl, .c (iT 4)], [], [(d, some (.ab (rdP S W last b)))], []⟩ := by
  refine fnAs (fn := Tryz.f11) 39 rfl rfl rfl (args' := [.c (.nm 0), geoT a bb c]) [(d, rdP S W last b, rdP S W last b)] [] ⟨⟨hd, ptr b, rd_pins _ _ _ _, rd_pins _ _ _ _⟩, trivial⟩ trivial (by simp) rfl rfl rfl rfl (v' := .tup [.c .nsl, .c (iT 4)]) (news' := []) rfl rfl rfl rfl rfl fun w Wh => ?_
  show At _ _ _ _ _ _ [(0, some (true, .ab (rdP S W last b)))] 1
  have hre := rregions0 a bb c
  rw [gregions, if_neg hg] at hre
  refine rn [(12, .ret (.t (.c (iT 0)))), (14, .dec true)] rfl (by (repeat' (first | exact trivial | exact rfl | exact trivial | exact fun _ => trivial | first | exact hre | rfl | refine And.intro ?_ ?_))) ?_
  exact retM tysOk [(0, 0)] rfl (by repeat' (first | exact trivial | exact rfl | refine And.intro ?_ ?_)) (by repeat' (first | exact trivial | exact rfl | refine And.intro ?_ ?_)) rfl rfl
set_option maxRecDepth 100000 in
set_option maxHeartbeats 8000000 in
/-- The table, whatever stands there. -/
theorem rltab_go {news : List (Bool × Ob)} {v v' : SV} (hd : lookH H d = some (true, .ab (rdP S W last b))) (hS : 2 ≤ S.length) (hg : Gok a bb c) (hn : gregions a bb c = (n : Nat))
    (hc : (S.length < 2 + nsec n ∧ v' = .tup [.c .nsl, .c (iT 80)] ∧ news = [] ∧ v = v') ∨
      (2 + nsec n ≤ S.length ∧ ¬ Tdok (tT S (nsec n)) n ∧ (∀ s ∈ S, s.size = 64) ∧ v' = .tup [.c .nsl, .c (iT 80)] ∧ news = [] ∧ v = v') ∨
      (2 + nsec n ≤ S.length ∧ Tdok (tT S (nsec n)) n ∧ v' = .tup [.c (.nm 1), .c (iT 0)] ∧ v = .tup [.c (.nm nx), .c (iT 0)] ∧ news = [(true, .own 46 2 n (lcells (dl (tT S (nsec n)) n)))])) :
    FnH Tryz.prog 11 [.c (.nm d), geoT a bb c] H nx ⟨v, news, [(d, some (.ab (rdP S W last b)))], []⟩ := by
  have hre := rregions0 a bb c
  rw [hn] at hre
  obtain ⟨n2, n132⟩ := regions_two hg hn
  have g0 : ((n : Int) == 0) = false := by simp; omega
  rcases hc with ⟨hlen, rfl, rfl, rfl⟩ | ⟨hlen, hbad, hz, rfl, rfl, rfl⟩ | ⟨hlen, hok, rfl, rfl, rfl⟩
  · refine fnAs (fn := Tryz.f11) 39 rfl rfl rfl (args' := [.c (.nm 0), geoT a bb c]) [(d, rdP S W last b, rdP S W last b)] [] ⟨⟨hd, ptr b, rd_pins _ _ _ _, rd_pins _ _ _ _⟩, trivial⟩ trivial (by simp) rfl rfl rfl rfl (v' := .tup [.c .nsl, .c (iT 80)]) (news' := []) rfl rfl rfl rfl rfl fun w Wh => ?_
    show At _ _ _ _ _ _ [(0, some (true, .ab (rdP S W last b)))] 1
    refine rn [(12, .ret (.t (.c (iT (n : Nat))))), (14, .dec false)] rfl (by (repeat' (first | exact trivial | exact rfl | exact trivial | exact fun _ => trivial | first | exact hre | exact g0 | rfl | refine And.intro ?_ ?_))) ?_
    refine At.nil 7 9 1 rfl ?_
    refine At.loop (X := (k : Nat) ×' (k ≤ nsec n ∧ 2 + k ≤ S.length)) 3 (fun x => nsec n - x.1)
      (fun x => [(0, .t (.c (.nm 0))), (3, .t (.c (.p 1 0))), (6, .t (.c (iT (n : Nat)))), (7, .t (.c (.nm 2))), (8, .t (.c (iT (x.1 : Nat))))])
      (fun x => [(0, some (true, .ab (rdP S W last b))), (1, some (true, .cells [iT a, iT bb, iT c] 23)), (2, some (true, .own 9 1 x.1 (svs (tT S x.1))))]) ⟨0, by omega, by omega⟩ [] (fun x => wf rfl rfl) (by repeat' (first | exact trivial | exact rfl | refine And.intro ?_ ?_)) (by repeat' (first | exact trivial | exact rfl | refine And.intro ?_ ?_)) rfl fun x => ?_
    obtain ⟨k, hk, hkS⟩ := x
    have hnn : nsec n ≤ 9 := by unfold nsec; omega
    have w3 : IntKind.i64.wrap ((k : Int) + 1) = ((k + 1 : Nat) : Int) := by rw [wrap_sm (by omega) (by omega)]; omega
    have w5 : IntKind.i64.wrap ((k : Int) * 16) = ((k * 16 : Nat) : Int) := by rw [wrap_sm (by omega) (by omega)]; omega
    have w4 : IntKind.i64.wrap (2 + (k : Int)) = ((2 + k : Nat) : Int) := by rw [wrap_sm (by omega) (by omega)]; omega
    have hr : ∀ (H : HL) (nx : Nat) (h0 : lookH H 0 = some (true, .ab (rdP S W last b))), FnH Tryz.prog 58 [.c (.nm 0), .c (iT (IntKind.i64.wrap (2 + (k : Int))))] H nx ⟨.tup [.c (.s (rdT S ((2 + k : Nat) : Int))), .c (iT (rdE S.length ((2 + k : Nat) : Int)))], [], [(0, some (.ab (rdP S W last b)))], []⟩ := fun H nx h0 => by rw [w4]; exact rreadA h0 _
    refine rn [] rfl (by repeat' (first | exact trivial | exact rfl | refine And.intro ?_ ?_)) ?_
    refine ⟨fun h1 => ?_, fun h1 => ?_⟩
    · have hkm : k < nsec n := by
        have : IntKind.i64.wrap ((k : Int) * 16) < (n : Int) := of_decide_eq_true h1
        rw [w5] at this
        unfold nsec
        omega
      clear h1
      by_cases hlt : 2 + k < S.length
      · have hin : inS S.length ((2 + k : Nat) : Int) = true := inS_iff.2 (by omega)
        rw [rdE, if_pos hin] at hr
        have hap := tT_succ hlt
        have m1 : k + 1 ≤ maxLen := by simp only [maxLen]; omega
        have m2 : (k + 1) * 16 ≤ 140737488355328 := by omega
        generalize rdT S ((2 + k : Nat) : Int) = t at *
        refine rn [(25, .spec ⟨.tup [.c (.s t), .c (iT 0)], [], [(0, some (.ab (rdP S W last b)))], []⟩), (29, .dec false)] rfl (by (repeat' (first | exact trivial | exact rfl | exact trivial | exact fun _ => trivial | first | exact hr _ _ rfl | exact m1 | exact m2 | rfl | decide | refine And.intro ?_ ?_))) ?_
        refine roundEnd ⟨k + 1, by omega, by omega⟩ [(2, 4)] (by show nsec n - (k + 1) < nsec n - k; omega) (by (repeat' (first | exact trivial | exact rfl | exact w3 | exact fun _ => w3 | refine And.intro ?_ ?_))) ?_ rfl
        repeat' (first | exact trivial | exact rfl | refine And.intro ?_ ?_)
        · rw [hap, app_eq]; simp [svs]; rfl
      · have hin : inS S.length ((2 + k : Nat) : Int) = false := by
          cases h : inS S.length ((2 + k : Nat) : Int) with
          | false => rfl
          | true => have := inS_iff.1 h; omega
        rw [rdE, if_neg (by rw [hin]; decide)] at hr
        generalize rdT S ((2 + k : Nat) : Int) = t at *
        refine rn [(25, .spec ⟨.tup [.c (.s t), .c (iT 1)], [], [(0, some (.ab (rdP S W last b)))], []⟩), (29, .dec true)] rfl (by (repeat' (first | exact trivial | exact rfl | exact trivial | exact fun _ => trivial | first | exact hr _ _ rfl | rfl | decide | refine And.intro ?_ ?_))) ?_
        exact roundRet (retM tysOk [(0, 0)] rfl (by repeat' (first | exact trivial | exact rfl | refine And.intro ?_ ?_)) (by repeat' (first | exact trivial | exact rfl | refine And.intro ?_ ?_)) rfl rfl)
    · have hkm : k = nsec n := by
        have : ¬ IntKind.i64.wrap ((k : Int) * 16) < (n : Int) := of_decide_eq_false h1
        rw [w5] at this
        unfold nsec at *
        omega
      omega
  all_goals
    refine fnAs (fn := Tryz.f11) 39 rfl rfl rfl (args' := [.c (.nm 0), geoT a bb c]) [(d, rdP S W last b, rdP S W last b)] [] ⟨⟨hd, ptr b, rd_pins _ _ _ _, rd_pins _ _ _ _⟩, trivial⟩ trivial (by simp) rfl rfl rfl rfl (by first | exact (rfl : SV.re _ (.tup [.c .nsl, .c (iT 80)]) = _) | exact (rfl : SV.re _ (.tup [.c (.nm 1), .c (iT 0)]) = _)) (by first | exact (rfl : reN _ [] = _) | exact (rfl : reN _ [(true, .own 46 2 n (lcells (dl (tT S (nsec n)) n)))] = _)) rfl rfl rfl fun w Wh => ?_
    show At _ _ _ _ _ _ [(0, some (true, .ab (rdP S W last b)))] 1
    refine rn [(12, .ret (.t (.c (iT (n : Nat))))), (14, .dec false)] rfl (by (repeat' (first | exact trivial | exact rfl | exact trivial | exact fun _ => trivial | first | exact hre | exact g0 | rfl | refine And.intro ?_ ?_))) ?_
    refine At.nil 7 9 1 rfl ?_
    refine At.loop (X := (k : Nat) ×' (k ≤ nsec n ∧ 2 + k ≤ S.length)) 3 (fun x => nsec n - x.1)
      (fun x => [(0, .t (.c (.nm 0))), (3, .t (.c (.p 1 0))), (6, .t (.c (iT (n : Nat)))), (7, .t (.c (.nm 2))), (8, .t (.c (iT (x.1 : Nat))))])
      (fun x => [(0, some (true, .ab (rdP S W last b))), (1, some (true, .cells [iT a, iT bb, iT c] 23)), (2, some (true, .own 9 1 x.1 (svs (tT S x.1))))]) ⟨0, by omega, by omega⟩ [] (fun x => wf rfl rfl) (by repeat' (first | exact trivial | exact rfl | refine And.intro ?_ ?_)) (by repeat' (first | exact trivial | exact rfl | refine And.intro ?_ ?_)) rfl fun x => ?_
    obtain ⟨k, hk, hkS⟩ := x
    have hnn : nsec n ≤ 9 := by unfold nsec; omega
    have w3 : IntKind.i64.wrap ((k : Int) + 1) = ((k + 1 : Nat) : Int) := by rw [wrap_sm (by omega) (by omega)]; omega
    have w5 : IntKind.i64.wrap ((k : Int) * 16) = ((k * 16 : Nat) : Int) := by rw [wrap_sm (by omega) (by omega)]; omega
    have w4 : IntKind.i64.wrap (2 + (k : Int)) = ((2 + k : Nat) : Int) := by rw [wrap_sm (by omega) (by omega)]; omega
    have hr : ∀ (H : HL) (nx : Nat) (h0 : lookH H 0 = some (true, .ab (rdP S W last b))), FnH Tryz.prog 58 [.c (.nm 0), .c (iT (IntKind.i64.wrap (2 + (k : Int))))] H nx ⟨.tup [.c (.s (rdT S ((2 + k : Nat) : Int))), .c (iT (rdE S.length ((2 + k : Nat) : Int)))], [], [(0, some (.ab (rdP S W last b)))], []⟩ := fun H nx h0 => by rw [w4]; exact rreadA h0 _
    refine rn [] rfl (by repeat' (first | exact trivial | exact rfl | refine And.intro ?_ ?_)) ?_
    refine ⟨fun h1 => ?_, fun h1 => ?_⟩
    · have hkm : k < nsec n := by
        have : IntKind.i64.wrap ((k : Int) * 16) < (n : Int) := of_decide_eq_true h1
        rw [w5] at this
        unfold nsec
        omega
      clear h1
      have hlt : 2 + k < S.length := by omega
      have hin : inS S.length ((2 + k : Nat) : Int) = true := inS_iff.2 (by omega)
      rw [rdE, if_pos hin] at hr
      have hap := tT_succ hlt
      have m1 : k + 1 ≤ maxLen := by simp only [maxLen]; omega
      have m2 : (k + 1) * 16 ≤ 140737488355328 := by omega
      generalize rdT S ((2 + k : Nat) : Int) = t at *
      refine rn [(25, .spec ⟨.tup [.c (.s t), .c (iT 0)], [], [(0, some (.ab (rdP S W last b)))], []⟩), (29, .dec false)] rfl (by (repeat' (first | exact trivial | exact rfl | exact trivial | exact fun _ => trivial | first | exact hr _ _ rfl | exact m1 | exact m2 | rfl | decide | refine And.intro ?_ ?_))) ?_
      refine roundEnd ⟨k + 1, by omega, by omega⟩ [(2, 4)] (by show nsec n - (k + 1) < nsec n - k; omega) (by (repeat' (first | exact trivial | exact rfl | exact w3 | exact fun _ => w3 | refine And.intro ?_ ?_))) ?_ rfl
      repeat' (first | exact trivial | exact rfl | refine And.intro ?_ ?_)
      · rw [hap, app_eq]; simp [svs]; rfl
    · have hkm : k = nsec n := by
        have : ¬ IntKind.i64.wrap ((k : Int) * 16) < (n : Int) := of_decide_eq_false h1
        rw [w5] at this
        unfold nsec at *
        omega
      clear h1
      subst hkm
      have hTl := tT_len hkS
      refine rn [] rfl (by repeat' (first | exact trivial | exact rfl | refine And.intro ?_ ?_)) (roundExit rfl ?_)
      first
      | (have hdc := fun (H : HL) (nx : Nat) (h2 : lookH H 2 = some (true, .own 9 1 (nsec n) (svs (tT S (nsec n))))) => rdec_h (nx := nx) (tT S (nsec n)) hg hn hTl hok (SlR.own (by rw [hTl]; exact h2))
         refine rnA [(36, .spec ⟨.tup [.c (.nm 3), .c (iT 0)], [(true, .own 46 2 n (lcells (dl (tT S (nsec n)) n)))], [], []⟩)] rfl (by (repeat' (first | exact trivial | exact rfl | exact trivial | exact fun _ => trivial | first | exact hdc _ _ rfl | rfl | decide | refine And.intro ?_ ?_))) ?_
         exact retM tysOk [(0, 0), (1, 3)] rfl (by repeat' (first | exact trivial | exact rfl | refine And.intro ?_ ?_)) (by repeat' (first | exact trivial | exact rfl | refine And.intro ?_ ?_)) rfl rfl)
      | (have hdc := fun (H : HL) (nx : Nat) (h2 : lookH H 2 = some (true, .own 9 1 (nsec n) (svs (tT S (nsec n))))) => rdec_no80 (nx := nx) (tT S (nsec n)) hg hn hTl hbad (SlR.own (by rw [hTl]; exact h2))
         refine rnA [(36, .spec ⟨.tup [.c .nsl, .c (iT 80)], [], [], []⟩)] rfl (by (repeat' (first | exact trivial | exact rfl | exact trivial | exact fun _ => trivial | first | exact hdc _ _ rfl | rfl | decide | refine And.intro ?_ ?_))) ?_
         exact retM tysOk [(0, 0)] rfl (by repeat' (first | exact trivial | exact rfl | refine And.intro ?_ ?_)) (by repeat' (first | exact trivial | exact rfl | refine And.intro ?_ ?_)) rfl rfl)
end
end Cw
namespace Cw
open Go Vc
open Go.Proofs
set_option maxRecDepth 100000
/-- A disk that has a table of these leases, whatever its fence is. -/
structure TbG (S : List ByteArray) (a bb c : Int) (L : List Ls) : Prop where
  g : Gok a bb c
  hn : gregions a bb c = (L.length : Nat)
  tk : L.all (fun x => tok x.1 x.2) = true
  ln : 2 + nsec L.length ≤ S.length
  tb : tT S (nsec L.length) = tsecs (tz L L.length) (nsec L.length)
section
variable {S : List ByteArray} {a bb c : Int} {L : List Ls} {N : Nat} {W : List (Int × Wr)} {last : Int}
theorem TbG.of (h : tbE S a bb c = 0) : TbG S a bb c (tbL S a bb c) := by
  unfold tbE at h
  split at h
  · cases h
  · rename_i hg
    split at h
    · rename_i h2
      obtain ⟨q1, _, q2, q3⟩ := h2
      have hn := regions_nat a bb c
      refine ⟨Decidable.not_not.1 hg, by rw [tbL_len]; exact hn, q2, by rw [tbL_len]; exact q1, ?_⟩
      rw [tbL_len]
      exact q3.symm
    · cases h
theorem TbG.tl (h : TbG S a bb c L) : (gregions a bb c).toNat = L.length := by rw [h.hn]; omega
theorem TbG.e (h : TbG S a bb c L) : tbE S a bb c = 0 := by
  unfold tbE tbM
  rw [h.tl, if_neg (fun hg => hg h.g), if_pos]
  rw [h.tb]
  exact ⟨h.ln, tdok_back L h.tk⟩
theorem TbG.l (h : TbG S a bb c L) : tbL S a bb c = L := by
  unfold tbL tbM
  rw [h.tl, h.tb]
  exact dl_back L h.tk
theorem TbG.put (h : TbG S a bb c L) {r : Nat} (hr : r < L.length) {x : Ls} (hx : tok x.1 x.2 = true) : tpe a bb c (r : Nat) x.1 x.2 = 0 :=
  (put_ok h.g (by rw [h.hn]; omega) hx).1
theorem gve_zero {x : Ls} {o : Int} (h : gve x o = 0) : tok x.1 x.2 = true ∧ 0 ≤ o ∧ o ≤ 2 ∧ x.2 ≠ 16777215 := by
  unfold gve at h
  split at h
  · rename_i h1
    split at h
    · cases h
    · exact ⟨h1, by omega, by omega, by omega⟩
  · cases h
theorem TbG.give (h : TbG S a bb c L) {r : Nat} (hr : r < L.length) {x : Ls} {o : Int} (hx : gve x o = 0) : tpe a bb c (r : Nat) (gvx x o).1 (gvx x o).2 = 0 := by
  obtain ⟨h1, h2, h3, h4⟩ := gve_zero hx
  rw [gvx, if_pos hx]
  exact h.put hr (tok_next h1 ⟨h2, h3⟩ h4)
theorem TbG.tn (h : TbG S a bb c L) (hD : DOk N S W last) {node ep o : Int} {r : Nat} (hr : r < L.length) (he : tnE S a bb c node ep (r : Nat) L[r] o = 0) : TbG (tnS S a bb c node ep (r : Nat) L[r] o) a bb c (L.set r (o, L[r].2 + 1)) := by
  have hx : tok L[r].1 L[r].2 = true := List.all_eq_true.1 h.tk _ (List.getElem_mem hr)
  have hg0 : gve L[r] o = 0 := by
    unfold tnE at he
    split at he
    · rename_i h1; exact absurd he h1
    · rename_i h1; exact Decidable.not_not.1 h1
  obtain ⟨_, o1, o2, hs⟩ := gve_zero hg0
  obtain ⟨g1, g2⟩ := gve_ok hx ⟨o1, o2⟩ hs
  have hy : tok o (L[r].2 + 1) = true := tok_next hx ⟨o1, o2⟩ hs
  have hrn : (r : Int) < gregions a bb c := by rw [h.hn]; omega
  obtain ⟨p1, p2, p3⟩ := put_ok (x := L[r]) h.g hrn hx
  obtain ⟨q1, q2, q3⟩ := put_ok (x := (o, L[r].2 + 1)) h.g hrn hy
  simp only at q1 q2 q3
  have hq : r / 16 < nsec L.length := by unfold nsec; omega
  have hlen : 2 + nsec L.length ≤ S.length := h.ln
  have hz : 64 * nsec L.length = (tz L L.length).length := (tz_length L _ (Nat.le_refl _)).symm
  have hsl : (sec (tz L L.length) (r / 16)).length = 64 := sec_length hz.symm hq
  have hrd : rdT S (2 + (r / 16 : Nat) : Int) = Cw.S (sec (tz L L.length) (r / 16)) := by
    rw [rd_tT hq hlen]
    simp only [h.tb, secs_get]
  have okx : okp (((r % 16 * 4 : Nat) : Int), Cw.S (lw L[r])) = true := by
    simp [okp, finside, S_size, lw_length]
    omega
  have oky : okp (((r % 16 * 4 : Nat) : Int), Cw.S (lw (o, L[r].2 + 1))) = true := by
    simp [okp, finside, S_size, lw_length]
    omega
  have hsw : swE S node ep (2 + (r / 16 : Nat)) (((r % 16 * 4 : Nat) : Int), Cw.S (lw L[r])) (((r % 16 * 4 : Nat) : Int), Cw.S (lw (o, L[r].2 + 1))) = 0 := by
    rw [tnE, if_neg (fun h => h g1), if_neg (fun h => h p1), g2, if_neg (fun h => h q1), p2, p3, q3] at he
    exact he
  have hS : tnS S a bb c node ep (r : Nat) L[r] o = swS S node ep (2 + (r / 16 : Nat)) (((r % 16 * 4 : Nat) : Int), Cw.S (lw L[r])) (((r % 16 * 4 : Nat) : Int), Cw.S (lw (o, L[r].2 + 1))) := by
    rw [tnS, if_neg (fun h => h g1), if_neg (fun h => h p1), g2, if_neg (fun h => h q1), p2, p3, q3]
  have hb : plc (rdT S (2 + (r / 16 : Nat) : Int)) (((r % 16 * 4 : Nat) : Int), Cw.S (lw L[r])) = Cw.S (lw L[r]) := by
    apply bt_ext
    rw [plc_data okx, hrd]
    show ((Cw.S (sec (tz L L.length) (r / 16))).data.toList.drop ((r % 16 * 4 : Nat) : Int).toNat).take (Cw.S (lw L[r])).size = (Cw.S (lw L[r])).data.toList
    rw [Int.toNat_natCast, S_size, lw_length, S_data, S_data]
    exact sec_lease L r hr
  have hT : tnS S a bb c node ep (r : Nat) L[r] o = S.set (2 + r / 16) (Cw.S (one (sec (tz L L.length) (r / 16)) ((r % 16 * 4 : Nat), Cw.S (lw (o, L[r].2 + 1))))) := by
    rw [hS, swS, swB, hsw, hb, if_pos (by simp [bq])]
    have h1 : (2 + (r / 16 : Nat) : Int).toNat = 2 + r / 16 := by omega
    rw [h1]
    congr 1
    apply bt_ext
    rw [pt_data (by rw [hrd, S_size]; exact hsl) oky, hrd]
    show over (Cw.S (sec (tz L L.length) (r / 16))).data.toList ((r % 16 * 4 : Nat) : Int).toNat (Cw.S (lw (o, L[r].2 + 1))).data.toList = _
    rw [S_data, S_data, one, S_data]
    rfl
  rw [hT]
  have hl : (L.set r (o, L[r].2 + 1)).length = L.length := List.length_set ..
  refine ⟨h.g, by rw [hl]; exact h.hn, ?_, by rw [hl, List.length_set]; exact h.ln, ?_⟩
  · rw [List.all_eq_true]
    intro y hy'
    rcases List.mem_or_eq_of_mem_set hy' with h1 | h1
    · exact List.all_eq_true.1 h.tk _ h1
    · rw [h1]; exact hy
  · rw [hl, tT_set _ hq, h.tb]
    have := secs_set L r hr (o, L[r].2 + 1)
    rw [← hl]
    rw [hl]
    exact this
/-- A lease that is told of. -/
theorem ls_ok {node r : Int} (h : rgE S a bb c node r = 0) : ∃ k : Nat, r = (k : Int) ∧ ∃ hk : k < (tbL S a bb c).length, lsX S a bb c node r = (tbL S a bb c)[k] ∧ TbG S a bb c (tbL S a bb c) ∧ 0 ≤ node ∧ node < 2 := by
  obtain ⟨h1, h2, h3, h4, h5⟩ := lsE_node h
  obtain ⟨k, rfl⟩ := Int.eq_ofNat_of_zero_le h4
  have hk : k < (tbL S a bb c).length := by omega
  refine ⟨k, rfl, hk, ?_, TbG.of (snE_ok h1).1, h2, h3⟩
  rw [lsX, if_pos h, Int.toNat_natCast, List.getD_eq_getElem?_getD, List.getElem?_eq_getElem hk]
  rfl
end
section
variable {H : HL} {nx d b N n : Nat} {S : List ByteArray} {W : List (Int × Wr)} {last a bb c : Int}
theorem rltabO (hd : lookH H d = some (true, .ab (rdP S W last b))) (hD : DOk N S W last) (he : tbE S a bb c = 0) :
    FnH Tryz.prog 11 [.c (.nm d), geoT a bb c] H nx ⟨.tup [.c (.nm nx), .c (iT 0)], [(true, .own 46 2 (tbL S a bb c).length (lcells (tbL S a bb c)))], [(d, some (.ab (rdP S W last b)))], []⟩ := by
  unfold tbE at he
  split at he
  · cases he
  · rename_i hg
    split at he
    · rename_i h
      rw [tbL_len]
      exact rltab_go hd (by have := hD.two; have := hD.len; omega) (Decidable.not_not.1 hg) (regions_nat a bb c) (.inr (.inr ⟨h.1, h.2, rfl, rfl, rfl⟩))
    · cases he
theorem rltabE (hd : lookH H d = some (true, .ab (rdP S W last b))) (hD : DOk N S W last) {e : Int} (he : tbE S a bb c = e) (h0 : e ≠ 0) :
    FnH Tryz.prog 11 [.c (.nm d), geoT a bb c] H nx ⟨.tup [.c .nsl, .c (iT e)], [], [(d, some (.ab (rdP S W last b)))], []⟩ := by
  subst he
  have h2 : 2 ≤ S.length := by have := hD.two; have := hD.len; omega
  unfold tbE at *
  by_cases hg : Gok a bb c
  · rw [if_neg (fun h => h hg)] at h0 ⊢
    have hn := regions_nat a bb c
    by_cases hl : 2 + tbM S a bb c ≤ S.length
    · by_cases ht : Tdok (tT S (tbM S a bb c)) (gregions a bb c).toNat
      · rw [if_pos ⟨hl, ht⟩] at h0; exact absurd rfl h0
      · rw [if_neg (fun h => ht h.2)]
        exact rltab_go hd h2 hg hn (.inr (.inl ⟨hl, ht, hD.sz, rfl, rfl, rfl⟩))
    · rw [if_neg (fun h => hl h.1)]
      exact rltab_go hd h2 hg hn (.inl ⟨by have : ¬ 2 + nsec (gregions a bb c).toNat ≤ S.length := hl; omega, rfl, rfl, rfl⟩)
  · rw [if_pos hg]
    exact rltab_no4 hd hg
set_option maxRecDepth 100000 in
set_option maxHeartbeats 4000000 in
theorem rlheldO (hd : lookH H d = some (true, .ab (rdP S W last b))) (hD : DOk N S W last) {node : Int} (he : snE S a bb c node = 0) :
    FnH Tryz.prog 45 [.c (.nm d), geoT a bb c, .c (iT node)] H nx ⟨.tup [.c (.nm nx), .c (iT 0)], [(true, .own 3 1 (hdL S a bb c (node + 1)).length (ivs (hdL S a bb c (node + 1))))], [(d, some (.ab (rdP S W last b)))], []⟩ := by
  obtain ⟨h0, n0, n2⟩ := snE_ok he
  refine fnAs (fn := Tryz.f45) 29 rfl rfl rfl (args' := [.c (.nm 0), geoT a bb c, .c (iT node)]) [(d, rdP S W last b, rdP S W last b)] [] ⟨⟨hd, ptr b, rd_pins _ _ _ _, rd_pins _ _ _ _⟩, trivial⟩ trivial (by simp) rfl rfl rfl rfl (v' := .tup [.c (.nm 1), .c (iT 0)]) (news' := [(true, .own 3 1 (hdL S a bb c (node + 1)).length (ivs (hdL S a bb c (node + 1))))]) rfl rfl rfl rfl rfl fun w Wh => ?_
  show At _ _ _ _ _ _ [(0, some (true, .ab (rdP S W last b)))] 1
  have ht := fun (H : HL) (nx : Nat) (h0' : lookH H 0 = some (true, .ab (rdP S W last b))) => rltabO (nx := nx) h0' hD h0
  have hl := tbL_le S a bb c
  have w1 : IntKind.i64.wrap (node + 1) = node + 1 := wrap_sm (by omega) (by omega)
  unfold hdL
  generalize tbL S a bb c = L at *
  have g1 : (decide (node < 0) || decide (1 < node)) = false := by rw [Bool.or_eq_false_iff]; exact ⟨decide_eq_false (by omega), decide_eq_false (by omega)⟩
  have hh2 : ∀ (H : HL) (nx : Nat) (h2 : lookH H 2 = some (true, .own 46 2 L.length (lcells L))), FnH Tryz.prog 86 [.c (.nm 2), .c (iT (IntKind.i64.wrap (node + 1)))] H nx ⟨.t (.c (.nm nx)), [(true, .own 3 1 (held L (node + 1) L.length).length (ivs (held L (node + 1) L.length)))], [], []⟩ := fun H nx h2 => by rw [w1]; exact rheld_h L (node + 1) (by omega) (SlR.own h2)
  refine rn [(13, .spec ⟨.tup [.c (.nm 2), .c (iT 0)], [(true, .own 46 2 L.length (lcells L))], [(0, some (.ab (rdP S W last b)))], []⟩), (17, .dec false), (24, .dec false), (28, .spec ⟨.t (.c (.nm 3)), [(true, .own 3 1 (held L (node + 1) L.length).length (ivs (held L (node + 1) L.length)))], [], []⟩)] rfl (by (repeat' (first | exact trivial | exact rfl | exact trivial | exact fun _ => trivial | first | exact ht _ _ rfl | exact hh2 _ _ rfl | exact g1 | rfl | decide | refine And.intro ?_ ?_))) ?_
  exact retM tysOk [(0, 0), (1, 3)] rfl (by repeat' (first | exact trivial | exact rfl | refine And.intro ?_ ?_)) (by repeat' (first | exact trivial | exact rfl | refine And.intro ?_ ?_)) rfl rfl
set_option maxRecDepth 100000 in
set_option maxHeartbeats 4000000 in
theorem rlheldE (hd : lookH H d = some (true, .ab (rdP S W last b))) (hD : DOk N S W last) {node e : Int} (he : snE S a bb c node = e) (h0 : e ≠ 0) :
    FnH Tryz.prog 45 [.c (.nm d), geoT a bb c, .c (iT node)] H nx ⟨.tup [.c .nsl, .c (iT e)], [], [(d, some (.ab (rdP S W last b)))], []⟩ := by
  refine fnAs (fn := Tryz.f45) 29 rfl rfl rfl (args' := [.c (.nm 0), geoT a bb c, .c (iT node)]) [(d, rdP S W last b, rdP S W last b)] [] ⟨⟨hd, ptr b, rd_pins _ _ _ _, rd_pins _ _ _ _⟩, trivial⟩ trivial (by simp) rfl rfl rfl rfl (v' := .tup [.c .nsl, .c (iT e)]) (news' := []) rfl rfl rfl rfl rfl fun w Wh => ?_
  show At _ _ _ _ _ _ [(0, some (true, .ab (rdP S W last b)))] 1
  by_cases ht0 : tbE S a bb c = 0
  · have ht := fun (H : HL) (nx : Nat) (h0' : lookH H 0 = some (true, .ab (rdP S W last b))) => rltabO (nx := nx) h0' hD ht0
    generalize tbL S a bb c = L at *
    rw [snE, if_neg (fun h => h ht0)] at he
    split at he
    · rename_i hn
      subst he
      have g1 : (decide (node < 0) || decide (1 < node)) = true := by
        rw [Bool.or_eq_true, decide_eq_true_eq, decide_eq_true_eq]
        omega
      refine rn [(13, .spec ⟨.tup [.c (.nm 2), .c (iT 0)], [(true, .own 46 2 L.length (lcells L))], [(0, some (.ab (rdP S W last b)))], []⟩), (17, .dec false), (24, .dec true)] rfl (by (repeat' (first | exact trivial | exact rfl | exact trivial | exact fun _ => trivial | first | exact ht _ _ rfl | exact g1 | rfl | decide | refine And.intro ?_ ?_))) ?_
      exact retM tysOk [(0, 0)] rfl (by repeat' (first | exact trivial | exact rfl | refine And.intro ?_ ?_)) (by repeat' (first | exact trivial | exact rfl | refine And.intro ?_ ?_)) rfl rfl
    · exact absurd he.symm h0
  · rw [snE, if_pos ht0] at he
    have ht := fun (H : HL) (nx : Nat) (h0' : lookH H 0 = some (true, .ab (rdP S W last b))) => rltabE (nx := nx) h0' hD he h0
    have g1 : (e != 0) = true := by simpa using h0
    refine rn [(13, .spec ⟨.tup [.c .nsl, .c (iT e)], [], [(0, some (.ab (rdP S W last b)))], []⟩), (17, .dec true)] rfl (by (repeat' (first | exact trivial | exact rfl | exact trivial | exact fun _ => trivial | first | exact ht _ _ rfl | exact g1 | rfl | decide | refine And.intro ?_ ?_))) ?_
    exact retM tysOk [(0, 0)] rfl (by repeat' (first | exact trivial | exact rfl | refine And.intro ?_ ?_)) (by repeat' (first | exact trivial | exact rfl | refine And.intro ?_ ?_)) rfl rfl
set_option maxRecDepth 100000 in
set_option maxHeartbeats 4000000 in
/-- A region's lease. -/
theorem rat_h (hd : lookH H d = some (true, .ab (rdP S W last b))) (hD : DOk N S W last) (node r : Int) :
    FnH Tryz.prog 83 [.c (.nm d), geoT a bb c, .c (iT node), .c (iT r)] H nx ⟨.tup [lT (lsX S a bb c node r), .c (iT (rgE S a bb c node r))], [], [(d, some (.ab (rdP S W last b)))], []⟩ := by
  refine fnAs (fn := Tryz.f83) 44 rfl rfl rfl (args' := [.c (.nm 0), geoT a bb c, .c (iT node), .c (iT r)]) [(d, rdP S W last b, rdP S W last b)] [] ⟨⟨hd, ptr b, rd_pins _ _ _ _, rd_pins _ _ _ _⟩, trivial⟩ trivial (by simp) rfl rfl rfl rfl (v' := .tup [lT (lsX S a bb c node r), .c (iT (rgE S a bb c node r))]) (news' := []) rfl rfl rfl rfl rfl fun w Wh => ?_
  show At _ _ _ _ _ _ [(0, some (true, .ab (rdP S W last b)))] 1
  by_cases hs : snE S a bb c node = 0
  · have ht := fun (H : HL) (nx : Nat) (h0' : lookH H 0 = some (true, .ab (rdP S W last b))) => rltabO (nx := nx) h0' hD (snE_ok hs).1
    have hh := fun (H : HL) (nx : Nat) (h0' : lookH H 0 = some (true, .ab (rdP S W last b))) => rlheldO (nx := nx) h0' hD hs
    have hre := rregions0 a bb c
    rw [show gregions a bb c = ((tbL S a bb c).length : Nat) from by rw [tbL_len]; exact regions_nat a bb c] at hre
    generalize hdL S a bb c (node + 1) = out at *
    by_cases hr : r < 0 ∨ ((tbL S a bb c).length : Int) ≤ r
    · have e1 : rgE S a bb c node r = 1 := by rw [rgE, if_neg (fun h => h hs), if_pos hr]
      have e2 : lsX S a bb c node r = (0, 0) := by rw [lsX, e1]; rfl
      rw [e1, e2]
      generalize tbL S a bb c = L at *
      by_cases hr0 : r < 0
      · have g1 : decide (r < 0) = true := decide_eq_true hr0
        refine rn [(18, .spec ⟨.tup [.c (.nm 3), .c (iT 0)], [(true, .own 3 1 out.length (ivs out))], [(0, some (.ab (rdP S W last b)))], []⟩), (22, .dec false), (27, .dec true), (32, .dec true)] rfl (by (repeat' (first | exact trivial | exact rfl | exact trivial | exact fun _ => trivial | first | exact hh _ _ rfl | exact g1 | rfl | decide | refine And.intro ?_ ?_))) ?_
        exact retM tysOk [(0, 0)] rfl (by repeat' (first | exact trivial | exact rfl | refine And.intro ?_ ?_)) (by repeat' (first | exact trivial | exact rfl | refine And.intro ?_ ?_)) rfl rfl
      · have g1 : decide (r < 0) = false := decide_eq_false hr0
        have g2 : decide ((L.length : Int) ≤ r) = true := decide_eq_true (by omega)
        refine rn [(18, .spec ⟨.tup [.c (.nm 3), .c (iT 0)], [(true, .own 3 1 out.length (ivs out))], [(0, some (.ab (rdP S W last b)))], []⟩), (22, .dec false), (27, .dec false), (30, .ret (.t (.c (iT (L.length : Nat))))), (32, .dec true)] rfl (by (repeat' (first | exact trivial | exact rfl | exact trivial | exact fun _ => trivial | first | exact hh _ _ rfl | exact g1 | exact g2 | exact hre | rfl | decide | refine And.intro ?_ ?_))) ?_
        exact retM tysOk [(0, 0)] rfl (by repeat' (first | exact trivial | exact rfl | refine And.intro ?_ ?_)) (by repeat' (first | exact trivial | exact rfl | refine And.intro ?_ ?_)) rfl rfl
    · have e1 : rgE S a bb c node r = 0 := by rw [rgE, if_neg (fun h => h hs), if_neg hr]
      have hlt : r.toNat < (tbL S a bb c).length := by omega
      have e2 : lsX S a bb c node r = (tbL S a bb c)[r.toNat] := by rw [lsX, if_pos e1, List.getD_eq_getElem?_getD, List.getElem?_eq_getElem hlt]; rfl
      rw [e1, e2]
      generalize tbL S a bb c = L at *
      have g1 : decide (r < 0) = false := decide_eq_false (by omega)
      have g2 : decide ((L.length : Int) ≤ r) = false := decide_eq_false (by omega)
      have r1 := lcells_get L r.toNat hlt
      have b0 : (0 : Int) ≤ r := by omega
      have b1 : r < (L.length : Int) := by omega
      have c5 : r.toNat * 2 < (lcells L).length := by rw [lcells_length]; omega
      refine rn [(18, .spec ⟨.tup [.c (.nm 3), .c (iT 0)], [(true, .own 3 1 out.length (ivs out))], [(0, some (.ab (rdP S W last b)))], []⟩), (22, .dec false), (27, .dec false), (30, .ret (.t (.c (iT (L.length : Nat))))), (32, .dec false), (37, .spec ⟨.tup [.c (.nm 4), .c (iT 0)], [(true, .own 46 2 L.length (lcells L))], [(0, some (.ab (rdP S W last b)))], []⟩), (43, .ld [iT L[r.toNat].1, iT L[r.toNat].2])] rfl (by (repeat' (first | exact trivial | exact rfl | exact trivial | exact fun _ => trivial | first | exact hh _ _ rfl | exact ht _ _ rfl | exact g1 | exact g2 | exact hre | exact ⟨r1.1, r1.2, trivial⟩ | exact b0 | exact b1 | exact c5 | rfl | decide | refine And.intro ?_ ?_))) ?_
      exact retM tysOk [(0, 0)] rfl (by repeat' (first | exact trivial | exact rfl | refine And.intro ?_ ?_)) (by repeat' (first | exact trivial | exact rfl | refine And.intro ?_ ?_)) rfl rfl
  · have e1 : rgE S a bb c node r = snE S a bb c node := if_pos hs
    have e2 : lsX S a bb c node r = (0, 0) := by rw [lsX, e1, if_neg hs]
    have ht := fun (H : HL) (nx : Nat) (h0' : lookH H 0 = some (true, .ab (rdP S W last b))) => rlheldE (nx := nx) h0' hD rfl hs
    rw [e1, e2]
    generalize snE S a bb c node = e at *
    have g1 : (e != 0) = true := by simpa using hs
    refine rn [(18, .spec ⟨.tup [.c .nsl, .c (iT e)], [], [(0, some (.ab (rdP S W last b)))], []⟩), (22, .dec true)] rfl (by (repeat' (first | exact trivial | exact rfl | exact trivial | exact fun _ => trivial | first | exact ht _ _ rfl | exact g1 | rfl | decide | refine And.intro ?_ ?_))) ?_
    exact retM tysOk [(0, 0)] rfl (by repeat' (first | exact trivial | exact rfl | refine And.intro ?_ ?_)) (by repeat' (first | exact trivial | exact rfl | refine And.intro ?_ ?_)) rfl rfl
end
end Cw
namespace Cw
open Go Vc
open Go.Proofs
set_option maxRecDepth 100000
section
variable {H : HL} {nx d b N n : Nat} {S : List ByteArray} {W : List (Int × Wr)} {last a bb c : Int}
set_option maxRecDepth 100000 in
set_option maxHeartbeats 8000000 in
theorem rturn_h (hd : lookH H d = some (true, .ab (rdP S W last b))) (hD : DOk N S W last) (node ep r : Int) (x : Ls) (o : Int) (k1 : tpe a bb c r x.1 x.2 = 0) (k2 : gve x o = 0 → tpe a bb c r (gvx x o).1 (gvx x o).2 = 0) :
    FnH Tryz.prog 84 [.c (.nm d), geoT a bb c, .c (iT node), .c (iT ep), .c (iT r), lT x, .c (iT o)] H nx ⟨.t (.c (iT (tnE S a bb c node ep r x o))), [], [(d, some (.ab (rdP (tnS S a bb c node ep r x o) W last b)))], []⟩ := by
  refine fnAs (fn := Tryz.f84) 59 rfl rfl rfl (args' := [.c (.nm 0), geoT a bb c, .c (iT node), .c (iT ep), .c (iT r), lT x, .c (iT o)]) [(d, rdP S W last b, rdP (tnS S a bb c node ep r x o) W last b)] [] ⟨⟨hd, ptr b, rd_pins _ _ _ _, rd_pins _ _ _ _⟩, trivial⟩ trivial (by simp) rfl rfl rfl rfl (v' := .t (.c (iT (tnE S a bb c node ep r x o)))) (news' := []) rfl rfl rfl rfl rfl fun w Wh => ?_
  show At _ _ _ _ _ _ [(0, some (true, .ab (rdP S W last b)))] 1
  have hg := rgive0 x o
  have hp := rput08 a bb c r x
  have hq := rput08 a bb c r (gvx x o)
  have z1 := tpp_size a bb c r x.1 x.2
  have z2 := tpp_size a bb c r (gvx x o).1 (gvx x o).2
  have h2S : 2 ≤ S.length := by have := hD.two; have := hD.len; omega
  have hsw := fun (H : HL) (nx : Nat) (h0 : lookH H 0 = some (true, .ab (rdP S W last b))) => rswapA (nx := nx) h0 h2S hD.sz node ep (tps a bb c r x.1 x.2) (tpp a bb c r x.1 x.2) (tpp a bb c r (gvx x o).1 (gvx x o).2) z1 z2
  unfold tnE tnS
  rw [k1] at hp ⊢
  by_cases h0 : gve x o = 0
  · have k3 := k2 h0
    rw [k3] at hq ⊢
    rw [h0] at hg ⊢
    generalize gvx x o = y at *
    generalize tps a bb c r x.1 x.2 = s1 at *
    generalize tps a bb c r y.1 y.2 = s2 at *
    generalize tpp a bb c r x.1 x.2 = p1 at *
    generalize tpp a bb c r y.1 y.2 = p2 at *
    simp only [ne_eq, not_true_eq_false, if_false]
    refine rn [(26, .ret (.tup [lT y, .c (iT 0)])), (30, .dec false), (36, .ret (.tup [.c (iT s1), ptT p1, .c (iT 0)])), (44, .ret (.tup [.c (iT s2), ptT p2, .c (iT 0)])), (55, .spec ⟨.tup [.c (.b (swB S node ep s1 p1 p2)), .c (iT (swE S node ep s1 p1 p2))], [], [(0, some (.ab (rdP (swS S node ep s1 p1 p2) W last b)))], []⟩)] rfl (by (repeat' (first | exact trivial | exact rfl | exact trivial | exact fun _ => trivial | first | exact hg | exact hp | exact hq | exact hsw _ _ rfl | rfl | decide | refine And.intro ?_ ?_))) ?_
    exact retM tysOk [(0, 0)] rfl (by repeat' (first | exact trivial | exact rfl | refine And.intro ?_ ?_)) (by repeat' (first | exact trivial | exact rfl | refine And.intro ?_ ?_)) rfl rfl
  · simp only [ne_eq, h0, not_false_eq_true, if_true]
    generalize gve x o = ge at *
    generalize gvx x o = y at *
    refine rn [(26, .ret (.tup [lT y, .c (iT ge)])), (30, .dec true)] rfl (by (repeat' (first | exact trivial | exact rfl | exact trivial | exact fun _ => trivial | first | exact hg | exact ne_b h0 | rfl | decide | refine And.intro ?_ ?_))) ?_
    exact retM tysOk [(0, 0)] rfl (by repeat' (first | exact trivial | exact rfl | refine And.intro ?_ ?_)) (by repeat' (first | exact trivial | exact rfl | refine And.intro ?_ ?_)) rfl rfl
set_option maxRecDepth 100000 in
set_option maxHeartbeats 4000000 in
theorem rclaim_h (hd : lookH H d = some (true, .ab (rdP S W last b))) (hD : DOk N S W last) (node ep r : Int) :
    FnH Tryz.prog 41 [.c (.nm d), geoT a bb c, .c (iT node), .c (iT ep), .c (iT r)] H nx ⟨.t (.c (iT (clE S a bb c node ep r))), [], [(d, some (.ab (rdP (clS S a bb c node ep r) W last b)))], []⟩ := by
  refine fnAs (fn := Tryz.f41) 43 rfl rfl rfl (args' := [.c (.nm 0), geoT a bb c, .c (iT node), .c (iT ep), .c (iT r)]) [(d, rdP S W last b, rdP (clS S a bb c node ep r) W last b)] [] ⟨⟨hd, ptr b, rd_pins _ _ _ _, rd_pins _ _ _ _⟩, trivial⟩ trivial (by simp) rfl rfl rfl rfl (v' := .t (.c (iT (clE S a bb c node ep r)))) (news' := []) rfl rfl rfl rfl rfl fun w Wh => ?_
  show At _ _ _ _ _ _ [(0, some (true, .ab (rdP S W last b)))] 1
  have ha := fun (H : HL) (nx : Nat) (h0 : lookH H 0 = some (true, .ab (rdP S W last b))) => rat_h (nx := nx) (a := a) (bb := bb) (c := c) h0 hD node r
  unfold clE clS
  by_cases he : rgE S a bb c node r = 0
  · obtain ⟨k, rfl, hk, hx, hG, n0, n2⟩ := ls_ok he
    have htok : tok (lsX S a bb c node (k : Nat)).1 (lsX S a bb c node (k : Nat)).2 = true := by rw [hx]; exact List.all_eq_true.1 hG.tk _ (List.getElem_mem hk)
    have w1 : IntKind.i64.wrap (node + 1) = node + 1 := wrap_sm (by omega) (by omega)
    have htn : ∀ (H : HL) (nx : Nat) (h0 : lookH H 0 = some (true, .ab (rdP S W last b))), FnH Tryz.prog 84 [.c (.nm 0), geoT a bb c, .c (iT node), .c (iT ep), .c (iT (k : Nat)), lT (lsX S a bb c node (k : Nat)), .c (iT (IntKind.i64.wrap (node + 1)))] H nx ⟨.t (.c (iT (tnE S a bb c node ep (k : Nat) (lsX S a bb c node (k : Nat)) (node + 1)))), [], [(0, some (.ab (rdP (tnS S a bb c node ep (k : Nat) (lsX S a bb c node (k : Nat)) (node + 1)) W last b)))], []⟩ := fun H nx h0 => by
      rw [w1]
      exact rturn_h h0 hD node ep (k : Nat) _ (node + 1) (hG.put hk htok) (fun h => hG.give hk h)
    have htb := tok_iff htok
    rw [he] at ha
    generalize lsX S a bb c node (k : Nat) = x at *
    simp only [ne_eq, he, not_true_eq_false, if_false]
    by_cases h1 : x.1 = node + 1
    · have g1 : (x.1 == IntKind.i64.wrap (node + 1)) = true := by rw [w1, h1]; simp
      simp only [h1, if_true]
      refine rn [(18, .spec ⟨.tup [lT x, .c (iT 0)], [], [(0, some (.ab (rdP S W last b)))], []⟩), (23, .dec false), (29, .dec true)] rfl (by (repeat' (first | exact trivial | exact rfl | exact trivial | exact fun _ => trivial | first | exact ha _ _ rfl | exact g1 | rfl | decide | refine And.intro ?_ ?_))) ?_
      exact retM tysOk [(0, 0)] rfl (by repeat' (first | exact trivial | exact rfl | refine And.intro ?_ ?_)) (by repeat' (first | exact trivial | exact rfl | refine And.intro ?_ ?_)) rfl rfl
    · have g1 : (x.1 == IntKind.i64.wrap (node + 1)) = false := by rw [w1]; simpa using h1
      simp only [h1, if_false]
      by_cases h2 : 0 < x.1
      · have g2 : (x.1 != 0) = true := by simp; omega
        simp only [h2, if_true]
        refine rn [(18, .spec ⟨.tup [lT x, .c (iT 0)], [], [(0, some (.ab (rdP S W last b)))], []⟩), (23, .dec false), (29, .dec false), (33, .dec true)] rfl (by (repeat' (first | exact trivial | exact rfl | exact trivial | exact fun _ => trivial | first | exact ha _ _ rfl | exact g1 | exact g2 | rfl | decide | refine And.intro ?_ ?_))) ?_
        exact retM tysOk [(0, 0)] rfl (by repeat' (first | exact trivial | exact rfl | refine And.intro ?_ ?_)) (by repeat' (first | exact trivial | exact rfl | refine And.intro ?_ ?_)) rfl rfl
      · have g2 : (x.1 != 0) = false := by simp; omega
        simp only [h2, if_false]
        generalize tnE S a bb c node ep (k : Nat) x (node + 1) = te at *
        generalize tnS S a bb c node ep (k : Nat) x (node + 1) = tS at *
        refine rn [(18, .spec ⟨.tup [lT x, .c (iT 0)], [], [(0, some (.ab (rdP S W last b)))], []⟩), (23, .dec false), (29, .dec false), (33, .dec false), (42, .spec ⟨.t (.c (iT te)), [], [(0, some (.ab (rdP tS W last b)))], []⟩)] rfl (by (repeat' (first | exact trivial | exact rfl | exact trivial | exact fun _ => trivial | first | exact ha _ _ rfl | exact htn _ _ rfl | exact g1 | exact g2 | rfl | decide | refine And.intro ?_ ?_))) ?_
        exact retM tysOk [(0, 0)] rfl (by repeat' (first | exact trivial | exact rfl | refine And.intro ?_ ?_)) (by repeat' (first | exact trivial | exact rfl | refine And.intro ?_ ?_)) rfl rfl
  · simp only [ne_eq, he, not_false_eq_true, if_true]
    generalize rgE S a bb c node r = e at *
    generalize lsX S a bb c node r = x at *
    refine rn [(18, .spec ⟨.tup [lT x, .c (iT e)], [], [(0, some (.ab (rdP S W last b)))], []⟩), (23, .dec true), (29, .dec true)] rfl (by (repeat' (first | exact trivial | exact rfl | exact trivial | exact fun _ => trivial | first | exact ha _ _ rfl | exact ne_b he | rfl | decide | refine And.intro ?_ ?_))) ?_
    exact retM tysOk [(0, 0)] rfl (by repeat' (first | exact trivial | exact rfl | refine And.intro ?_ ?_)) (by repeat' (first | exact trivial | exact rfl | refine And.intro ?_ ?_)) rfl rfl
set_option maxRecDepth 100000 in
set_option maxHeartbeats 4000000 in
theorem rpass_h (hd : lookH H d = some (true, .ab (rdP S W last b))) (hD : DOk N S W last) (node ep r : Int) :
    FnH Tryz.prog 42 [.c (.nm d), geoT a bb c, .c (iT node), .c (iT ep), .c (iT r)] H nx ⟨.t (.c (iT (awE S a bb c node ep r (oth node)))), [], [(d, some (.ab (rdP (awS S a bb c node ep r (oth node)) W last b)))], []⟩ := by
  refine fnAs (fn := Tryz.f42) 38 rfl rfl rfl (args' := [.c (.nm 0), geoT a bb c, .c (iT node), .c (iT ep), .c (iT r)]) [(d, rdP S W last b, rdP (awS S a bb c node ep r (oth node)) W last b)] [] ⟨⟨hd, ptr b, rd_pins _ _ _ _, rd_pins _ _ _ _⟩, trivial⟩ trivial (by simp) rfl rfl rfl rfl (v' := .t (.c (iT (awE S a bb c node ep r (oth node))))) (news' := []) rfl rfl rfl rfl rfl fun w Wh => ?_
  show At _ _ _ _ _ _ [(0, some (true, .ab (rdP S W last b)))] 1
  have ha := fun (H : HL) (nx : Nat) (h0 : lookH H 0 = some (true, .ab (rdP S W last b))) => rat_h (nx := nx) (a := a) (bb := bb) (c := c) h0 hD node r
  unfold awE awS
  by_cases he : rgE S a bb c node r = 0
  · obtain ⟨k, rfl, hk, hx, hG, n0, n2⟩ := ls_ok he
    have htok : tok (lsX S a bb c node (k : Nat)).1 (lsX S a bb c node (k : Nat)).2 = true := by rw [hx]; exact List.all_eq_true.1 hG.tk _ (List.getElem_mem hk)
    have w1 : IntKind.i64.wrap (node + 1) = node + 1 := wrap_sm (by omega) (by omega)
    have w2 : IntKind.i64.wrap (2 - node) = oth node := by rw [oth_ok ⟨n0, n2⟩, wrap_sm (by omega) (by omega)]
    have htn : ∀ (H : HL) (nx : Nat) (h0 : lookH H 0 = some (true, .ab (rdP S W last b))), FnH Tryz.prog 84 [.c (.nm 0), geoT a bb c, .c (iT node), .c (iT ep), .c (iT (k : Nat)), lT (lsX S a bb c node (k : Nat)), .c (iT (IntKind.i64.wrap (2 - node)))] H nx ⟨.t (.c (iT (tnE S a bb c node ep (k : Nat) (lsX S a bb c node (k : Nat)) (oth node)))), [], [(0, some (.ab (rdP (tnS S a bb c node ep (k : Nat) (lsX S a bb c node (k : Nat)) (oth node)) W last b)))], []⟩ := fun H nx h0 => by
      rw [w2]
      exact rturn_h h0 hD node ep (k : Nat) _ (oth node) (hG.put hk htok) (fun h => hG.give hk h)
    rw [he] at ha
    generalize lsX S a bb c node (k : Nat) = x at *
    simp only [ne_eq, he, not_true_eq_false, if_false]
    by_cases h1 : x.1 = node + 1
    · have g1 : (x.1 != IntKind.i64.wrap (node + 1)) = false := by rw [w1, h1]; simp
      simp only [h1, not_true_eq_false, if_false]
      generalize tnE S a bb c node ep (k : Nat) x (oth node) = te at *
      generalize tnS S a bb c node ep (k : Nat) x (oth node) = tS at *
      refine rn [(18, .spec ⟨.tup [lT x, .c (iT 0)], [], [(0, some (.ab (rdP S W last b)))], []⟩), (22, .dec false), (28, .dec false), (37, .spec ⟨.t (.c (iT te)), [], [(0, some (.ab (rdP tS W last b)))], []⟩)] rfl (by (repeat' (first | exact trivial | exact rfl | exact trivial | exact fun _ => trivial | first | exact ha _ _ rfl | exact htn _ _ rfl | exact g1 | rfl | decide | refine And.intro ?_ ?_))) ?_
      exact retM tysOk [(0, 0)] rfl (by repeat' (first | exact trivial | exact rfl | refine And.intro ?_ ?_)) (by repeat' (first | exact trivial | exact rfl | refine And.intro ?_ ?_)) rfl rfl
    · have g1 : (x.1 != IntKind.i64.wrap (node + 1)) = true := by rw [w1]; simpa using h1
      simp only [h1, not_false_eq_true, if_true]
      refine rn [(18, .spec ⟨.tup [lT x, .c (iT 0)], [], [(0, some (.ab (rdP S W last b)))], []⟩), (22, .dec false), (28, .dec true)] rfl (by (repeat' (first | exact trivial | exact rfl | exact trivial | exact fun _ => trivial | first | exact ha _ _ rfl | exact g1 | rfl | decide | refine And.intro ?_ ?_))) ?_
      exact retM tysOk [(0, 0)] rfl (by repeat' (first | exact trivial | exact rfl | refine And.intro ?_ ?_)) (by repeat' (first | exact trivial | exact rfl | refine And.intro ?_ ?_)) rfl rfl
  · simp only [ne_eq, he, not_false_eq_true, if_true]
    generalize rgE S a bb c node r = e at *
    generalize lsX S a bb c node r = x at *
    refine rn [(18, .spec ⟨.tup [lT x, .c (iT e)], [], [(0, some (.ab (rdP S W last b)))], []⟩), (22, .dec true)] rfl (by (repeat' (first | exact trivial | exact rfl | exact trivial | exact fun _ => trivial | first | exact ha _ _ rfl | exact ne_b he | rfl | decide | refine And.intro ?_ ?_))) ?_
    exact retM tysOk [(0, 0)] rfl (by repeat' (first | exact trivial | exact rfl | refine And.intro ?_ ?_)) (by repeat' (first | exact trivial | exact rfl | refine And.intro ?_ ?_)) rfl rfl
set_option maxRecDepth 100000 in
set_option maxHeartbeats 4000000 in
theorem rfree_h (hd : lookH H d = some (true, .ab (rdP S W last b))) (hD : DOk N S W last) (node ep r : Int) :
    FnH Tryz.prog 46 [.c (.nm d), geoT a bb c, .c (iT node), .c (iT ep), .c (iT r)] H nx ⟨.t (.c (iT (awE S a bb c node ep r 0))), [], [(d, some (.ab (rdP (awS S a bb c node ep r 0) W last b)))], []⟩ := by
  refine fnAs (fn := Tryz.f46) 36 rfl rfl rfl (args' := [.c (.nm 0), geoT a bb c, .c (iT node), .c (iT ep), .c (iT r)]) [(d, rdP S W last b, rdP (awS S a bb c node ep r 0) W last b)] [] ⟨⟨hd, ptr b, rd_pins _ _ _ _, rd_pins _ _ _ _⟩, trivial⟩ trivial (by simp) rfl rfl rfl rfl (v' := .t (.c (iT (awE S a bb c node ep r 0)))) (news' := []) rfl rfl rfl rfl rfl fun w Wh => ?_
  show At _ _ _ _ _ _ [(0, some (true, .ab (rdP S W last b)))] 1
  have ha := fun (H : HL) (nx : Nat) (h0 : lookH H 0 = some (true, .ab (rdP S W last b))) => rat_h (nx := nx) (a := a) (bb := bb) (c := c) h0 hD node r
  unfold awE awS
  by_cases he : rgE S a bb c node r = 0
  · obtain ⟨k, rfl, hk, hx, hG, n0, n2⟩ := ls_ok he
    have htok : tok (lsX S a bb c node (k : Nat)).1 (lsX S a bb c node (k : Nat)).2 = true := by rw [hx]; exact List.all_eq_true.1 hG.tk _ (List.getElem_mem hk)
    have w1 : IntKind.i64.wrap (node + 1) = node + 1 := wrap_sm (by omega) (by omega)
    have htn : ∀ (H : HL) (nx : Nat) (h0 : lookH H 0 = some (true, .ab (rdP S W last b))), FnH Tryz.prog 84 [.c (.nm 0), geoT a bb c, .c (iT node), .c (iT ep), .c (iT (k : Nat)), lT (lsX S a bb c node (k : Nat)), .c (iT 0)] H nx ⟨.t (.c (iT (tnE S a bb c node ep (k : Nat) (lsX S a bb c node (k : Nat)) 0))), [], [(0, some (.ab (rdP (tnS S a bb c node ep (k : Nat) (lsX S a bb c node (k : Nat)) 0) W last b)))], []⟩ := fun H nx h0 =>
      rturn_h h0 hD node ep (k : Nat) _ 0 (hG.put hk htok) (fun h => hG.give hk h)
    rw [he] at ha
    generalize lsX S a bb c node (k : Nat) = x at *
    simp only [ne_eq, he, not_true_eq_false, if_false]
    by_cases h1 : x.1 = node + 1
    · have g1 : (x.1 != IntKind.i64.wrap (node + 1)) = false := by rw [w1, h1]; simp
      simp only [h1, not_true_eq_false, if_false]
      generalize tnE S a bb c node ep (k : Nat) x 0 = te at *
      generalize tnS S a bb c node ep (k : Nat) x 0 = tS at *
      refine rn [(18, .spec ⟨.tup [lT x, .c (iT 0)], [], [(0, some (.ab (rdP S W last b)))], []⟩), (22, .dec false), (28, .dec false), (35, .spec ⟨.t (.c (iT te)), [], [(0, some (.ab (rdP tS W last b)))], []⟩)] rfl (by (repeat' (first | exact trivial | exact rfl | exact trivial | exact fun _ => trivial | first | exact ha _ _ rfl | exact htn _ _ rfl | exact g1 | rfl | decide | refine And.intro ?_ ?_))) ?_
      exact retM tysOk [(0, 0)] rfl (by repeat' (first | exact trivial | exact rfl | refine And.intro ?_ ?_)) (by repeat' (first | exact trivial | exact rfl | refine And.intro ?_ ?_)) rfl rfl
    · have g1 : (x.1 != IntKind.i64.wrap (node + 1)) = true := by rw [w1]; simpa using h1
      simp only [h1, not_false_eq_true, if_true]
      refine rn [(18, .spec ⟨.tup [lT x, .c (iT 0)], [], [(0, some (.ab (rdP S W last b)))], []⟩), (22, .dec false), (28, .dec true)] rfl (by (repeat' (first | exact trivial | exact rfl | exact trivial | exact fun _ => trivial | first | exact ha _ _ rfl | exact g1 | rfl | decide | refine And.intro ?_ ?_))) ?_
      exact retM tysOk [(0, 0)] rfl (by repeat' (first | exact trivial | exact rfl | refine And.intro ?_ ?_)) (by repeat' (first | exact trivial | exact rfl | refine And.intro ?_ ?_)) rfl rfl
  · simp only [ne_eq, he, not_false_eq_true, if_true]
    generalize rgE S a bb c node r = e at *
    generalize lsX S a bb c node r = x at *
    refine rn [(18, .spec ⟨.tup [lT x, .c (iT e)], [], [(0, some (.ab (rdP S W last b)))], []⟩), (22, .dec true)] rfl (by (repeat' (first | exact trivial | exact rfl | exact trivial | exact fun _ => trivial | first | exact ha _ _ rfl | exact ne_b he | rfl | decide | refine And.intro ?_ ?_))) ?_
    exact retM tysOk [(0, 0)] rfl (by repeat' (first | exact trivial | exact rfl | refine And.intro ?_ ?_)) (by repeat' (first | exact trivial | exact rfl | refine And.intro ?_ ?_)) rfl rfl
end
end Cw
namespace Cw
open Go Vc
open Go.Proofs
set_option maxRecDepth 100000
/-- Seized one behind the other, each as it is then. -/
noncomputable def szQ (a bb c node ep : Int) : List Int → List ByteArray → Int × List ByteArray
  | [], S => (0, S)
  | r :: rs, S => if tnE S a bb c node ep r (lsX S a bb c node r) (node + 1) ≠ 0 then (tnE S a bb c node ep r (lsX S a bb c node r) (node + 1), tnS S a bb c node ep r (lsX S a bb c node r) (node + 1))
    else szQ a bb c node ep rs (tnS S a bb c node ep r (lsX S a bb c node r) (node + 1))
theorem TbG.sn {S : List ByteArray} {a bb c : Int} {L : List Ls} (h : TbG S a bb c L) {node : Int} (hn : 0 ≤ node ∧ node < 2) : snE S a bb c node = 0 := by
  rw [snE, h.e, if_neg (fun h => h rfl), if_neg (by omega)]
theorem TbG.rg {S : List ByteArray} {a bb c : Int} {L : List Ls} (h : TbG S a bb c L) {node : Int} (hn : 0 ≤ node ∧ node < 2) {r : Nat} (hr : r < L.length) : rgE S a bb c node (r : Nat) = 0 ∧ lsX S a bb c node (r : Nat) = L[r] := by
  have e1 : rgE S a bb c node (r : Nat) = 0 := by rw [rgE, h.sn hn, if_neg (fun h => h rfl), h.l, if_neg (by omega)]
  refine ⟨e1, ?_⟩
  rw [lsX, if_pos e1, h.l, Int.toNat_natCast, List.getD_eq_getElem?_getD, List.getElem?_eq_getElem hr]
  rfl
/-- The list's leases are those of the table all along. -/
theorem szQ_eq {a bb c node ep : Int} (hn : 0 ≤ node ∧ node < 2) {L : List Ls} {N : Nat} {W : List (Int × Wr)} {last : Int} : ∀ (rs : List Int) (S : List ByteArray) (M : List Ls), TbG S a bb c M → DOk N S W last → M.length = L.length → (∀ r ∈ rs, 0 ≤ r ∧ r < (L.length : Int)) → rs.Nodup → (∀ r ∈ rs, M[r.toNat]? = L[r.toNat]?) →
    szQ a bb c node ep rs S = szR a bb c node ep L rs S
  | [], S, M, _, _, _, _, _, _ => rfl
  | r :: rs, S, M, h, hD, hl, hr, hnd, hm => by
    obtain ⟨r0, r1⟩ := hr r (by simp)
    obtain ⟨k, rfl⟩ := Int.eq_ofNat_of_zero_le r0
    have hk : k < M.length := by omega
    have hkL : k < L.length := by omega
    obtain ⟨_, hx⟩ := h.rg hn hk
    have hmk := hm (k : Int) (by simp)
    rw [Int.toNat_natCast, List.getElem?_eq_getElem hk, List.getElem?_eq_getElem hkL] at hmk
    have hML : M[k] = L[k] := Option.some.inj hmk
    have hgd : L.getD ((k : Nat) : Int).toNat (0, 0) = M[k] := by
      rw [Int.toNat_natCast, List.getD_eq_getElem?_getD, List.getElem?_eq_getElem hkL, hML]
      rfl
    rw [szQ, szR, hx, hgd]
    by_cases he : tnE S a bb c node ep (k : Nat) M[k] (node + 1) = 0
    · simp only [ne_eq, he, not_true_eq_false, if_false]
      obtain ⟨n1, n2⟩ := List.nodup_cons.1 hnd
      refine szQ_eq hn rs _ _ (h.tn hD hk he) (hD.tn ..) (by rw [List.length_set]; exact hl) (fun x hx => hr x (by simp [hx])) n2 fun x hx => ?_
      have hx0 := hr x (by simp [hx])
      have hne : k ≠ x.toNat := fun e => n1 (by rw [e, Int.toNat_of_nonneg hx0.1]; exact hx)
      rw [List.getElem?_set, if_neg hne]
      exact hm x (by simp [hx])
    · simp only [ne_eq, he, not_false_eq_true, if_true]
section
variable {H : HL} {nx d b N n : Nat} {S : List ByteArray} {W : List (Int × Wr)} {last a bb c : Int}
set_option maxRecDepth 100000 in
set_option maxHeartbeats 8000000 in
theorem rseizeO (hd : lookH H d = some (true, .ab (rdP S W last b))) (hD : DOk N S W last) (node ep : Int) (he : snE S a bb c node = 0) {S' : List ByteArray} (hs : szR a bb c node ep (tbL S a bb c) (hdL S a bb c (2 - node)) S = (0, S')) :
    FnH Tryz.prog 43 [.c (.nm d), geoT a bb c, .c (iT node), .c (iT ep)] H nx ⟨.tup [.c (.nm nx), .c (iT 0)], [(true, .own 3 1 (hdL S a bb c (2 - node)).length (ivs (hdL S a bb c (2 - node))))], [(d, some (.ab (rdP S' W last b)))], []⟩ := by
  obtain ⟨ht0, n0, n2⟩ := snE_ok he
  have hG := TbG.of ht0
  have hsz := szQ_eq (ep := ep) ⟨n0, n2⟩ (L := tbL S a bb c) (hdL S a bb c (2 - node)) S (tbL S a bb c) hG hD rfl (fun r hr => held_in hr) (held_nodup _ _ _) (fun _ _ => rfl)
  rw [← hsz] at hs
  clear hsz
  have hin : ∀ x ∈ hdL S a bb c (2 - node), 0 ≤ x ∧ x < ((tbL S a bb c).length : Int) := fun x hx => held_in hx
  have hLn : (tbL S a bb c).length = (gregions a bb c).toNat := tbL_len _ _ _ _
  rw [hLn] at hin
  refine fnAs (fn := Tryz.f43) 69 rfl rfl rfl (args' := [.c (.nm 0), geoT a bb c, .c (iT node), .c (iT ep)]) [(d, rdP S W last b, rdP S' W last b)] [] ⟨⟨hd, ptr b, rd_pins _ _ _ _, rd_pins _ _ _ _⟩, trivial⟩ trivial (by simp) rfl rfl rfl rfl (v' := .tup [.c (.nm 1), .c (iT 0)]) (news' := [(true, .own 3 1 (hdL S a bb c (2 - node)).length (ivs (hdL S a bb c (2 - node))))]) rfl rfl rfl rfl rfl fun w Wh => ?_
  show At _ _ _ _ _ _ [(0, some (true, .ab (rdP S W last b)))] 1
  have w1 : IntKind.i64.wrap (node + 1) = node + 1 := wrap_sm (by omega) (by omega)
  have w2 : IntKind.i64.wrap (1 - node) = 1 - node := wrap_sm (by omega) (by omega)
  have hh := fun (H : HL) (nx : Nat) (h0' : lookH H 0 = some (true, .ab (rdP S W last b))) => rlheldO (nx := nx) h0' hD he
  have hh2 : ∀ (H : HL) (nx : Nat) (h0' : lookH H 0 = some (true, .ab (rdP S W last b))), FnH Tryz.prog 45 [.c (.nm 0), geoT a bb c, .c (iT (IntKind.i64.wrap (1 - node)))] H nx ⟨.tup [.c (.nm nx), .c (iT 0)], [(true, .own 3 1 (hdL S a bb c (2 - node)).length (ivs (hdL S a bb c (2 - node))))], [(0, some (.ab (rdP S W last b)))], []⟩ := by
    intro H nx h0'
    rw [w2]
    have := rlheldO (nx := nx) h0' hD (hG.sn (node := 1 - node) (by omega))
    rw [show 1 - node + 1 = 2 - node by omega] at this
    exact this
  generalize hdL S a bb c (node + 1) = mine at *
  have hol : (hdL S a bb c (2 - node)).length ≤ 132 := by
    have h1 := held_le (tbL S a bb c) (2 - node) (tbL S a bb c).length
    have h2 := tbL_le S a bb c
    have h3 : (hdL S a bb c (2 - node)).length = (held (tbL S a bb c) (2 - node) (tbL S a bb c).length).length := rfl
    omega
  generalize hdL S a bb c (2 - node) = out at *
  refine rn [(22, .spec ⟨.tup [.c (.nm 2), .c (iT 0)], [(true, .own 3 1 mine.length (ivs mine))], [(0, some (.ab (rdP S W last b)))], []⟩), (26, .dec false), (33, .spec ⟨.tup [.c (.nm 3), .c (iT 0)], [(true, .own 3 1 out.length (ivs out))], [(0, some (.ab (rdP S W last b)))], []⟩)] rfl (by (repeat' (first | exact trivial | exact rfl | exact trivial | exact fun _ => trivial | first | exact hh _ _ rfl | exact hh2 _ _ rfl | rfl | decide | refine And.intro ?_ ?_))) ?_
  refine At.loop (X := (k : Nat) ×' (T : List ByteArray) ×' (DOk N T W last ∧ (∃ M, TbG T a bb c M ∧ M.length = (gregions a bb c).toNat) ∧ szQ a bb c node ep (out.drop k) T = (0, S') ∧ k ≤ out.length)) 4 (fun x => out.length - x.1)
    (fun x => [(0, .t (.c (.nm 0))), (2, .t (.c (iT node))), (3, .t (.c (iT ep))), (5, .t (.c (.p 1 0))), (12, .t (.c (.nm 3))), (14, .t (.c (iT (x.1 : Nat))))])
    (fun x => [(0, some (true, .ab (rdP x.2.1 W last b))), (1, some (true, .cells [iT a, iT bb, iT c] 23)), (3, some (true, .own 3 1 out.length (ivs out)))]) ⟨0, S, hD, ⟨_, hG, hLn⟩, hs, by omega⟩ [] (fun x => wf rfl rfl) (by repeat' (first | exact trivial | exact rfl | refine And.intro ?_ ?_)) (by repeat' (first | exact trivial | exact rfl | refine And.intro ?_ ?_)) rfl fun x => ?_
  obtain ⟨k, T, hT, ⟨M, hM, hMl⟩, hz, hk⟩ := x
  have w3 : IntKind.i64.wrap ((k : Int) + 1) = ((k + 1 : Nat) : Int) := by rw [wrap_sm (by omega) (by omega)]; omega
  refine rn [] rfl (by repeat' (first | exact trivial | exact rfl | refine And.intro ?_ ?_)) ?_
  refine ⟨fun h1 => ?_, fun h1 => ?_⟩
  · have hkl : k < out.length := by have : (k : Int) < (out.length : Int) := of_decide_eq_true h1; omega
    clear h1
    have e1 : (ivs out)[(k : Int).toNat * 1]? = some (.int .i64 out[k]) := by simpa using ivs_at hkl
    have b0 : (0 : Int) ≤ (k : Int) := by omega
    have b1 : (k : Int) < (out.length : Int) := by omega
    obtain ⟨q0, q1⟩ := hin _ (List.getElem_mem hkl)
    rw [List.drop_eq_getElem_cons hkl, szQ] at hz
    generalize out[k] = r at *
    obtain ⟨rk, rfl⟩ := Int.eq_ofNat_of_zero_le q0
    have hrk : rk < M.length := by omega
    obtain ⟨hrg, hx⟩ := hM.rg ⟨n0, n2⟩ hrk
    have hat := fun (H : HL) (nx : Nat) (h0 : lookH H 0 = some (true, .ab (rdP T W last b))) => rat_h (nx := nx) (a := a) (bb := bb) (c := c) h0 hT node (rk : Nat)
    rw [hrg, hx] at hat
    rw [hx] at hz
    have htok : tok M[rk].1 M[rk].2 = true := List.all_eq_true.1 hM.tk _ (List.getElem_mem hrk)
    have htn : ∀ (H : HL) (nx : Nat) (h0 : lookH H 0 = some (true, .ab (rdP T W last b))), FnH Tryz.prog 84 [.c (.nm 0), geoT a bb c, .c (iT node), .c (iT ep), .c (iT (rk : Nat)), lT M[rk], .c (iT (IntKind.i64.wrap (node + 1)))] H nx ⟨.t (.c (iT (tnE T a bb c node ep (rk : Nat) M[rk] (node + 1)))), [], [(0, some (.ab (rdP (tnS T a bb c node ep (rk : Nat) M[rk] (node + 1)) W last b)))], []⟩ := fun H nx h0 => by
      rw [w1]
      exact rturn_h h0 hT node ep (rk : Nat) _ (node + 1) (hM.put hrk htok) (fun h => hM.give hrk h)
    by_cases h2 : tnE T a bb c node ep (rk : Nat) M[rk] (node + 1) = 0
    · have hM' := hM.tn hT hrk h2
      have hT' := hT.tn a bb c node ep (rk : Nat) M[rk] (node + 1)
      rw [h2] at htn
      simp only [ne_eq, h2, not_true_eq_false, if_false] at hz
      generalize tnS T a bb c node ep (rk : Nat) M[rk] (node + 1) = tS at *
      refine rn [(49, .ld [iT (rk : Nat)]), (50, .spec ⟨.tup [lT M[rk], .c (iT 0)], [], [(0, some (.ab (rdP T W last b)))], []⟩), (60, .ld [iT (rk : Nat)]), (64, .spec ⟨.t (.c (iT 0)), [], [(0, some (.ab (rdP tS W last b)))], []⟩), (66, .dec false)] rfl (by (repeat' (first | exact trivial | exact rfl | exact trivial | exact fun _ => trivial | first | exact e1 | exact ⟨e1, trivial⟩ | exact b0 | exact b1 | exact hat _ _ rfl | exact htn _ _ rfl | rfl | decide | refine And.intro ?_ ?_))) ?_
      exact roundEnd ⟨k + 1, tS, hT', ⟨_, hM', by rw [List.length_set]; exact hMl⟩, hz, by omega⟩ [] (by show out.length - (k + 1) < out.length - k; omega) (by (repeat' (first | exact trivial | exact rfl | exact w3 | exact fun _ => w3 | refine And.intro ?_ ?_))) (by repeat' (first | exact trivial | exact rfl | refine And.intro ?_ ?_)) rfl
    · exfalso
      simp only [ne_eq, h2, not_false_eq_true, if_true] at hz
      exact h2 (congrArg Prod.fst hz)
  · have hke : k = out.length := by have : ¬ (k : Int) < (out.length : Int) := of_decide_eq_false h1; omega
    rw [hke, List.drop_length, szQ] at hz
    cases hz
    refine rn [] rfl (by repeat' (first | exact trivial | exact rfl | refine And.intro ?_ ?_)) (roundExit rfl ?_)
    refine rnA [] rfl (by repeat' (first | exact trivial | exact rfl | refine And.intro ?_ ?_)) ?_
    exact retM tysOk [(0, 0), (1, 3)] rfl (by repeat' (first | exact trivial | exact rfl | refine And.intro ?_ ?_)) (by repeat' (first | exact trivial | exact rfl | refine And.intro ?_ ?_)) rfl rfl
set_option maxRecDepth 100000 in
set_option maxHeartbeats 8000000 in
theorem rseizeX (hd : lookH H d = some (true, .ab (rdP S W last b))) (hD : DOk N S W last) (node ep : Int) (he : snE S a bb c node = 0) {e : Int} {S' : List ByteArray} (hs : szR a bb c node ep (tbL S a bb c) (hdL S a bb c (2 - node)) S = (e, S')) (h0e : e ≠ 0) :
    FnH Tryz.prog 43 [.c (.nm d), geoT a bb c, .c (iT node), .c (iT ep)] H nx ⟨.tup [.c .nsl, .c (iT e)], [], [(d, some (.ab (rdP S' W last b)))], []⟩ := by
  obtain ⟨ht0, n0, n2⟩ := snE_ok he
  have hG := TbG.of ht0
  have hsz := szQ_eq (ep := ep) ⟨n0, n2⟩ (L := tbL S a bb c) (hdL S a bb c (2 - node)) S (tbL S a bb c) hG hD rfl (fun r hr => held_in hr) (held_nodup _ _ _) (fun _ _ => rfl)
  rw [← hsz] at hs
  clear hsz
  have hin : ∀ x ∈ hdL S a bb c (2 - node), 0 ≤ x ∧ x < ((tbL S a bb c).length : Int) := fun x hx => held_in hx
  have hLn : (tbL S a bb c).length = (gregions a bb c).toNat := tbL_len _ _ _ _
  rw [hLn] at hin
  refine fnAs (fn := Tryz.f43) 69 rfl rfl rfl (args' := [.c (.nm 0), geoT a bb c, .c (iT node), .c (iT ep)]) [(d, rdP S W last b, rdP S' W last b)] [] ⟨⟨hd, ptr b, rd_pins _ _ _ _, rd_pins _ _ _ _⟩, trivial⟩ trivial (by simp) rfl rfl rfl rfl (v' := .tup [.c .nsl, .c (iT e)]) (news' := []) rfl rfl rfl rfl rfl fun w Wh => ?_
  show At _ _ _ _ _ _ [(0, some (true, .ab (rdP S W last b)))] 1
  have w1 : IntKind.i64.wrap (node + 1) = node + 1 := wrap_sm (by omega) (by omega)
  have w2 : IntKind.i64.wrap (1 - node) = 1 - node := wrap_sm (by omega) (by omega)
  have hh := fun (H : HL) (nx : Nat) (h0' : lookH H 0 = some (true, .ab (rdP S W last b))) => rlheldO (nx := nx) h0' hD he
  have hh2 : ∀ (H : HL) (nx : Nat) (h0' : lookH H 0 = some (true, .ab (rdP S W last b))), FnH Tryz.prog 45 [.c (.nm 0), geoT a bb c, .c (iT (IntKind.i64.wrap (1 - node)))] H nx ⟨.tup [.c (.nm nx), .c (iT 0)], [(true, .own 3 1 (hdL S a bb c (2 - node)).length (ivs (hdL S a bb c (2 - node))))], [(0, some (.ab (rdP S W last b)))], []⟩ := by
    intro H nx h0'
    rw [w2]
    have := rlheldO (nx := nx) h0' hD (hG.sn (node := 1 - node) (by omega))
    rw [show 1 - node + 1 = 2 - node by omega] at this
    exact this
  generalize hdL S a bb c (node + 1) = mine at *
  have hol : (hdL S a bb c (2 - node)).length ≤ 132 := by
    have h1 := held_le (tbL S a bb c) (2 - node) (tbL S a bb c).length
    have h2 := tbL_le S a bb c
    have h3 : (hdL S a bb c (2 - node)).length = (held (tbL S a bb c) (2 - node) (tbL S a bb c).length).length := rfl
    omega
  generalize hdL S a bb c (2 - node) = out at *
  refine rn [(22, .spec ⟨.tup [.c (.nm 2), .c (iT 0)], [(true, .own 3 1 mine.length (ivs mine))], [(0, some (.ab (rdP S W last b)))], []⟩), (26, .dec false), (33, .spec ⟨.tup [.c (.nm 3), .c (iT 0)], [(true, .own 3 1 out.length (ivs out))], [(0, some (.ab (rdP S W last b)))], []⟩)] rfl (by (repeat' (first | exact trivial | exact rfl | exact trivial | exact fun _ => trivial | first | exact hh _ _ rfl | exact hh2 _ _ rfl | rfl | decide | refine And.intro ?_ ?_))) ?_
  refine At.loop (X := (k : Nat) ×' (T : List ByteArray) ×' (DOk N T W last ∧ (∃ M, TbG T a bb c M ∧ M.length = (gregions a bb c).toNat) ∧ szQ a bb c node ep (out.drop k) T = (e, S') ∧ k ≤ out.length)) 4 (fun x => out.length - x.1)
    (fun x => [(0, .t (.c (.nm 0))), (2, .t (.c (iT node))), (3, .t (.c (iT ep))), (5, .t (.c (.p 1 0))), (12, .t (.c (.nm 3))), (14, .t (.c (iT (x.1 : Nat))))])
    (fun x => [(0, some (true, .ab (rdP x.2.1 W last b))), (1, some (true, .cells [iT a, iT bb, iT c] 23)), (3, some (true, .own 3 1 out.length (ivs out)))]) ⟨0, S, hD, ⟨_, hG, hLn⟩, hs, by omega⟩ [] (fun x => wf rfl rfl) (by repeat' (first | exact trivial | exact rfl | refine And.intro ?_ ?_)) (by repeat' (first | exact trivial | exact rfl | refine And.intro ?_ ?_)) rfl fun x => ?_
  obtain ⟨k, T, hT, ⟨M, hM, hMl⟩, hz, hk⟩ := x
  have w3 : IntKind.i64.wrap ((k : Int) + 1) = ((k + 1 : Nat) : Int) := by rw [wrap_sm (by omega) (by omega)]; omega
  refine rn [] rfl (by repeat' (first | exact trivial | exact rfl | refine And.intro ?_ ?_)) ?_
  refine ⟨fun h1 => ?_, fun h1 => ?_⟩
  · have hkl : k < out.length := by have : (k : Int) < (out.length : Int) := of_decide_eq_true h1; omega
    clear h1
    have e1 : (ivs out)[(k : Int).toNat * 1]? = some (.int .i64 out[k]) := by simpa using ivs_at hkl
    have b0 : (0 : Int) ≤ (k : Int) := by omega
    have b1 : (k : Int) < (out.length : Int) := by omega
    obtain ⟨q0, q1⟩ := hin _ (List.getElem_mem hkl)
    rw [List.drop_eq_getElem_cons hkl, szQ] at hz
    generalize out[k] = r at *
    obtain ⟨rk, rfl⟩ := Int.eq_ofNat_of_zero_le q0
    have hrk : rk < M.length := by omega
    obtain ⟨hrg, hx⟩ := hM.rg ⟨n0, n2⟩ hrk
    have hat := fun (H : HL) (nx : Nat) (h0 : lookH H 0 = some (true, .ab (rdP T W last b))) => rat_h (nx := nx) (a := a) (bb := bb) (c := c) h0 hT node (rk : Nat)
    rw [hrg, hx] at hat
    rw [hx] at hz
    have htok : tok M[rk].1 M[rk].2 = true := List.all_eq_true.1 hM.tk _ (List.getElem_mem hrk)
    have htn : ∀ (H : HL) (nx : Nat) (h0 : lookH H 0 = some (true, .ab (rdP T W last b))), FnH Tryz.prog 84 [.c (.nm 0), geoT a bb c, .c (iT node), .c (iT ep), .c (iT (rk : Nat)), lT M[rk], .c (iT (IntKind.i64.wrap (node + 1)))] H nx ⟨.t (.c (iT (tnE T a bb c node ep (rk : Nat) M[rk] (node + 1)))), [], [(0, some (.ab (rdP (tnS T a bb c node ep (rk : Nat) M[rk] (node + 1)) W last b)))], []⟩ := fun H nx h0 => by
      rw [w1]
      exact rturn_h h0 hT node ep (rk : Nat) _ (node + 1) (hM.put hrk htok) (fun h => hM.give hrk h)
    by_cases h2 : tnE T a bb c node ep (rk : Nat) M[rk] (node + 1) = 0
    · have hM' := hM.tn hT hrk h2
      have hT' := hT.tn a bb c node ep (rk : Nat) M[rk] (node + 1)
      rw [h2] at htn
      simp only [ne_eq, h2, not_true_eq_false, if_false] at hz
      generalize tnS T a bb c node ep (rk : Nat) M[rk] (node + 1) = tS at *
      refine rn [(49, .ld [iT (rk : Nat)]), (50, .spec ⟨.tup [lT M[rk], .c (iT 0)], [], [(0, some (.ab (rdP T W last b)))], []⟩), (60, .ld [iT (rk : Nat)]), (64, .spec ⟨.t (.c (iT 0)), [], [(0, some (.ab (rdP tS W last b)))], []⟩), (66, .dec false)] rfl (by (repeat' (first | exact trivial | exact rfl | exact trivial | exact fun _ => trivial | first | exact e1 | exact ⟨e1, trivial⟩ | exact b0 | exact b1 | exact hat _ _ rfl | exact htn _ _ rfl | rfl | decide | refine And.intro ?_ ?_))) ?_
      exact roundEnd ⟨k + 1, tS, hT', ⟨_, hM', by rw [List.length_set]; exact hMl⟩, hz, by omega⟩ [] (by show out.length - (k + 1) < out.length - k; omega) (by (repeat' (first | exact trivial | exact rfl | exact w3 | exact fun _ => w3 | refine And.intro ?_ ?_))) (by repeat' (first | exact trivial | exact rfl | refine And.intro ?_ ?_)) rfl
    · simp only [ne_eq, h2, not_false_eq_true, if_true] at hz
      obtain ⟨z1, z2⟩ := Prod.mk.inj hz
      rw [z1, z2] at htn
      refine rn [(49, .ld [iT (rk : Nat)]), (50, .spec ⟨.tup [lT M[rk], .c (iT 0)], [], [(0, some (.ab (rdP T W last b)))], []⟩), (60, .ld [iT (rk : Nat)]), (64, .spec ⟨.t (.c (iT e)), [], [(0, some (.ab (rdP S' W last b)))], []⟩), (66, .dec true)] rfl (by (repeat' (first | exact trivial | exact rfl | exact trivial | exact fun _ => trivial | first | exact e1 | exact ⟨e1, trivial⟩ | exact b0 | exact b1 | exact hat _ _ rfl | exact htn _ _ rfl | exact ne_b h0e | rfl | decide | refine And.intro ?_ ?_))) ?_
      exact roundRet (retM tysOk [(0, 0)] rfl (by repeat' (first | exact trivial | exact rfl | refine And.intro ?_ ?_)) (by repeat' (first | exact trivial | exact rfl | refine And.intro ?_ ?_)) rfl rfl)
  · exfalso
    have hke : k = out.length := by have : ¬ (k : Int) < (out.length : Int) := of_decide_eq_false h1; omega
    rw [hke, List.drop_length, szQ] at hz
    exact h0e (congrArg Prod.fst hz).symm
set_option maxRecDepth 100000 in
set_option maxHeartbeats 4000000 in
theorem rseizeE (hd : lookH H d = some (true, .ab (rdP S W last b))) (hD : DOk N S W last) (node ep : Int) {e : Int} (he : snE S a bb c node = e) (h0 : e ≠ 0) :
    FnH Tryz.prog 43 [.c (.nm d), geoT a bb c, .c (iT node), .c (iT ep)] H nx ⟨.tup [.c .nsl, .c (iT e)], [], [(d, some (.ab (rdP S W last b)))], []⟩ := by
  refine fnAs (fn := Tryz.f43) 69 rfl rfl rfl (args' := [.c (.nm 0), geoT a bb c, .c (iT node), .c (iT ep)]) [(d, rdP S W last b, rdP S W last b)] [] ⟨⟨hd, ptr b, rd_pins _ _ _ _, rd_pins _ _ _ _⟩, trivial⟩ trivial (by simp) rfl rfl rfl rfl (v' := .tup [.c .nsl, .c (iT e)]) (news' := []) rfl rfl rfl rfl rfl fun w Wh => ?_
  show At _ _ _ _ _ _ [(0, some (true, .ab (rdP S W last b)))] 1
  have ht := fun (H : HL) (nx : Nat) (h0' : lookH H 0 = some (true, .ab (rdP S W last b))) => rlheldE (nx := nx) h0' hD he h0
  refine rn [(22, .spec ⟨.tup [.c .nsl, .c (iT e)], [], [(0, some (.ab (rdP S W last b)))], []⟩), (26, .dec true)] rfl (by (repeat' (first | exact trivial | exact rfl | exact trivial | exact fun _ => trivial | first | exact ht _ _ rfl | exact ne_b h0 | rfl | decide | refine And.intro ?_ ?_))) ?_
  exact retM tysOk [(0, 0)] rfl (by repeat' (first | exact trivial | exact rfl | refine And.intro ?_ ?_)) (by repeat' (first | exact trivial | exact rfl | refine And.intro ?_ ?_)) rfl rfl
end
end Cw
