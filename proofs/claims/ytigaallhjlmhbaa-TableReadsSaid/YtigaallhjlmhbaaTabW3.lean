/- The law TableWrites, by reckoning. -/
import Derived.Test.YtigaallhjlmhbaaTabR2
namespace Cw
open Go Vc
open Go.Proofs
set_option maxRecDepth 100000
theorem SlR.own0 {H : HL} {k : Nat} {b : Bool} {T : TypeId} {n s : Nat} {xs : List Value} (hk : lookH H k = some (b, .own T s (0 + n) xs)) : SlR H (.c (.nm k)) n s xs := by
  have := SlR.own hk
  rwa [Nat.zero_add] at this
set_option maxRecDepth 100000 in
set_option maxHeartbeats 4000000 in
theorem twrites_h (a b c rg : Int) (l : List Ls) (zl : l.length * 16 ≤ 140737488351232) :
    FnH Try.prog 5 [geoT a b c, .c (.nm 0), .c (iT rg)] [(0, some (false, .rd 2 l.length (lcells l)))] 1 ⟨.t (.c (.b true)), [], [], []⟩ := by
  refine fnR (fn := Try.f5) 145 rfl rfl rfl (args' := [geoT a b c, .c (.nm 0), .c (iT rg)]) (H' := [(0, some (false, .rd 2 l.length (lcells l)))]) (nx' := 1) (fun e w M => ?_) rfl rfl rfl rfl fun w => ?_
  · obtain ⟨e', M', q1⟩ := slr1 (v := .c (.nm 0)) (SlR.rd rfl) e w M
    exact ⟨e', M', by simp [q1]; exact ⟨rfl, rfl⟩⟩
  rcases tenc_all a b c l with ⟨hg, hn, hall⟩ | ⟨k, hk, hwhy, henc⟩
  · have hr9 := (regions_two hg hn).2
    refine rn [(24, .dec true), (30, .spec ⟨.tup [.c (.nm 4), .c (iT 0)], [(true, .own 9 1 (nsec l.length) (svs (secs (tz l l.length) (nsec l.length))))], [], []⟩), (36, .spec ⟨.tup [.c (.nm 5), .c (iT 0)], [(true, .own 9 1 (nsec l.length) (svs (secs (tz l l.length) (nsec l.length))))], [], []⟩), (42, .spec ⟨.t (.c (.b (decide (secs (tz l l.length) (nsec l.length) = secs (tz l l.length) (nsec l.length))))), [], [], []⟩), (53, .spec ⟨.t (.c (.b (decide (l = l)))), [], [], []⟩), (57, .ret (.t (.c (.b true)))), (59, .dec false)] rfl ?_ ?_
    · repeat' (first | exact trivial | exact rfl | exact lcells_one l | exact tenc_h l hg hn hall (SlR.own0 rfl) | exact renc_h l hg hn hall (SlR.rd rfl) | exact fun _ => tworks0 | exact tworks0 | (simp [polB]; done) | refine And.intro ?_ ?_)
      all_goals first | (simp only [maxLen]; omega) | omega | ((first | intro _ | skip); first | exact lsame_h (SlR.own0 rfl) (SlR.rd rfl) (by omega) | exact sameTexts_h (by rw [secs_length]; exact SlR.own rfl) (by rw [secs_length]; exact SlR.own rfl) (by rw [secs_length]; unfold nsec; omega))
    refine At.loop (X := (o : Nat) ×' (o ≤ 5)) 4 (fun x => 5 - x.1)
      (fun x => [(1, .t (.c (.nm 0))), (2, .t (.c (iT rg))), (3, .t (.c (.p 1 0))), (7, .t (.c (.nm 3))), (12, .t (.c (iT ((x.1 : Int) - 1))))])
      (fun _ => [(0, some (false, .rd 2 l.length (lcells l))), (1, some (true, .cells [iT a, iT b, iT c] 34)), (3, some (true, .own 49 2 l.length (lcells l)))]) ⟨0, by omega⟩ [] (fun x => wf rfl rfl) (by repeat' (first | exact trivial | exact rfl | refine And.intro ?_ ?_)) (by (repeat' (first | exact trivial | exact rfl | exact Nat.zero_add _ | exact fun _ => Nat.zero_add _ | refine And.intro ?_ ?_))) rfl fun x => ?_
    obtain ⟨o, ho⟩ := x
    refine rn [] rfl (by repeat' (first | exact trivial | exact rfl | refine And.intro ?_ ?_)) ?_
    refine ⟨fun h => ?_, fun h => ?_⟩
    · have ho5 : o < 5 := by have : (o : Int) - 1 < 4 := of_decide_eq_true h; omega
      have w1 : IntKind.i64.wrap (((o : Int) - 1) + 1) = ((o + 1 : Nat) : Int) - 1 := by rw [wrap_sm (by omega) (by omega)]; omega
      refine rn [(66, .spec ⟨.t (.c (.nm 4)), [(true, .own 3 1 (held l ((o : Int) - 1) l.length).length (ivs (held l ((o : Int) - 1) l.length)))], [], []⟩), (69, .spec ⟨.t (.c (.nm 5)), [(true, .own 3 1 (held l ((o : Int) - 1) l.length).length (ivs (held l ((o : Int) - 1) l.length)))], [], []⟩), (70, .spec ⟨.t (.c (.b (decide (held l ((o : Int) - 1) l.length = held l ((o : Int) - 1) l.length)))), [], [], []⟩), (71, .dec false)] rfl ?_ ?_
      · repeat' (first | exact trivial | exact rfl | refine And.intro ?_ ?_)
        all_goals first | (simp; done) | skip
        · exact sameInts_h (SlR.own rfl) (SlR.own rfl) (Nat.le_trans (held_le _ _ _) (by omega))
        · exact rheld_h l _ (by omega) (SlR.rd rfl)
        · exact theld_h l _ (by omega) (SlR.own rfl)
      · exact roundEnd ⟨o + 1, by omega⟩ [] (by show 5 - (o + 1) < 5 - o; omega) (by (repeat' (first | exact trivial | exact rfl | exact w1 | exact fun _ => w1 | refine And.intro ?_ ?_))) (by repeat' (first | exact trivial | exact rfl | refine And.intro ?_ ?_)) rfl
    · refine rn [] rfl (by repeat' (first | exact trivial | exact rfl | refine And.intro ?_ ?_)) (roundExit rfl ?_)
      refine rnA [] rfl (by repeat' (first | exact trivial | exact rfl | refine And.intro ?_ ?_)) ?_
      refine At.loop (X := (i : Nat) ×' (i ≤ 10 ∧ i ≤ l.length)) 4 (fun x => 10 - x.1)
        (fun x => [(1, .t (.c (.nm 0))), (2, .t (.c (iT rg))), (3, .t (.c (.p 1 0))), (13, .t (.c (iT (x.1 : Nat))))])
        (fun _ => [(0, some (false, .rd 2 l.length (lcells l))), (1, some (true, .cells [iT a, iT b, iT c] 34))]) ⟨0, by omega, by omega⟩ [] (fun x => wf rfl rfl) (by repeat' (first | exact trivial | exact rfl | refine And.intro ?_ ?_)) (by repeat' (first | exact trivial | exact rfl | refine And.intro ?_ ?_)) rfl fun x => ?_
      obtain ⟨i, hi1, hi2⟩ := x
      refine rn [] rfl (by repeat' (first | exact trivial | exact rfl | refine And.intro ?_ ?_)) ?_
      refine ⟨fun h => ?_, fun h => ?_⟩
      · have h1 : (i : Int) < (l.length : Int) := of_decide_eq_true (Bool.and_eq_true_iff.1 h).1
        have h2 : (i : Int) < 10 := of_decide_eq_true (Bool.and_eq_true_iff.1 h).2
        have hlt : i < l.length := by omega
        have e1 : (lcells l)[(i : Int).toNat * 2]? = some (.int .i64 l[i].1) := (lcells_get l i hlt).1
        have e2 : (lcells l)[(i : Int).toNat * 2 + 1]? = some (.int .i64 l[i].2) := (lcells_get l i hlt).2
        have b0 : (0 : Int) ≤ (i : Int) := by omega
        have w1 : IntKind.i64.wrap ((i : Int) + 1) = ((i + 1 : Nat) : Int) := by rw [wrap_sm (by omega) (by omega)]; omega
        have A1 := tput0 a b c rg l[i]
        have A2 := rput08 a b c rg l[i]
        have A3 := tgive0 l[i] rg
        have A4 := rgive0 l[i] rg
        generalize tps a b c rg l[i].1 l[i].2 = p1 at A1 A2
        generalize (tpp a b c rg l[i].1 l[i].2).1 = p2 at A1 A2
        generalize (tpp a b c rg l[i].1 l[i].2).2 = p3 at A1 A2
        generalize tpe a b c rg l[i].1 l[i].2 = p4 at A1 A2
        generalize gvx l[i] rg = p5 at A3 A4
        generalize gve l[i] rg = p6 at A3 A4
        refine rn [(88, .ld [iT l[i].1, iT l[i].2]), (89, .ret (.tup [.c (iT p1), .agg [iT p2, .s p3], .c (iT p4)])), (99, .ld [iT l[i].1, iT l[i].2]), (100, .ret (.tup [.c (iT p1), .agg [iT p2, .s p3], .c (iT p4)])), (108, .ld [iT l[i].1, iT l[i].2]), (110, .ret (.tup [lT p5, .c (iT p6)])), (117, .ld [iT l[i].1, iT l[i].2]), (119, .ret (.tup [lT p5, .c (iT p6)])), (144, .dec false)] rfl ?_ ?_
        · repeat' (first | exact trivial | exact rfl | exact e1 | exact e2 | exact A1 | exact A2 | exact A3 | exact A4 | exact b0 | exact h1 | refine And.intro ?_ ?_)
          all_goals first | decide | (simp [polB, bq]; done)
        · exact roundEnd ⟨i + 1, by omega, by omega⟩ [] (by show 10 - (i + 1) < 10 - i; omega) (by (repeat' (first | exact trivial | exact rfl | exact w1 | exact fun _ => w1 | refine And.intro ?_ ?_))) (by repeat' (first | exact trivial | exact rfl | refine And.intro ?_ ?_)) rfl
      · refine rn [] rfl (by repeat' (first | exact trivial | exact rfl | refine And.intro ?_ ?_)) (roundExit rfl ?_)
        refine rnA [] rfl (by repeat' (first | exact trivial | exact rfl | refine And.intro ?_ ?_)) ?_
        exact ret0 tysOk rfl (by repeat' (first | exact trivial | exact rfl | refine And.intro ?_ ?_)) rfl
  · have hren : ∀ {H : HL} {nx : Nat} {v : TV}, SlR H v l.length 2 (lcells l) → FnH Try.prog 20 [geoT a b c, v] H nx ⟨.tup [.c .nsl, .c (iT k)], [], [], []⟩ := by
      rcases hwhy with ⟨rfl, hno⟩ | ⟨rfl, hg, hn, hall⟩
      · exact fun hv => renc_no4 l hno hv
      · exact fun hv => renc_no80 l hg hn hall hv
    refine rn [(24, .dec true), (30, .spec ⟨.tup [.c .nsl, .c (iT k)], [], [], []⟩), (36, .spec ⟨.tup [.c .nsl, .c (iT k)], [], [], []⟩), (42, .spec ⟨.t (.c (.b (decide (([] : List ByteArray) = [])))), [], [], []⟩), (53, .spec ⟨.t (.c (.b (decide (l = l)))), [], [], []⟩), (57, .ret (.t (.c (.b true)))), (59, .dec false)] rfl ?_ ?_
    · repeat' (first | exact trivial | exact rfl | exact lcells_one l | exact henc (SlR.own0 rfl) | exact hren (SlR.rd rfl) | exact fun _ => tworks0 | exact tworks0 | (simp [polB]; done) | refine And.intro ?_ ?_)
      all_goals first | (simp only [maxLen]; omega) | omega | ((first | intro _ | skip); first | exact lsame_h (SlR.own0 rfl) (SlR.rd rfl) (by omega) | exact sameTexts_h SlR.nil SlR.nil (by decide))
    refine At.loop (X := (o : Nat) ×' (o ≤ 5)) 4 (fun x => 5 - x.1)
      (fun x => [(1, .t (.c (.nm 0))), (2, .t (.c (iT rg))), (3, .t (.c (.p 1 0))), (7, .t (.c (.nm 3))), (12, .t (.c (iT ((x.1 : Int) - 1))))])
      (fun _ => [(0, some (false, .rd 2 l.length (lcells l))), (1, some (true, .cells [iT a, iT b, iT c] 34)), (3, some (true, .own 49 2 l.length (lcells l)))]) ⟨0, by omega⟩ [] (fun x => wf rfl rfl) (by repeat' (first | exact trivial | exact rfl | refine And.intro ?_ ?_)) (by (repeat' (first | exact trivial | exact rfl | exact Nat.zero_add _ | exact fun _ => Nat.zero_add _ | refine And.intro ?_ ?_))) rfl fun x => ?_
    obtain ⟨o, ho⟩ := x
    refine rn [] rfl (by repeat' (first | exact trivial | exact rfl | refine And.intro ?_ ?_)) ?_
    refine ⟨fun h => ?_, fun h => ?_⟩
    · have ho5 : o < 5 := by have : (o : Int) - 1 < 4 := of_decide_eq_true h; omega
      have w1 : IntKind.i64.wrap (((o : Int) - 1) + 1) = ((o + 1 : Nat) : Int) - 1 := by rw [wrap_sm (by omega) (by omega)]; omega
      refine rn [(66, .spec ⟨.t (.c (.nm 4)), [(true, .own 3 1 (held l ((o : Int) - 1) l.length).length (ivs (held l ((o : Int) - 1) l.length)))], [], []⟩), (69, .spec ⟨.t (.c (.nm 5)), [(true, .own 3 1 (held l ((o : Int) - 1) l.length).length (ivs (held l ((o : Int) - 1) l.length)))], [], []⟩), (70, .spec ⟨.t (.c (.b (decide (held l ((o : Int) - 1) l.length = held l ((o : Int) - 1) l.length)))), [], [], []⟩), (71, .dec false)] rfl ?_ ?_
      · repeat' (first | exact trivial | exact rfl | refine And.intro ?_ ?_)
        all_goals first | (simp; done) | skip
        · exact sameInts_h (SlR.own rfl) (SlR.own rfl) (Nat.le_trans (held_le _ _ _) (by omega))
        · exact rheld_h l _ (by omega) (SlR.rd rfl)
        · exact theld_h l _ (by omega) (SlR.own rfl)
      · exact roundEnd ⟨o + 1, by omega⟩ [] (by show 5 - (o + 1) < 5 - o; omega) (by (repeat' (first | exact trivial | exact rfl | exact w1 | exact fun _ => w1 | refine And.intro ?_ ?_))) (by repeat' (first | exact trivial | exact rfl | refine And.intro ?_ ?_)) rfl
    · refine rn [] rfl (by repeat' (first | exact trivial | exact rfl | refine And.intro ?_ ?_)) (roundExit rfl ?_)
      refine rnA [] rfl (by repeat' (first | exact trivial | exact rfl | refine And.intro ?_ ?_)) ?_
      refine At.loop (X := (i : Nat) ×' (i ≤ 10 ∧ i ≤ l.length)) 4 (fun x => 10 - x.1)
        (fun x => [(1, .t (.c (.nm 0))), (2, .t (.c (iT rg))), (3, .t (.c (.p 1 0))), (13, .t (.c (iT (x.1 : Nat))))])
        (fun _ => [(0, some (false, .rd 2 l.length (lcells l))), (1, some (true, .cells [iT a, iT b, iT c] 34))]) ⟨0, by omega, by omega⟩ [] (fun x => wf rfl rfl) (by repeat' (first | exact trivial | exact rfl | refine And.intro ?_ ?_)) (by repeat' (first | exact trivial | exact rfl | refine And.intro ?_ ?_)) rfl fun x => ?_
      obtain ⟨i, hi1, hi2⟩ := x
      refine rn [] rfl (by repeat' (first | exact trivial | exact rfl | refine And.intro ?_ ?_)) ?_
      refine ⟨fun h => ?_, fun h => ?_⟩
      · have h1 : (i : Int) < (l.length : Int) := of_decide_eq_true (Bool.and_eq_true_iff.1 h).1
        have h2 : (i : Int) < 10 := of_decide_eq_true (Bool.and_eq_true_iff.1 h).2
        have hlt : i < l.length := by omega
        have e1 : (lcells l)[(i : Int).toNat * 2]? = some (.int .i64 l[i].1) := (lcells_get l i hlt).1
        have e2 : (lcells l)[(i : Int).toNat * 2 + 1]? = some (.int .i64 l[i].2) := (lcells_get l i hlt).2
        have b0 : (0 : Int) ≤ (i : Int) := by omega
        have w1 : IntKind.i64.wrap ((i : Int) + 1) = ((i + 1 : Nat) : Int) := by rw [wrap_sm (by omega) (by omega)]; omega
        have A1 := tput0 a b c rg l[i]
        have A2 := rput08 a b c rg l[i]
        have A3 := tgive0 l[i] rg
        have A4 := rgive0 l[i] rg
        generalize tps a b c rg l[i].1 l[i].2 = p1 at A1 A2
        generalize (tpp a b c rg l[i].1 l[i].2).1 = p2 at A1 A2
        generalize (tpp a b c rg l[i].1 l[i].2).2 = p3 at A1 A2
        generalize tpe a b c rg l[i].1 l[i].2 = p4 at A1 A2
        generalize gvx l[i] rg = p5 at A3 A4
        generalize gve l[i] rg = p6 at A3 A4
        refine rn [(88, .ld [iT l[i].1, iT l[i].2]), (89, .ret (.tup [.c (iT p1), .agg [iT p2, .s p3], .c (iT p4)])), (99, .ld [iT l[i].1, iT l[i].2]), (100, .ret (.tup [.c (iT p1), .agg [iT p2, .s p3], .c (iT p4)])), (108, .ld [iT l[i].1, iT l[i].2]), (110, .ret (.tup [lT p5, .c (iT p6)])), (117, .ld [iT l[i].1, iT l[i].2]), (119, .ret (.tup [lT p5, .c (iT p6)])), (144, .dec false)] rfl ?_ ?_
        · repeat' (first | exact trivial | exact rfl | exact e1 | exact e2 | exact A1 | exact A2 | exact A3 | exact A4 | exact b0 | exact h1 | refine And.intro ?_ ?_)
          all_goals first | decide | (simp [polB, bq]; done)
        · exact roundEnd ⟨i + 1, by omega, by omega⟩ [] (by show 10 - (i + 1) < 10 - i; omega) (by (repeat' (first | exact trivial | exact rfl | exact w1 | exact fun _ => w1 | refine And.intro ?_ ?_))) (by repeat' (first | exact trivial | exact rfl | refine And.intro ?_ ?_)) rfl
      · refine rn [] rfl (by repeat' (first | exact trivial | exact rfl | refine And.intro ?_ ?_)) (roundExit rfl ?_)
        refine rnA [] rfl (by repeat' (first | exact trivial | exact rfl | refine And.intro ?_ ?_)) ?_
        exact ret0 tysOk rfl (by repeat' (first | exact trivial | exact rfl | refine And.intro ?_ ?_)) rfl
theorem tableWrites_true (a b c rg : Int) (l : List Ls) (A1 : Option Addr) (c1 : Nat) (w : World) (zl : l.length * 16 ≤ 140737488351232) (h1 : Vc.Rds w A1 l.length c1 2 (lcells l)) :
    Calls Try.prog 5 #[geo a b c, .slice A1 l.length c1, .int .i64 rg] w fun e w' => e = .returned (.bool true) ∧ RowKit.Below w.heap.size w w' := by
  obtain ⟨e, M, v0⟩ := memr1 h1
  have := fnh_law (twrites_h a b c rg l zl) rfl rfl M
  rw [show ([geoT a b c, .c (.nm 0), .c (iT rg)] : List TV).map (TV.den e) = [geo a b c, e.val 0, .int .i64 rg] from rfl, v0] at this
  exact this
end Cw
