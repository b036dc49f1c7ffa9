/- The document's answer for the package table, by reckoning: May, text, Sectors, Encode, Put, Give, Held. -/
import Derived.Test.YtjnbdhgkoolhnaaGreatTabB
import Derived.Test.YtjnbdhgkoolhnaaGreatRefGeomW
namespace Cw
open Go Vc
open Go.Proofs
set_option maxRecDepth 100000
theorem rcheckT0 (a b c : Int) : Fn0 Tryz.prog 25 [geoT a b c] (.t (.c (iT (gcheck a b c)))) := ⟨fun w => rcheck_any a b c w⟩
theorem rregions0 (a b c : Int) : Fn0 Tryz.prog 28 [geoT a b c] (.t (.c (iT (gregions a b c)))) := ⟨fun w => rregions_any a b c w⟩
theorem rtable0 (a b c r : Int) : Fn0 Tryz.prog 163 [geoT a b c, .c (iT r)] (.tup [.c (iT (ts a b c r)), .c (iT (toff a b c r)), .c (iT (te a b c r))]) := ⟨fun w => rtable_any a b c r w⟩
theorem rmay0 (x : Ls) : Fn0 Tryz.prog 104 [lT x] (.t (.c (.b (tok x.1 x.2)))) := by
  refine fn0 (fn := Tryz.f104) 21 rfl rfl rfl rfl rfl fun w => ?_
  refine rn [] rfl (by repeat' (first | exact trivial | exact rfl | refine And.intro ?_ ?_)) ?_
  refine ret0 tysOk rfl ⟨?_, trivial⟩ rfl
  rw [Bool.eq_iff_iff]
  simp [tok]
  omega
theorem lw_text {x : Ls} (h : tok x.1 x.2 = true) : (⟨#[UInt8.ofNat (IntKind.u8.wrap x.1).toNat]⟩ : ByteArray) ++ S (le 3 x.2.toNat) = S (lw x) := by
  have hx := tok_iff h
  have qk : IntKind.u8.wrap x.1 = x.1 := by rw [IntKind.wrap_u8]; omega
  rw [qk, show (⟨#[UInt8.ofNat x.1.toNat]⟩ : ByteArray) = S [UInt8.ofNat x.1.toNat] from rfl, S_append]
  unfold lw lv
  congr 1
  rw [show le 4 (x.1.toNat + 256 * x.2.toNat) = _ from le_cons 3 _]
  rw [show (x.1.toNat + 256 * x.2.toNat) / 256 = x.2.toNat by omega]
  simp only [List.cons_append, List.nil_append]
  congr 1
  apply UInt8.toNat_inj.1
  simp only [UInt8.toNat_ofNat']
  omega
theorem rtext0 (x : Ls) (h : tok x.1 x.2 = true) : Fn0 Tryz.prog 77 [lT x] (.t (.c (.s (S (lw x))))) := by
  have hx := tok_iff h
  have T3 : Fn0 Tryz.prog 79 [.c (iT x.2), .c (iT 3)] (.t (.c (.s (S (le 3 x.2.toNat))))) := by
    have := text0 3 x.2.toNat (by decide) (by omega)
    rwa [Int.toNat_of_nonneg hx.2.2.1] at this
  refine fn0 (fn := Tryz.f77) 12 rfl rfl rfl rfl rfl fun w => ?_
  refine rn [(10, .ret (.t (.c (.s (S (le 3 x.2.toNat))))))] rfl (by (repeat' (first | exact trivial | exact rfl | exact T3 | exact fun _ => T3 | first | (simp only [S_size, le_length, sz1]; decide) | decide | refine And.intro ?_ ?_))) ?_
  exact ret0 tysOk rfl ⟨lw_text h, trivial⟩ rfl
theorem rput08 (a b c r : Int) (x : Ls) : Fn0 Tryz.prog 122 [geoT a b c, .c (iT r), lT x] (.tup [.c (iT (tps a b c r x.1 x.2)), .agg [iT (tpp a b c r x.1 x.2).1, .s (tpp a b c r x.1 x.2).2], .c (iT (tpe a b c r x.1 x.2))]) := by
  refine fn0 (fn := Tryz.f122) 32 rfl rfl rfl rfl rfl fun w => ?_
  by_cases he : te a b c r = 0
  · cases hx : tok x.1 x.2
    · have h3 : tpe a b c r x.1 x.2 = 80 := by rw [tpe, if_neg (by omega), if_neg (by simp [hx])]
      refine rn [(15, .ret (.tup [.c (iT (ts a b c r)), .c (iT (toff a b c r)), .c (iT 0)])), (20, .dec false), (24, .ret (.t (.c (.b false)))), (25, .dec true)] rfl (by (repeat' (first | exact trivial | exact rfl | exact he ▸ rtable0 a b c r | exact fun _ => he ▸ rtable0 a b c r | exact hx ▸ rmay0 x | refine And.intro ?_ ?_))) ?_
      rw [tps, h3, tpp, h3]
      exact ret0 tysOk rfl (by repeat' (first | exact trivial | exact rfl | refine And.intro ?_ ?_)) rfl
    · have h3 : tpe a b c r x.1 x.2 = 0 := by rw [tpe, if_neg (by omega), if_pos hx]
      refine rn [(15, .ret (.tup [.c (iT (ts a b c r)), .c (iT (toff a b c r)), .c (iT 0)])), (20, .dec false), (24, .ret (.t (.c (.b true)))), (25, .dec false), (30, .ret (.t (.c (.s (S (lw x))))))] rfl (by (repeat' (first | exact trivial | exact rfl | exact he ▸ rtable0 a b c r | exact fun _ => he ▸ rtable0 a b c r | first | exact hx ▸ rmay0 x | exact rtext0 x hx | refine And.intro ?_ ?_))) ?_
      rw [tps, h3, if_pos rfl, tpp, h3, if_pos rfl]
      exact ret0 tysOk rfl (by repeat' (first | exact trivial | exact rfl | refine And.intro ?_ ?_)) rfl
  · have h3 : tpe a b c r x.1 x.2 = te a b c r := by rw [tpe, if_pos he]
    refine rn [(15, .ret (.tup [.c (iT (ts a b c r)), .c (iT (toff a b c r)), .c (iT (te a b c r))])), (20, .dec true)] rfl (by (repeat' (first | exact trivial | exact rfl | exact rtable0 a b c r | exact fun _ => rtable0 a b c r | simpa using he | refine And.intro ?_ ?_))) ?_
    rw [tps, h3, if_neg he, tpp, h3, if_neg he]
    exact ret0 tysOk rfl (by repeat' (first | exact trivial | exact rfl | refine And.intro ?_ ?_)) rfl
theorem rgive0 (x : Ls) (o : Int) : Fn0 Tryz.prog 121 [lT x, .c (iT o)] (.tup [lT (gvx x o), .c (iT (gve x o))]) := by
  refine fn0 (fn := Tryz.f121) 27 rfl rfl rfl rfl rfl fun w => ?_
  cases ht : tok x.1 x.2
  · have e : gve x o = 80 := by simp [gve, ht]
    refine rn [(7, .ret (.t (.c (.b false)))), (8, .dec true)] rfl (by (repeat' (first | exact trivial | exact rfl | exact ht ▸ rmay0 x | exact fun _ => ht ▸ rmay0 x | refine And.intro ?_ ?_))) ?_
    rw [gvx, e]
    exact ret0 tysOk rfl (by repeat' (first | exact trivial | exact rfl | refine And.intro ?_ ?_)) rfl
  · refine rn [(7, .ret (.t (.c (.b true)))), (8, .dec false)] rfl (by (repeat' (first | exact trivial | exact rfl | exact ht ▸ rmay0 x | exact fun _ => ht ▸ rmay0 x | refine And.intro ?_ ?_))) ?_
    have hw : IntKind.i64.wrap (x.2 + 1) = x.2 + 1 := by
      have := tok_iff ht
      exact wrap_sm (by omega) (by omega)
    refine ⟨fun h => ?_, fun h => ?_⟩
    · have e : gve x o = 1 := by
        simp at h
        simp only [gve, ht, if_true]
        rw [if_pos (by omega)]
      refine rn [] rfl (by repeat' (first | exact trivial | exact rfl | refine And.intro ?_ ?_)) ?_
      rw [gvx, e]
      exact ret0 tysOk rfl (by repeat' (first | exact trivial | exact rfl | refine And.intro ?_ ?_)) rfl
    · have e : gve x o = 0 := by
        simp at h
        simp only [gve, ht, if_true]
        rw [if_neg (by omega)]
      refine rn [] rfl (by repeat' (first | exact trivial | exact rfl | refine And.intro ?_ ?_)) ?_
      rw [gvx, e, if_pos rfl]
      exact ret0 tysOk rfl (by (repeat' (first | exact trivial | exact rfl | exact hw | exact fun _ => hw | refine And.intro ?_ ?_))) rfl
theorem rheld_h (l : List Ls) (o : Int) (hz : l.length ≤ 10000000000000) {H : HL} {nx : Nat} {v : TV} (hv : SlR H v l.length 2 (lcells l)) :
    FnH Tryz.prog 86 [v, .c (iT o)] H nx ⟨.t (.c (.nm nx)), [(true, .own 3 1 (held l o l.length).length (ivs (held l o l.length)))], [], []⟩ := by
  refine fnN (fn := Tryz.f86) 25 rfl rfl rfl (args' := [.c (.nm 0), .c (iT o)]) (H' := [(0, some (false, .rd 2 l.length (lcells l)))]) (nx' := 1) (fun e w M => ?_) rfl rfl rfl (inR_one nx) rfl fun w => ?_
  · obtain ⟨e', M', q1⟩ := slr1 hv e w M
    exact ⟨e', M', by simp [q1]; rfl⟩
  refine rn [] rfl (by repeat' (first | exact trivial | exact rfl | refine And.intro ?_ ?_)) ?_
  refine At.nil 5 3 1 rfl ?_
  refine At.loop (X := (k : Nat) ×' (k ≤ l.length)) 2 (fun k => l.length - k.1)
    (fun k => [(0, .t (.c (.nm 0))), (1, .t (.c (iT o))), (5, .t (.c (.nm 1))), (6, .t (.c (iT (k.1 : Nat))))])
    (fun k => [(0, some (false, .rd 2 l.length (lcells l))), (1, some (true, .own 3 1 (held l o k.1).length (ivs (held l o k.1))))]) ⟨0, by omega⟩ [] (fun k => wf rfl rfl) (by repeat' (first | exact trivial | exact rfl | refine And.intro ?_ ?_)) (by repeat' (first | exact trivial | exact rfl | refine And.intro ?_ ?_)) rfl fun k => ?_
  obtain ⟨k, hk⟩ := k
  refine rn [] rfl (by repeat' (first | exact trivial | exact rfl | refine And.intro ?_ ?_)) ?_
  refine ⟨fun h => ?_, fun h => ?_⟩
  · have hlt : k < l.length := by have : (k : Int) < ((l.length : Nat) : Int) := of_decide_eq_true h; omega
    have e2 : (lcells l)[(k : Int).toNat * 2 + 0]? = some (.int .i64 l[k].1) := by simpa using (lcells_get l k hlt).1
    have e3 : (k : Int).toNat * 2 < (lcells l).length := by rw [lcells_length]; omega
    have w2 : IntKind.i64.wrap ((k : Int) + 1) = ((k + 1 : Nat) : Int) := by rw [wrap_sm (by omega) (by omega)]; omega
    have hle := held_le l o k
    have h0k : (0 : Int) ≤ (k : Int) := by omega
    have h1k : (k : Int) < ((l.length : Nat) : Int) := by omega
    refine rn [(17, .ld [iT l[k].1])] rfl (by (repeat' (first | exact trivial | exact rfl | exact e2 | exact fun _ => e2 | first | exact e3 | exact h0k | exact h1k | decide | refine And.intro ?_ ?_))) ?_
    refine ⟨fun h => ?_, fun h => ?_⟩
    · have ho : (l[k].1 == o) = true := by simpa [polB] using h
      refine rn [] rfl (by (repeat' (first | exact trivial | exact rfl | exact trivial | exact fun _ => trivial | first | (simp only [maxLen]; omega) | omega | decide | refine And.intro ?_ ?_))) ?_
      refine roundEnd ⟨k + 1, by omega⟩ [(1, 3)] (by show l.length - (k + 1) < l.length - k; omega) (by (repeat' (first | exact trivial | exact rfl | exact w2 | exact fun _ => w2 | refine And.intro ?_ ?_))) ?_ rfl
      rw [held_succ l o k hlt, if_pos ho]
      repeat' (first | exact trivial | exact rfl | refine And.intro ?_ ?_)
      all_goals simp [ivs, app_eq, CV.den]
    · have ho : ¬ (l[k].1 == o) = true := by simpa [polB] using h
      refine rn [] rfl (by repeat' (first | exact trivial | exact rfl | refine And.intro ?_ ?_)) ?_
      refine roundEnd ⟨k + 1, by omega⟩ [] (by show l.length - (k + 1) < l.length - k; omega) (by (repeat' (first | exact trivial | exact rfl | exact w2 | exact fun _ => w2 | refine And.intro ?_ ?_))) ?_ rfl
      rw [held_succ l o k hlt, if_neg ho]
      repeat' (first | exact trivial | exact rfl | refine And.intro ?_ ?_)
  · have hlt : k = l.length := by have : ¬ (k : Int) < ((l.length : Nat) : Int) := of_decide_eq_false h; omega
    subst hlt
    refine rn [] rfl (by repeat' (first | exact trivial | exact rfl | refine And.intro ?_ ?_)) (roundExit rfl ?_)
    refine rnA [] rfl (by repeat' (first | exact trivial | exact rfl | refine And.intro ?_ ?_)) ?_
    exact retN tysOk [(nx, 1)] rfl (by simp only [retS, SV.eqs, eqsT, TV.eqs, CV.eqs, ren_one]; repeat' (first | exact trivial | exact rfl | refine And.intro ?_ ?_)) (by simp only [newsH, subH, ren_one]; repeat' (first | exact trivial | exact rfl | refine And.intro ?_ ?_)) (by simp [injK, keysH, newsH, inL]) rfl
theorem lbytes_take : ∀ (l : List Ls) (r : Nat), (lbytes l).take (4 * r) = lbytes (l.take r)
  | l, 0 => by simp [lbytes]
  | [], r + 1 => by simp [lbytes]
  | x :: l, r + 1 => by
    have : lbytes (x :: l) = lw x ++ lbytes l := rfl
    have h2 : lbytes (x :: l.take r) = lw x ++ lbytes (l.take r) := rfl
    rw [List.take_succ_cons, h2, ← lbytes_take l r, this, show 4 * (r + 1) = (lw x).length + 4 * r by rw [lw_length]; omega, List.take_length_add_append]
/-- A sector is its leases' bytes, and zeros. -/
theorem sec_chunk (l : List Ls) (j d : Nat) (hj : 16 * j < l.length) (hd : d = min 16 (l.length - 16 * j)) : sec (tz l l.length) j = lbytes ((l.drop (16 * j)).take d) ++ List.replicate (64 - 4 * d) 0 := by
  have hn : j < nsec l.length := by unfold nsec; omega
  unfold sec tz
  rw [List.take_length, List.drop_append_of_le_length (by rw [lbytes_length]; omega), show 64 * j = 4 * (16 * j) by omega, lbytes_drop, List.take_append, show (64 : Nat) = 4 * 16 from rfl, lbytes_take, lbytes_length, List.length_drop, List.take_replicate]
  congr 1
  · by_cases h : l.length - 16 * j ≤ 16
    · rw [List.take_of_length_le (by simp; omega), List.take_of_length_le (by simp; omega)]
    · rw [show d = 16 by omega]
  · congr 1
    unfold nsec at *
    omega
end Cw
namespace Cw
open Go Vc
open Go.Proofs
set_option maxRecDepth 100000
theorem chunk_succ (l : List Ls) (j d : Nat) (h : 16 * j + d < l.length) : lbytes ((l.drop (16 * j)).take (d + 1)) = lbytes ((l.drop (16 * j)).take d) ++ lw l[16 * j + d] := by
  rw [List.take_succ_eq_append_getElem (by simp; omega), lbytes_append]
  simp [lbytes]
theorem svs_append (a b : List ByteArray) : svs (a ++ b) = svs a ++ svs b := by simp [svs]
theorem repl_zeros (n : Nat) : (repl n [CV.i .u8 0]).map (CV.den e0) = (S (List.replicate n 0)).data.toList.map (fun c : UInt8 => Value.int .u8 c.toNat) := by
  rw [repl_map, S_data]
  simp [CV.den]
set_option maxRecDepth 100000 in
set_option maxHeartbeats 4000000 in
theorem rsecs_h (l : List Ls) (hall : l.all (fun x => tok x.1 x.2) = true) (hz : l.length ≤ 1000000) {H : HL} {nx : Nat} {v : TV} (hv : SlR H v l.length 2 (lcells l)) :
    FnH Tryz.prog 27 [v] H nx ⟨.t (.c (.nm nx)), [(true, .own 9 1 (nsec l.length) (svs (tsecs (tz l l.length) (nsec l.length))))], [], []⟩ := by
  refine fnN (fn := Tryz.f27) 44 rfl rfl rfl (args' := [.c (.nm 0)]) (H' := [(0, some (false, .rd 2 l.length (lcells l)))]) (nx' := 1) (fun e w M => ?_) rfl rfl rfl (inR_one nx) rfl fun w => ?_
  · obtain ⟨e', M', q1⟩ := slr1 hv e w M
    exact ⟨e', M', by simp [q1]⟩
  have hsl := secs_length (tz l l.length) (nsec l.length)
  have hns : nsec l.length ≤ 1000000 := by unfold nsec; omega
  refine rn [] rfl (by repeat' (first | exact trivial | exact rfl | refine And.intro ?_ ?_)) ?_
  refine At.nil 3 9 1 rfl ?_
  refine At.loop (X := (j : Nat) ×' (j ≤ nsec l.length)) 2 (fun j => nsec l.length - j.1)
    (fun j => [(0, .t (.c (.nm 0))), (3, .t (.c (.nm 1))), (4, .t (.c (iT (16 * j.1 : Nat))))])
    (fun j => [(0, some (false, .rd 2 l.length (lcells l))), (1, some (true, .own 9 1 j.1 (svs ((tsecs (tz l l.length) (nsec l.length)).take j.1))))]) ⟨0, by omega⟩ [] (fun k => wf rfl rfl) (by repeat' (first | exact trivial | exact rfl | refine And.intro ?_ ?_)) (by repeat' (first | exact trivial | exact rfl | refine And.intro ?_ ?_)) rfl fun j => ?_
  obtain ⟨j, hj⟩ := j
  refine rn [] rfl (by repeat' (first | exact trivial | exact rfl | refine And.intro ?_ ?_)) ?_
  refine ⟨fun h => ?_, fun h => ?_⟩
  · have hlt : 16 * j < l.length := by have : ((16 * j : Nat) : Int) < ((l.length : Nat) : Int) := of_decide_eq_true h; omega
    have hjn : j < nsec l.length := by unfold nsec; omega
    refine rn [] rfl (by repeat' (first | exact trivial | exact rfl | refine And.intro ?_ ?_)) ?_
    refine At.loop (X := (d : Nat) ×' (d ≤ min 16 (l.length - 16 * j))) 2 (fun d => 16 - d.1)
      (fun d => [(0, .t (.c (.nm 0))), (3, .t (.c (.nm 1))), (4, .t (.c (iT (16 * j : Nat)))), (5, .t (.c (.s (S (lbytes ((l.drop (16 * j)).take d.1)))))), (6, .t (.c (iT (16 * j + d.1 : Nat))))])
      (fun d => [(0, some (false, .rd 2 l.length (lcells l))), (1, some (true, .own 9 1 j (svs ((tsecs (tz l l.length) (nsec l.length)).take j))))]) ⟨0, by omega⟩ [] (fun k => wf rfl rfl) (by repeat' (first | exact trivial | exact rfl | refine And.intro ?_ ?_)) (by repeat' (first | exact trivial | exact rfl | refine And.intro ?_ ?_)) rfl fun d => ?_
    obtain ⟨d, hd⟩ := d
    have w16 : IntKind.i64.wrap (((16 * j : Nat) : Int) + 16) = ((16 * j + 16 : Nat) : Int) := by rw [wrap_sm (by omega) (by omega)]; omega
    refine rn [] rfl (by repeat' (first | exact trivial | exact rfl | refine And.intro ?_ ?_)) ?_
    refine ⟨fun h => ?_, fun h => ?_⟩
    · have h1 : ((16 * j + d : Nat) : Int) < IntKind.i64.wrap (((16 * j : Nat) : Int) + 16) := of_decide_eq_true (Bool.and_eq_true_iff.1 h).1
      have h2 : ((16 * j + d : Nat) : Int) < ((l.length : Nat) : Int) := of_decide_eq_true (Bool.and_eq_true_iff.1 h).2
      rw [w16] at h1
      have hd1 : d < 16 := by omega
      have hlk : 16 * j + d < l.length := by omega
      have hok : tok l[16 * j + d].1 l[16 * j + d].2 = true := List.all_eq_true.1 hall _ (List.getElem_mem hlk)
      have e1 : (lcells l)[((16 * j + d : Nat) : Int).toNat * 2]? = some (.int .i64 l[16 * j + d].1) := (lcells_get l _ hlk).1
      have e2 : (lcells l)[((16 * j + d : Nat) : Int).toNat * 2 + 1]? = some (.int .i64 l[16 * j + d].2) := (lcells_get l _ hlk).2
      have b0 : (0 : Int) ≤ ((16 * j + d : Nat) : Int) := by omega
      have w1 : IntKind.i64.wrap (((16 * j + d : Nat) : Int) + 1) = ((16 * j + (d + 1) : Nat) : Int) := by rw [wrap_sm (by omega) (by omega)]; omega
      have hsz : (S (lbytes ((l.drop (16 * j)).take d))).size + (S (lw l[16 * j + d])).size ≤ 9223372036854775807 := by
        rw [S_size, S_size, lbytes_length, lw_length, List.length_take]
        omega
      refine rn [(30, .ld [iT l[16 * j + d].1, iT l[16 * j + d].2]), (31, .ret (.t (.c (.s (S (lw l[16 * j + d]))))))] rfl (by (repeat' (first | exact trivial | exact rfl | exact e1 | exact fun _ => e1 | first | exact e2 | exact b0 | exact h2 | exact rtext0 _ hok | exact hsz | decide | refine And.intro ?_ ?_))) ?_
      refine roundEnd ⟨d + 1, by omega⟩ [] (by show 16 - (d + 1) < 16 - d; omega) ?_ (by repeat' (first | exact trivial | exact rfl | refine And.intro ?_ ?_)) rfl
      (repeat' (first | exact trivial | exact rfl | exact w1 | exact fun _ => w1 | refine And.intro ?_ ?_))
      show S _ ++ S _ = S (lbytes ((l.drop (16 * j)).take (d + 1)))
      rw [chunk_succ l j d hlk, S_append]
    · have hdd : d = min 16 (l.length - 16 * j) := by
        have h' : ¬ (((16 * j + d : Nat) : Int) < IntKind.i64.wrap (((16 * j : Nat) : Int) + 16) ∧ ((16 * j + d : Nat) : Int) < ((l.length : Nat) : Int)) := fun hh => by
          have : (decide (((16 * j + d : Nat) : Int) < IntKind.i64.wrap (((16 * j : Nat) : Int) + 16)) && decide (((16 * j + d : Nat) : Int) < ((l.length : Nat) : Int))) = false := h
          rw [decide_eq_true hh.1, decide_eq_true hh.2] at this
          cases this
        rw [w16] at h'
        omega
      have hcl : (S (lbytes ((l.drop (16 * j)).take d))).size = 4 * d := by rw [S_size, lbytes_length, List.length_take, List.length_drop]; omega
      have w64 : IntKind.i64.wrap (64 - ((S (lbytes ((l.drop (16 * j)).take d))).size : Int)) = ((64 - 4 * d : Nat) : Int) := by rw [hcl, wrap_sm (by omega) (by omega)]; omega
      have hrz := repl_zeros (64 - 4 * d)
      have hsz2 : (S (List.replicate (64 - 4 * d) 0)).size = 64 - 4 * d := by rw [S_size, List.length_replicate]
      have w2 : IntKind.i64.wrap (((16 * j : Nat) : Int) + 16) = ((16 * (j + 1) : Nat) : Int) := by rw [w16]; omega
      refine rn [] rfl (by repeat' (first | exact trivial | exact rfl | refine And.intro ?_ ?_)) (roundExit rfl ?_)
      refine rnA [(39, .ret (.t (.c (.s (S (List.replicate (64 - 4 * d) 0))))))] rfl ?_ ?_
      · repeat' (first | exact trivial | exact rfl | refine And.intro ?_ ?_)
        all_goals first
          | (show (repl (IntKind.i64.wrap (64 - ((S (lbytes ((l.drop (16 * j)).take d))).size : Int))).toNat [CV.i .u8 0]).map (CV.den e0) = _; rw [w64]; exact hrz)
          | (show (IntKind.i64.wrap (64 - ((S (lbytes ((l.drop (16 * j)).take d))).size : Int))).toNat = _; rw [w64, hsz2]; rfl)
          | (show (S (lbytes ((l.drop (16 * j)).take d))).size + (S (List.replicate (64 - 4 * d) 0)).size ≤ _; rw [hcl, hsz2]; omega)
          | (rw [w64]; first | omega | (simp [maxLen]; omega) | simp)
          | (simp only [maxLen]; omega)
          | omega
          | decide
      · refine roundEnd ⟨j + 1, by omega⟩ [(1, 4)] (by show nsec l.length - (j + 1) < nsec l.length - j; omega) (by (repeat' (first | exact trivial | exact rfl | exact w2 | exact fun _ => w2 | refine And.intro ?_ ?_))) ?_ rfl
        repeat' (first | exact trivial | exact rfl | refine And.intro ?_ ?_)
        rw [app_eq, List.take_succ_eq_append_getElem (by rw [hsl]; exact hjn), secs_get, svs_append, sec_chunk l j d hlt hdd, ← S_append]
        rfl
  · have hjj : j = nsec l.length := by
      have : ¬ ((16 * j : Nat) : Int) < ((l.length : Nat) : Int) := of_decide_eq_false h
      unfold nsec at *
      omega
    subst hjj
    refine rn [] rfl (by repeat' (first | exact trivial | exact rfl | refine And.intro ?_ ?_)) (roundExit rfl ?_)
    refine rnA [] rfl (by repeat' (first | exact trivial | exact rfl | refine And.intro ?_ ?_)) ?_
    exact retN tysOk [(nx, 1)] rfl (by simp only [retS, SV.eqs, eqsT, TV.eqs, CV.eqs, ren_one]; repeat' (first | exact trivial | exact rfl | refine And.intro ?_ ?_)) (by simp only [newsH, subH, ren_one]; rw [List.take_of_length_le (by rw [hsl]; exact Nat.le_refl _)]; repeat' (first | exact trivial | exact rfl | refine And.intro ?_ ?_)) (by simp [injK, keysH, newsH, inL]) rfl
end Cw
namespace Cw
open Go Vc
open Go.Proofs
set_option maxRecDepth 100000
end Cw
namespace Cw
open Go Vc
open Go.Proofs
set_option maxRecDepth 100000
theorem ext_list (s : ByteArray) (o : Nat) : (s.extract o s.size).data.toList = s.data.toList.drop o := by
  rw [ByteArray.data_extract, Array.toList_extract, List.extract_eq_take_drop, List.take_of_length_le]
  have h2 : s.data.toList.length = s.size := by simp
  rw [List.length_drop]
  omega
theorem ext_size {s : ByteArray} {o : Nat} (h : s.size = 64) (ho : o ≤ 60) : (s.extract o s.size).size = 64 - o := by
  have := congrArg List.length (ext_list s o)
  rw [List.length_drop] at this
  have h1 : (s.extract o s.size).data.toList.length = (s.extract o s.size).size := by rw [Array.length_toList]; rfl
  have h2 : s.data.toList.length = s.size := by simp
  omega
theorem sub_dle {s : ByteArray} {o : Nat} (h : s.size = 64) (ho : o ≤ 60) : IntKind.i64.wrap (byteAt (s.extract o s.size) (Int.toNat 0)) = (dle s o).1 ∧ ((numAt (s.extract o s.size) 1 3 : Nat) : Int) = (dle s o).2 := by
  have hz := ext_size h ho
  have e1 : numAt (s.extract o s.size) 0 1 = numAt s o 1 := by simp only [numAt, ext_list, List.drop_zero]
  have e2 : numAt (s.extract o s.size) 1 3 = numAt s (o + 1) 3 := by simp only [numAt, ext_list, List.drop_drop]
  have e3 : numAt s o 4 = s[o].toNat + 256 * numAt s (o + 1) 3 := num_cons s o 4 0 (by omega) (by omega)
  have e4 := num1 s o (by omega)
  have hb := s[o].toNat_lt
  have e5 : byteAt (s.extract o s.size) (Int.toNat 0) = (numAt (s.extract o s.size) 0 1 : Nat) := byteAt_num _ 0 (by omega)
  refine ⟨?_, ?_⟩
  · rw [e5, e1, e4, IntKind.wrap_i64]
    unfold dle
    rw [e3]
    show _ = (((s[o].toNat + 256 * numAt s (o + 1) 3) % 256 : Nat) : Int)
    omega
  · rw [e2]
    unfold dle
    rw [e3]
    show _ = (((s[o].toNat + 256 * numAt s (o + 1) 3) / 256 : Nat) : Int)
    omega
theorem rshape {n : Nat} (h : n ≤ 132) : IntKind.i64.wrap ((IntKind.i64.wrap (IntKind.i64.wrap ((n : Int) + 16) - 1)).tdiv 16) = ((nsec n : Nat) : Int) := by
  rw [wrap_sm (x := (n : Int) + 16) (by omega) (by omega), wrap_sm (x := (n : Int) + 16 - 1) (by omega) (by omega), Int.tdiv_eq_ediv_of_nonneg (by omega), wrap_sm (by omega) (by omega)]
  unfold nsec
  omega
/-- A round of the second loop: what is read. -/
theorem read_facts {T : List ByteArray} {n r : Nat} (hT : T.length = nsec n) (hlt : r < n) (hn9 : n ≤ 132) : ∃ hq : r / 16 < T.length,
    IntKind.i64.wrap ((r : Int).tdiv 16) = ((r / 16 : Nat) : Int) ∧ IntKind.i64.wrap ((r : Int).tmod 16 * 4) = ((r % 16 * 4 : Nat) : Int) ∧ (svs T)[(IntKind.i64.wrap ((r : Int).tdiv 16)).toNat * 1]? = some (.string (T[r / 16]'hq)) := by
  have hq : r / 16 < T.length := by rw [hT]; unfold nsec; omega
  have e1 : IntKind.i64.wrap ((r : Int).tdiv 16) = ((r / 16 : Nat) : Int) := by rw [Int.tdiv_eq_ediv_of_nonneg (by omega), wrap_sm (by omega) (by omega)]; omega
  have e2 : IntKind.i64.wrap ((r : Int).tmod 16 * 4) = ((r % 16 * 4 : Nat) : Int) := by rw [Int.tmod_eq_emod_of_nonneg (by omega), wrap_sm (by omega) (by omega)]; omega
  exact ⟨hq, e1, e2, by rw [e1, Int.toNat_natCast, Nat.mul_one, svs_at hq]⟩
set_option maxRecDepth 100000 in
set_option maxHeartbeats 4000000 in
theorem rdec_no80 {a b c : Int} {n : Nat} (T : List ByteArray) (hg : Gok a b c) (hn : gregions a b c = (n : Nat)) (hT : T.length = nsec n) (hd : ¬ Tdok T n) {H : HL} {nx : Nat} {v : TV} (hv : SlR H v T.length 1 (svs T)) :
    FnH Tryz.prog 59 [geoT a b c, v] H nx ⟨.tup [.c .nsl, .c (iT 80)], [], [], []⟩ := by
  obtain ⟨hr2, hr9⟩ := regions_two hg hn
  have hnm : 1 ≤ nsec n ∧ nsec n ≤ 9 := by unfold nsec; omega
  have hreg := rregions0 a b c
  rw [hn] at hreg
  have hs : (((n : Nat) : Int) == 0 || ((T.length : Nat) : Int) != IntKind.i64.wrap ((IntKind.i64.wrap (IntKind.i64.wrap ((n : Int) + 16) - 1)).tdiv 16)) = false := by
    rw [rshape (by omega), hT, Bool.or_eq_false_iff]
    exact ⟨by simp; omega, by simp⟩
  refine fnR (fn := Tryz.f59) 84 rfl rfl rfl (args' := [geoT a b c, .c (.nm 0)]) (H' := [(0, some (false, .rd 1 T.length (svs T)))]) (nx' := 1) (fun e w M => ?_) rfl rfl rfl rfl fun w => ?_
  · obtain ⟨e', M', q1⟩ := slr1 hv e w M
    exact ⟨e', M', by simp [q1]; rfl⟩
  refine rn [(15, .ret (.t (.c (iT (n : Nat))))), (26, .dec false)] rfl (by (repeat' (first | exact trivial | exact rfl | exact hreg | exact fun _ => hreg | first | exact hs | decide | exact fun _ => by decide | refine And.intro ?_ ?_))) ?_
  refine At.nil 7 46 2 rfl ?_
  refine At.loop (X := (i : Nat) ×' (i ≤ T.length ∧ ∀ k (h : k < T.length), k < i → T[k].size = 64)) 3 (fun x => T.length - x.1)
    (fun x => [(1, .t (.c (.nm 0))), (2, .t (.c (.p 1 0))), (6, .t (.c (iT (n : Nat)))), (7, .t (.c (.nm 2))), (8, .t (.c (iT (x.1 : Nat))))])
    (fun x => [(0, some (false, .rd 1 T.length (svs T))), (1, some (true, .cells [iT a, iT b, iT c] 23)), (2, some (true, .own 46 2 0 []))]) ⟨0, by omega, fun k h hk => by omega⟩ [] (fun r => wf rfl rfl) (by repeat' (first | exact trivial | exact rfl | refine And.intro ?_ ?_)) (by repeat' (first | exact trivial | exact rfl | refine And.intro ?_ ?_)) rfl fun x => ?_
  obtain ⟨i, hi, h64⟩ := x
  refine rn [] rfl (by repeat' (first | exact trivial | exact rfl | refine And.intro ?_ ?_)) ?_
  refine ⟨fun h => ?_, fun h => ?_⟩
  · have hlt : i < T.length := by have : (i : Int) < ((T.length : Nat) : Int) := of_decide_eq_true h; omega
    have e1 : (svs T)[(i : Int).toNat * 1]? = some (.string T[i]) := by rw [Int.toNat_natCast, Nat.mul_one, svs_at hlt]
    have b0 : (0 : Int) ≤ (i : Int) := by omega
    have b1 : (i : Int) < ((T.length : Nat) : Int) := by omega
    have w1 : IntKind.i64.wrap ((i : Int) + 1) = ((i + 1 : Nat) : Int) := by rw [wrap_sm (by omega) (by omega)]; omega
    refine rn [(36, .ld [.s T[i]])] rfl (by (repeat' (first | exact trivial | exact rfl | exact e1 | exact fun _ => e1 | first | exact b0 | exact b1 | decide | refine And.intro ?_ ?_))) ?_
    refine ⟨fun h => ?_, fun h => ?_⟩
    · refine rn [] rfl (by repeat' (first | exact trivial | exact rfl | refine And.intro ?_ ?_)) (roundRet ?_)
      exact ret0 tysOk rfl (by repeat' (first | exact trivial | exact rfl | refine And.intro ?_ ?_)) rfl
    · have hs64 : T[i].size = 64 := by simp at h; omega
      refine rn [] rfl (by repeat' (first | exact trivial | exact rfl | refine And.intro ?_ ?_)) ?_
      exact roundEnd ⟨i + 1, by omega, fun k hk hk2 => by
        by_cases e : k = i
        · subst e; exact hs64
        · exact h64 k hk (by omega)⟩ [] (by show T.length - (i + 1) < T.length - i; omega) (by (repeat' (first | exact trivial | exact rfl | exact w1 | exact fun _ => w1 | refine And.intro ?_ ?_))) (by repeat' (first | exact trivial | exact rfl | refine And.intro ?_ ?_)) rfl
  · have hii : i = T.length := by have : ¬ (i : Int) < ((T.length : Nat) : Int) := of_decide_eq_false h; omega
    have hall64 : ∀ s ∈ T, s.size = 64 := fun s hs => by
      obtain ⟨k, hk, rfl⟩ := List.mem_iff_getElem.1 hs
      exact h64 k hk (by omega)
    clear h
    refine rn [] rfl (by repeat' (first | exact trivial | exact rfl | refine And.intro ?_ ?_)) (roundExit rfl ?_)
    refine rnA [] rfl (by repeat' (first | exact trivial | exact rfl | refine And.intro ?_ ?_)) ?_
    refine At.loop (X := (r : Nat) ×' (r ≤ n ∧ (dl T r).all (fun x => tok x.1 x.2) = true)) 3 (fun x => n - x.1)
      (fun x => [(1, .t (.c (.nm 0))), (2, .t (.c (.p 1 0))), (6, .t (.c (iT (n : Nat)))), (7, .t (.c (.nm 2))), (9, .t (.c (iT (x.1 : Nat))))])
      (fun x => [(0, some (false, .rd 1 T.length (svs T))), (1, some (true, .cells [iT a, iT b, iT c] 23)), (2, some (true, .own 46 2 x.1 (lcells (dl T x.1))))]) ⟨0, by omega, rfl⟩ [] (fun r => wf rfl rfl) (by repeat' (first | exact trivial | exact rfl | refine And.intro ?_ ?_)) (by repeat' (first | exact trivial | exact rfl | refine And.intro ?_ ?_)) rfl fun x => ?_
    obtain ⟨r, hr, hok⟩ := x
    refine rn [] rfl (by repeat' (first | exact trivial | exact rfl | refine And.intro ?_ ?_)) ?_
    refine ⟨fun h => ?_, fun h => ?_⟩
    · have hlt : r < n := by have : (r : Int) < ((n : Nat) : Int) := of_decide_eq_true h; omega
      obtain ⟨hq, f1, f2, f3⟩ := read_facts hT hlt hr9
      have hs64 := hall64 _ (List.getElem_mem hq)
      have ho : r % 16 * 4 ≤ 60 := by omega
      obtain ⟨g1, g2⟩ := sub_dle hs64 ho
      have hz := ext_size hs64 ho
      have hnum := num0 ((T[r / 16]'hq).extract (r % 16 * 4) (T[r / 16]'hq).size) 1 3 (by decide) (by omega) (by omega)
      have hmay := rmay0 (dle (T[r / 16]'hq) (r % 16 * 4))
      generalize hres : tok (dle (T[r / 16]'hq) (r % 16 * 4)).1 (dle (T[r / 16]'hq) (r % 16 * 4)).2 = res at hmay
      rw [lT, ← g1, ← g2] at hmay
      have b0 : 0 ≤ IntKind.i64.wrap ((r : Int).tdiv 16) := by omega
      have b1 : IntKind.i64.wrap ((r : Int).tdiv 16) < ((T.length : Nat) : Int) := by omega
      have w1 : IntKind.i64.wrap ((r : Int) + 1) = ((r + 1 : Nat) : Int) := by rw [wrap_sm (by omega) (by omega)]; omega
      have hto : (IntKind.i64.wrap ((r : Int).tmod 16 * 4)).toNat = r % 16 * 4 := by rw [f2]; rfl
      have b2 : 0 ≤ IntKind.i64.wrap ((r : Int).tmod 16 * 4) ∧ IntKind.i64.wrap ((r : Int).tmod 16 * 4) ≤ ((T[r / 16]'hq).size : Int) := by omega
      have b3 : (0 : Int) < (((T[r / 16]'hq).extract (r % 16 * 4) (T[r / 16]'hq).size).size : Int) := by omega
      rw [← hto] at hnum hmay b3
      refine rn [(48, .ld [.s (T[r / 16]'hq)]), (57, .ret (.t (.c (iT (numAt ((T[r / 16]'hq).extract (IntKind.i64.wrap ((r : Int).tmod 16 * 4)).toNat (T[r / 16]'hq).size) 1 3 : Nat))))), (60, .ret (.t (.c (.b res))))] rfl ?_ ?_
      · repeat' (first | exact trivial | exact rfl | exact f3 | exact hnum | exact hmay | exact b0 | exact b1 | exact b2 | exact b3 | (show (16 : Int) ≠ 0; decide) | (show (0 : Int) ≤ 0; decide) | refine And.intro ?_ ?_)
        all_goals decide
      refine ⟨fun h => ?_, fun h => ?_⟩
      · refine rn [] rfl (by repeat' (first | exact trivial | exact rfl | refine And.intro ?_ ?_)) (roundRet ?_)
        exact ret0 tysOk rfl (by repeat' (first | exact trivial | exact rfl | refine And.intro ?_ ?_)) rfl
      · have hk : tok (dle (T[r / 16]'hq) (r % 16 * 4)).1 (dle (T[r / 16]'hq) (r % 16 * 4)).2 = true := hres.trans (by simpa using h)
        refine rn [] rfl (by (repeat' (first | exact trivial | exact rfl | exact trivial | exact fun _ => trivial | first | (simp only [maxLen]; omega) | omega | decide | refine And.intro ?_ ?_))) ?_
        refine roundEnd ⟨r + 1, by omega, by rw [dl_succ, getD_at hq, List.all_append, hok]; simp [hk]⟩ [(2, 5)] (by show n - (r + 1) < n - r; omega) (by (repeat' (first | exact trivial | exact rfl | exact w1 | exact fun _ => w1 | refine And.intro ?_ ?_))) ?_ rfl
        repeat' (first | exact trivial | exact rfl | refine And.intro ?_ ?_)
        rw [app_eq, dl_succ, lcells_append, getD_at hq, hto]
        congr 1
        show [Value.int .i64 _, Value.int .i64 _] = [Value.int .i64 _, Value.int .i64 _]
        rw [g1, g2]
    · have hrr : r = n := by have : ¬ (r : Int) < ((n : Nat) : Int) := of_decide_eq_false h; omega
      subst hrr
      have hl := dl_length T r
      refine rn [] rfl (by repeat' (first | exact trivial | exact rfl | refine And.intro ?_ ?_)) (roundExit rfl ?_)
      have hsec := rsecs_h (dl T r) hok (by omega) (H := [(0, some (false, .rd 1 T.length (svs T))), (1, some (true, .cells [iT a, iT b, iT c] 23)), (2, some (true, .own 46 2 r (lcells (dl T r))))]) (nx := 3) (v := .c (.nm 2)) (by rw [hl]; exact SlR.own rfl)
      rw [hl] at hsec
      refine rnA [(67, .spec ⟨.t (.c (.nm 3)), [(true, .own 9 1 (nsec r) (svs (tsecs (tz (dl T r) r) (nsec r))))], [], []⟩)] rfl ?_ ?_
      · repeat' (first | exact trivial | exact rfl | exact hsec | refine And.intro ?_ ?_)
      have hwl := secs_length (tz (dl T r) r) (nsec r)
      have hne : tsecs (tz (dl T r) r) (nsec r) ≠ T := fun h => hd ⟨hall64, hok, h⟩
      generalize tsecs (tz (dl T r) r) (nsec r) = W at hwl hne
      refine At.loop (X := (i : Nat) ×' (i ≤ W.length ∧ W.take i = T.take i)) 4 (fun x => W.length - x.1)
        (fun x => [(1, .t (.c (.nm 0))), (12, .t (.c (.nm 3))), (13, .t (.c (iT (x.1 : Nat))))])
        (fun x => [(0, some (false, .rd 1 T.length (svs T))), (3, some (true, .own 9 1 (nsec r) (svs W)))]) ⟨0, by omega, rfl⟩ [] (fun r => wf rfl rfl) (by repeat' (first | exact trivial | exact rfl | refine And.intro ?_ ?_)) (by repeat' (first | exact trivial | exact rfl | refine And.intro ?_ ?_)) rfl fun x => ?_
      obtain ⟨i, hi, heq⟩ := x
      refine rn [] rfl (by repeat' (first | exact trivial | exact rfl | refine And.intro ?_ ?_)) ?_
      refine ⟨fun h => ?_, fun h => ?_⟩
      · have hlt : i < W.length := by have : (i : Int) < ((nsec r : Nat) : Int) := of_decide_eq_true h; omega
        have hlt2 : i < T.length := by omega
        have e1 : (svs W)[(i : Int).toNat * 1]? = some (.string W[i]) := by rw [Int.toNat_natCast, Nat.mul_one, svs_at hlt]
        have e2 : (svs T)[(i : Int).toNat * 1]? = some (.string T[i]) := by rw [Int.toNat_natCast, Nat.mul_one, svs_at hlt2]
        have b0 : (0 : Int) ≤ (i : Int) := by omega
        have b1 : (i : Int) < ((T.length : Nat) : Int) := by omega
        have b2 : (i : Int) < ((nsec r : Nat) : Int) := by omega
        have w1 : IntKind.i64.wrap ((i : Int) + 1) = ((i + 1 : Nat) : Int) := by rw [wrap_sm (by omega) (by omega)]; omega
        refine rn [(77, .ld [.s W[i]]), (81, .ld [.s T[i]])] rfl (by (repeat' (first | exact trivial | exact rfl | exact e1 | exact fun _ => e1 | first | exact e2 | exact b0 | exact b1 | exact b2 | decide | refine And.intro ?_ ?_))) ?_
        refine ⟨fun h => ?_, fun h => ?_⟩
        · refine rn [] rfl (by repeat' (first | exact trivial | exact rfl | refine And.intro ?_ ?_)) (roundRet ?_)
          exact ret0 tysOk rfl (by repeat' (first | exact trivial | exact rfl | refine And.intro ?_ ?_)) rfl
        · have he : W[i] = T[i] := by simp [bt_iff2] at h; exact h
          refine rn [] rfl (by repeat' (first | exact trivial | exact rfl | refine And.intro ?_ ?_)) ?_
          exact roundEnd ⟨i + 1, by omega, by rw [List.take_succ_eq_append_getElem hlt, List.take_succ_eq_append_getElem hlt2, heq, he]⟩ [] (by show W.length - (i + 1) < W.length - i; omega) (by (repeat' (first | exact trivial | exact rfl | exact w1 | exact fun _ => w1 | refine And.intro ?_ ?_))) (by repeat' (first | exact trivial | exact rfl | refine And.intro ?_ ?_)) rfl
      · have hii : i = W.length := by have : ¬ (i : Int) < ((nsec r : Nat) : Int) := of_decide_eq_false h; omega
        subst hii
        rw [List.take_length, List.take_of_length_le (by omega)] at heq
        exact absurd heq hne
set_option maxRecDepth 100000 in
set_option maxHeartbeats 4000000 in
theorem rdec_h {a b c : Int} {n : Nat} (T : List ByteArray) (hg : Gok a b c) (hn : gregions a b c = (n : Nat)) (hT : T.length = nsec n) (hd : Tdok T n) {H : HL} {nx : Nat} {v : TV} (hv : SlR H v T.length 1 (svs T)) :
    FnH Tryz.prog 59 [geoT a b c, v] H nx ⟨.tup [.c (.nm nx), .c (iT 0)], [(true, .own 46 2 n (lcells (dl T n)))], [], []⟩ := by
  obtain ⟨hr2, hr9⟩ := regions_two hg hn
  obtain ⟨hall64, hall, hsame⟩ := hd
  have hnm : 1 ≤ nsec n ∧ nsec n ≤ 9 := by unfold nsec; omega
  have hreg := rregions0 a b c
  rw [hn] at hreg
  have hs : (((n : Nat) : Int) == 0 || ((T.length : Nat) : Int) != IntKind.i64.wrap ((IntKind.i64.wrap (IntKind.i64.wrap ((n : Int) + 16) - 1)).tdiv 16)) = false := by
    rw [rshape (by omega), hT, Bool.or_eq_false_iff]
    exact ⟨by simp; omega, by simp⟩
  refine fnN (fn := Tryz.f59) 84 rfl rfl rfl (args' := [geoT a b c, .c (.nm 0)]) (H' := [(0, some (false, .rd 1 T.length (svs T)))]) (nx' := 1) (fun e w M => ?_) rfl rfl rfl (inR_one nx) rfl fun w => ?_
  · obtain ⟨e', M', q1⟩ := slr1 hv e w M
    exact ⟨e', M', by simp [q1]; rfl⟩
  refine rn [(15, .ret (.t (.c (iT (n : Nat))))), (26, .dec false)] rfl (by (repeat' (first | exact trivial | exact rfl | exact hreg | exact fun _ => hreg | first | exact hs | decide | exact fun _ => by decide | refine And.intro ?_ ?_))) ?_
  refine At.nil 7 46 2 rfl ?_
  refine At.loop (X := (i : Nat) ×' (i ≤ T.length)) 3 (fun x => T.length - x.1)
    (fun x => [(1, .t (.c (.nm 0))), (2, .t (.c (.p 1 0))), (6, .t (.c (iT (n : Nat)))), (7, .t (.c (.nm 2))), (8, .t (.c (iT (x.1 : Nat))))])
    (fun x => [(0, some (false, .rd 1 T.length (svs T))), (1, some (true, .cells [iT a, iT b, iT c] 23)), (2, some (true, .own 46 2 0 []))]) ⟨0, by omega⟩ [] (fun r => wf rfl rfl) (by repeat' (first | exact trivial | exact rfl | refine And.intro ?_ ?_)) (by repeat' (first | exact trivial | exact rfl | refine And.intro ?_ ?_)) rfl fun x => ?_
  obtain ⟨i, hi⟩ := x
  refine rn [] rfl (by repeat' (first | exact trivial | exact rfl | refine And.intro ?_ ?_)) ?_
  refine ⟨fun h => ?_, fun h => ?_⟩
  · have hlt : i < T.length := by have : (i : Int) < ((T.length : Nat) : Int) := of_decide_eq_true h; omega
    have e1 : (svs T)[(i : Int).toNat * 1]? = some (.string T[i]) := by rw [Int.toNat_natCast, Nat.mul_one, svs_at hlt]
    have b0 : (0 : Int) ≤ (i : Int) := by omega
    have b1 : (i : Int) < ((T.length : Nat) : Int) := by omega
    have c38 : ((T[i].size : Int) != 64) = false := by
      have := hall64 _ (List.getElem_mem hlt)
      simp [this]
    have w1 : IntKind.i64.wrap ((i : Int) + 1) = ((i + 1 : Nat) : Int) := by rw [wrap_sm (by omega) (by omega)]; omega
    refine rn [(36, .ld [.s T[i]]), (38, .dec false)] rfl (by (repeat' (first | exact trivial | exact rfl | exact e1 | exact fun _ => e1 | first | exact b0 | exact b1 | exact c38 | decide | refine And.intro ?_ ?_))) ?_
    exact roundEnd ⟨i + 1, by omega⟩ [] (by show T.length - (i + 1) < T.length - i; omega) (by (repeat' (first | exact trivial | exact rfl | exact w1 | exact fun _ => w1 | refine And.intro ?_ ?_))) (by repeat' (first | exact trivial | exact rfl | refine And.intro ?_ ?_)) rfl
  · clear h
    refine rn [] rfl (by repeat' (first | exact trivial | exact rfl | refine And.intro ?_ ?_)) (roundExit rfl ?_)
    refine rnA [] rfl (by repeat' (first | exact trivial | exact rfl | refine And.intro ?_ ?_)) ?_
    refine At.loop (X := (r : Nat) ×' (r ≤ n)) 3 (fun x => n - x.1)
      (fun x => [(1, .t (.c (.nm 0))), (2, .t (.c (.p 1 0))), (6, .t (.c (iT (n : Nat)))), (7, .t (.c (.nm 2))), (9, .t (.c (iT (x.1 : Nat))))])
      (fun x => [(0, some (false, .rd 1 T.length (svs T))), (1, some (true, .cells [iT a, iT b, iT c] 23)), (2, some (true, .own 46 2 x.1 (lcells (dl T x.1))))]) ⟨0, by omega⟩ [] (fun r => wf rfl rfl) (by repeat' (first | exact trivial | exact rfl | refine And.intro ?_ ?_)) (by repeat' (first | exact trivial | exact rfl | refine And.intro ?_ ?_)) rfl fun x => ?_
    obtain ⟨r, hr⟩ := x
    refine rn [] rfl (by repeat' (first | exact trivial | exact rfl | refine And.intro ?_ ?_)) ?_
    refine ⟨fun h => ?_, fun h => ?_⟩
    · have hlt : r < n := by have : (r : Int) < ((n : Nat) : Int) := of_decide_eq_true h; omega
      obtain ⟨hq, f1, f2, f3⟩ := read_facts hT hlt hr9
      have hs64 := hall64 _ (List.getElem_mem hq)
      have ho : r % 16 * 4 ≤ 60 := by omega
      obtain ⟨g1, g2⟩ := sub_dle hs64 ho
      have hz := ext_size hs64 ho
      have hnum := num0 ((T[r / 16]'hq).extract (r % 16 * 4) (T[r / 16]'hq).size) 1 3 (by decide) (by omega) (by omega)
      have hmay := rmay0 (dle (T[r / 16]'hq) (r % 16 * 4))
      have hres : tok (dle (T[r / 16]'hq) (r % 16 * 4)).1 (dle (T[r / 16]'hq) (r % 16 * 4)).2 = true := by
        have h1 : (dl T n)[r]'(by rw [dl_length]; exact hlt) = dle (T[r / 16]'hq) (r % 16 * 4) := by
          simp only [dl, List.getElem_map, List.getElem_range, getD_at hq]
        rw [← h1]
        exact List.all_eq_true.1 hall _ (List.getElem_mem _)
      rw [hres] at hmay
      rw [lT, ← g1, ← g2] at hmay
      have b0 : 0 ≤ IntKind.i64.wrap ((r : Int).tdiv 16) := by omega
      have b1 : IntKind.i64.wrap ((r : Int).tdiv 16) < ((T.length : Nat) : Int) := by omega
      have w1 : IntKind.i64.wrap ((r : Int) + 1) = ((r + 1 : Nat) : Int) := by rw [wrap_sm (by omega) (by omega)]; omega
      have hto : (IntKind.i64.wrap ((r : Int).tmod 16 * 4)).toNat = r % 16 * 4 := by rw [f2]; rfl
      have b2 : 0 ≤ IntKind.i64.wrap ((r : Int).tmod 16 * 4) ∧ IntKind.i64.wrap ((r : Int).tmod 16 * 4) ≤ ((T[r / 16]'hq).size : Int) := by omega
      have b3 : (0 : Int) < (((T[r / 16]'hq).extract (r % 16 * 4) (T[r / 16]'hq).size).size : Int) := by omega
      rw [← hto] at hnum hmay b3
      refine rn [(48, .ld [.s (T[r / 16]'hq)]), (57, .ret (.t (.c (iT (numAt ((T[r / 16]'hq).extract (IntKind.i64.wrap ((r : Int).tmod 16 * 4)).toNat (T[r / 16]'hq).size) 1 3 : Nat))))), (60, .ret (.t (.c (.b true)))), (61, .dec false)] rfl ?_ ?_
      · repeat' (first | exact trivial | exact rfl | exact f3 | exact hnum | exact hmay | exact b0 | exact b1 | exact b2 | exact b3 | (show (16 : Int) ≠ 0; decide) | (show (0 : Int) ≤ 0; decide) | refine And.intro ?_ ?_)
        all_goals first | (simp only [maxLen]; omega) | omega | decide
      · refine roundEnd ⟨r + 1, by omega⟩ [(2, 5)] (by show n - (r + 1) < n - r; omega) (by (repeat' (first | exact trivial | exact rfl | exact w1 | exact fun _ => w1 | refine And.intro ?_ ?_))) ?_ rfl
        repeat' (first | exact trivial | exact rfl | refine And.intro ?_ ?_)
        rw [app_eq, dl_succ, lcells_append, getD_at hq, hto]
        congr 1
        show [Value.int .i64 _, Value.int .i64 _] = [Value.int .i64 _, Value.int .i64 _]
        rw [g1, g2]
    · have hrr : r = n := by have : ¬ (r : Int) < ((n : Nat) : Int) := of_decide_eq_false h; omega
      subst hrr
      have hl := dl_length T r
      refine rn [] rfl (by repeat' (first | exact trivial | exact rfl | refine And.intro ?_ ?_)) (roundExit rfl ?_)
      have hsec := rsecs_h (dl T r) hall (by omega) (H := [(0, some (false, .rd 1 T.length (svs T))), (1, some (true, .cells [iT a, iT b, iT c] 23)), (2, some (true, .own 46 2 r (lcells (dl T r))))]) (nx := 3) (v := .c (.nm 2)) (by rw [hl]; exact SlR.own rfl)
      rw [hl, hsame] at hsec
      refine rnA [(67, .spec ⟨.t (.c (.nm 3)), [(true, .own 9 1 (nsec r) (svs T))], [], []⟩)] rfl ?_ ?_
      · repeat' (first | exact trivial | exact rfl | exact hsec | refine And.intro ?_ ?_)
      refine At.loop (X := (i : Nat) ×' (i ≤ T.length)) 4 (fun x => T.length - x.1)
        (fun x => [(1, .t (.c (.nm 0))), (7, .t (.c (.nm 2))), (12, .t (.c (.nm 3))), (13, .t (.c (iT (x.1 : Nat))))])
        (fun x => [(0, some (false, .rd 1 T.length (svs T))), (2, some (true, .own 46 2 r (lcells (dl T r)))), (3, some (true, .own 9 1 (nsec r) (svs T)))]) ⟨0, by omega⟩ [] (fun r => wf rfl rfl) (by repeat' (first | exact trivial | exact rfl | refine And.intro ?_ ?_)) (by repeat' (first | exact trivial | exact rfl | refine And.intro ?_ ?_)) rfl fun x => ?_
      obtain ⟨i, hi⟩ := x
      refine rn [] rfl (by repeat' (first | exact trivial | exact rfl | refine And.intro ?_ ?_)) ?_
      refine ⟨fun h => ?_, fun h => ?_⟩
      · have hlt : i < T.length := by have : (i : Int) < ((nsec r : Nat) : Int) := of_decide_eq_true h; omega
        have e1 : (svs T)[(i : Int).toNat * 1]? = some (.string T[i]) := by rw [Int.toNat_natCast, Nat.mul_one, svs_at hlt]
        have b0 : (0 : Int) ≤ (i : Int) := by omega
        have b1 : (i : Int) < ((T.length : Nat) : Int) := by omega
        have b2 : (i : Int) < ((nsec r : Nat) : Int) := by omega
        have w1 : IntKind.i64.wrap ((i : Int) + 1) = ((i + 1 : Nat) : Int) := by rw [wrap_sm (by omega) (by omega)]; omega
        refine rn [(77, .ld [.s T[i]]), (81, .ld [.s T[i]]), (82, .dec false)] rfl (by (repeat' (first | exact trivial | exact rfl | exact e1 | exact fun _ => e1 | first | exact b0 | exact b1 | exact b2 | (simp; done) | decide | refine And.intro ?_ ?_))) ?_
        exact roundEnd ⟨i + 1, by omega⟩ [] (by show T.length - (i + 1) < T.length - i; omega) (by (repeat' (first | exact trivial | exact rfl | exact w1 | exact fun _ => w1 | refine And.intro ?_ ?_))) (by repeat' (first | exact trivial | exact rfl | refine And.intro ?_ ?_)) rfl
      · refine rn [] rfl (by repeat' (first | exact trivial | exact rfl | refine And.intro ?_ ?_)) (roundExit rfl ?_)
        refine rnA [] rfl (by repeat' (first | exact trivial | exact rfl | refine And.intro ?_ ?_)) ?_
        exact retN tysOk [(nx, 2)] rfl (by simp only [retS, SV.eqs, eqsT, TV.eqs, CV.eqs, ren_one]; repeat' (first | exact trivial | exact rfl | refine And.intro ?_ ?_)) (by simp only [newsH, subH, ren_one]; repeat' (first | exact trivial | exact rfl | refine And.intro ?_ ?_)) (by simp [injK, keysH, newsH, inL]) rfl
end Cw
