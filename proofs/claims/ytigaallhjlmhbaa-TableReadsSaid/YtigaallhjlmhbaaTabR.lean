/- The document's answer for the package table, by reckoning: May, text, Sectors, Encode, Put, Give, Held. -/
import Derived.Test.YtigaallhjlmhbaaTabB
import Derived.Test.YtigaallhjlmhbaaRefGeomW3
namespace Cw
open Go Vc
open Go.Proofs
set_option maxRecDepth 100000
theorem rcheckT0 (a b c : Int) : Fn0 Try.prog 54 [geoT a b c] (.t (.c (iT (gcheck a b c)))) := ⟨fun w => rcheck_any a b c w⟩
theorem rregions0 (a b c : Int) : Fn0 Try.prog 55 [geoT a b c] (.t (.c (iT (gregions a b c)))) := ⟨fun w => rregions_any a b c w⟩
theorem rtable0 (a b c r : Int) : Fn0 Try.prog 60 [geoT a b c, .c (iT r)] (.tup [.c (iT (ts a b c r)), .c (iT (toff a b c r)), .c (iT (te a b c r))]) := ⟨fun w => rtable_any a b c r w⟩
theorem rmay0 (x : Ls) : Fn0 Try.prog 56 [lT x] (.t (.c (.b (tok x.1 x.2)))) := by
  refine fn0 (fn := Try.f56) 21 rfl rfl rfl rfl rfl fun w => ?_
  refine rn [] rfl (by repeat' (first | exact trivial | exact rfl | refine And.intro ?_ ?_)) ?_
  refine ret0 tysOk rfl ⟨?_, trivial⟩ rfl
  rw [Bool.eq_iff_iff]
  simp [tok]
  omega
theorem lw_text {x : Ls} (h : tok x.1 x.2 = true) : (⟨#[UInt8.ofNat (IntKind.u8.wrap x.1).toNat]⟩ : ByteArray) ++ S (le 3 x.2.toNat) = S (lw x) := by
  have hx := tok_iff h
  have qk : IntKind.u8.wrap x.1 = x.1 := by rw [IntKind.wrap_u8]; omega
  rw [qk, show (⟨#[UInt8.ofNat x.1.toNat]⟩ : ByteArray) = S [UInt8.ofNat x.1.toNat] from rfl, S_append]
  unfold lw lv
  congr 1
  rw [show le 4 (x.1.toNat + 256 * x.2.toNat) = _ from le_cons 3 _]
  rw [show (x.1.toNat + 256 * x.2.toNat) / 256 = x.2.toNat by omega]
  simp only [List.cons_append, List.nil_append]
  congr 1
  apply UInt8.toNat_inj.1
  simp only [UInt8.toNat_ofNat']
  omega
theorem rtext0 (x : Ls) (h : tok x.1 x.2 = true) : Fn0 Try.prog 61 [lT x] (.t (.c (.s (S (lw x))))) := by
  have hx := tok_iff h
  have T3 : Fn0 Try.prog 79 [.c (iT x.2), .c (iT 3)] (.t (.c (.s (S (le 3 x.2.toNat))))) := by
    have := text0 3 x.2.toNat (by decide) (by omega)
    rwa [Int.toNat_of_nonneg hx.2.2.1] at this
  refine fn0 (fn := Try.f61) 12 rfl rfl rfl rfl rfl fun w => ?_
  refine rn [(10, .ret (.t (.c (.s (S (le 3 x.2.toNat))))))] rfl (by (repeat' (first | exact trivial | exact rfl | exact T3 | exact fun _ => T3 | first | (simp only [S_size, le_length, sz1]; decide) | decide | refine And.intro ?_ ?_))) ?_
  exact ret0 tysOk rfl ⟨lw_text h, trivial⟩ rfl
theorem rput08 (a b c r : Int) (x : Ls) : Fn0 Try.prog 28 [geoT a b c, .c (iT r), lT x] (.tup [.c (iT (tps a b c r x.1 x.2)), .agg [iT (tpp a b c r x.1 x.2).1, .s (tpp a b c r x.1 x.2).2], .c (iT (tpe a b c r x.1 x.2))]) := by
  refine fn0 (fn := Try.f28) 32 rfl rfl rfl rfl rfl fun w => ?_
  by_cases he : te a b c r = 0
  · cases hx : tok x.1 x.2
    · have h3 : tpe a b c r x.1 x.2 = 80 := by rw [tpe, if_neg (by omega), if_neg (by simp [hx])]
      refine rn [(15, .ret (.tup [.c (iT (ts a b c r)), .c (iT (toff a b c r)), .c (iT 0)])), (20, .dec false), (24, .ret (.t (.c (.b false)))), (25, .dec true)] rfl (by (repeat' (first | exact trivial | exact rfl | exact he ▸ rtable0 a b c r | exact fun _ => he ▸ rtable0 a b c r | exact hx ▸ rmay0 x | refine And.intro ?_ ?_))) ?_
      rw [tps, h3, tpp, h3]
      exact ret0 tysOk rfl (by repeat' (first | exact trivial | exact rfl | refine And.intro ?_ ?_)) rfl
    · have h3 : tpe a b c r x.1 x.2 = 0 := by rw [tpe, if_neg (by omega), if_pos hx]
      refine rn [(15, .ret (.tup [.c (iT (ts a b c r)), .c (iT (toff a b c r)), .c (iT 0)])), (20, .dec false), (24, .ret (.t (.c (.b true)))), (25, .dec false), (30, .ret (.t (.c (.s (S (lw x))))))] rfl (by (repeat' (first | exact trivial | exact rfl | exact he ▸ rtable0 a b c r | exact fun _ => he ▸ rtable0 a b c r | first | exact hx ▸ rmay0 x | exact rtext0 x hx | refine And.intro ?_ ?_))) ?_
      rw [tps, h3, if_pos rfl, tpp, h3, if_pos rfl]
      exact ret0 tysOk rfl (by repeat' (first | exact trivial | exact rfl | refine And.intro ?_ ?_)) rfl
  · have h3 : tpe a b c r x.1 x.2 = te a b c r := by rw [tpe, if_pos he]
    refine rn [(15, .ret (.tup [.c (iT (ts a b c r)), .c (iT (toff a b c r)), .c (iT (te a b c r))])), (20, .dec true)] rfl (by (repeat' (first | exact trivial | exact rfl | exact rtable0 a b c r | exact fun _ => rtable0 a b c r | simpa using he | refine And.intro ?_ ?_))) ?_
    rw [tps, h3, if_neg he, tpp, h3, if_neg he]
    exact ret0 tysOk rfl (by repeat' (first | exact trivial | exact rfl | refine And.intro ?_ ?_)) rfl
theorem rgive0 (x : Ls) (o : Int) : Fn0 Try.prog 30 [lT x, .c (iT o)] (.tup [lT (gvx x o), .c (iT (gve x o))]) := by
  refine fn0 (fn := Try.f30) 27 rfl rfl rfl rfl rfl fun w => ?_
  cases ht : tok x.1 x.2
  · have e : gve x o = 80 := by simp [gve, ht]
    refine rn [(7, .ret (.t (.c (.b false)))), (8, .dec true)] rfl (by (repeat' (first | exact trivial | exact rfl | exact ht ▸ rmay0 x | exact fun _ => ht ▸ rmay0 x | refine And.intro ?_ ?_))) ?_
    rw [gvx, e]
    exact ret0 tysOk rfl (by repeat' (first | exact trivial | exact rfl | refine And.intro ?_ ?_)) rfl
  · refine rn [(7, .ret (.t (.c (.b true)))), (8, .dec false)] rfl (by (repeat' (first | exact trivial | exact rfl | exact ht ▸ rmay0 x | exact fun _ => ht ▸ rmay0 x | refine And.intro ?_ ?_))) ?_
    have hw : IntKind.i64.wrap (x.2 + 1) = x.2 + 1 := by
      have := tok_iff ht
      exact wrap_sm (by omega) (by omega)
    refine ⟨fun h => ?_, fun h => ?_⟩
    · have e : gve x o = 1 := by
        simp at h
        simp only [gve, ht, if_true]
        rw [if_pos (by omega)]
      refine rn [] rfl (by repeat' (first | exact trivial | exact rfl | refine And.intro ?_ ?_)) ?_
      rw [gvx, e]
      exact ret0 tysOk rfl (by repeat' (first | exact trivial | exact rfl | refine And.intro ?_ ?_)) rfl
    · have e : gve x o = 0 := by
        simp at h
        simp only [gve, ht, if_true]
        rw [if_neg (by omega)]
      refine rn [] rfl (by repeat' (first | exact trivial | exact rfl | refine And.intro ?_ ?_)) ?_
      rw [gvx, e, if_pos rfl]
      exact ret0 tysOk rfl (by (repeat' (first | exact trivial | exact rfl | exact hw | exact fun _ => hw | refine And.intro ?_ ?_))) rfl
theorem rheld_h (l : List Ls) (o : Int) (hz : l.length ≤ 10000000000000) {H : HL} {nx : Nat} {v : TV} (hv : SlR H v l.length 2 (lcells l)) :
    FnH Try.prog 26 [v, .c (iT o)] H nx ⟨.t (.c (.nm nx)), [(true, .own 3 1 (held l o l.length).length (ivs (held l o l.length)))], [], []⟩ := by
  refine fnN (fn := Try.f26) 25 rfl rfl rfl (args' := [.c (.nm 0), .c (iT o)]) (H' := [(0, some (false, .rd 2 l.length (lcells l)))]) (nx' := 1) (fun e w M => ?_) rfl rfl rfl (inR_one nx) rfl fun w => ?_
  · obtain ⟨e', M', q1⟩ := slr1 hv e w M
    exact ⟨e', M', by simp [q1]; rfl⟩
  refine rn [] rfl (by repeat' (first | exact trivial | exact rfl | refine And.intro ?_ ?_)) ?_
  refine At.nil 5 3 1 rfl ?_
  refine At.loop (X := (k : Nat) ×' (k ≤ l.length)) 2 (fun k => l.length - k.1)
    (fun k => [(0, .t (.c (.nm 0))), (1, .t (.c (iT o))), (5, .t (.c (.nm 1))), (6, .t (.c (iT (k.1 : Nat))))])
    (fun k => [(0, some (false, .rd 2 l.length (lcells l))), (1, some (true, .own 3 1 (held l o k.1).length (ivs (held l o k.1))))]) ⟨0, by omega⟩ [] (fun k => wf rfl rfl) (by repeat' (first | exact trivial | exact rfl | refine And.intro ?_ ?_)) (by repeat' (first | exact trivial | exact rfl | refine And.intro ?_ ?_)) rfl fun k => ?_
  obtain ⟨k, hk⟩ := k
  refine rn [] rfl (by repeat' (first | exact trivial | exact rfl | refine And.intro ?_ ?_)) ?_
  refine ⟨fun h => ?_, fun h => ?_⟩
  · have hlt : k < l.length := by have : (k : Int) < ((l.length : Nat) : Int) := of_decide_eq_true h; omega
    have e2 : (lcells l)[(k : Int).toNat * 2 + 0]? = some (.int .i64 l[k].1) := by simpa using (lcells_get l k hlt).1
    have e3 : (k : Int).toNat * 2 < (lcells l).length := by rw [lcells_length]; omega
    have w2 : IntKind.i64.wrap ((k : Int) + 1) = ((k + 1 : Nat) : Int) := by rw [wrap_sm (by omega) (by omega)]; omega
    have hle := held_le l o k
    have h0k : (0 : Int) ≤ (k : Int) := by omega
    have h1k : (k : Int) < ((l.length : Nat) : Int) := by omega
    refine rn [(17, .ld [iT l[k].1])] rfl (by (repeat' (first | exact trivial | exact rfl | exact e2 | exact fun _ => e2 | first | exact e3 | exact h0k | exact h1k | decide | refine And.intro ?_ ?_))) ?_
    refine ⟨fun h => ?_, fun h => ?_⟩
    · have ho : (l[k].1 == o) = true := by simpa [polB] using h
      refine rn [] rfl (by (repeat' (first | exact trivial | exact rfl | exact trivial | exact fun _ => trivial | first | (simp only [maxLen]; omega) | omega | decide | refine And.intro ?_ ?_))) ?_
      refine roundEnd ⟨k + 1, by omega⟩ [(1, 3)] (by show l.length - (k + 1) < l.length - k; omega) (by (repeat' (first | exact trivial | exact rfl | exact w2 | exact fun _ => w2 | refine And.intro ?_ ?_))) ?_ rfl
      rw [held_succ l o k hlt, if_pos ho]
      repeat' (first | exact trivial | exact rfl | refine And.intro ?_ ?_)
      all_goals simp [ivs, app_eq, CV.den]
    · have ho : ¬ (l[k].1 == o) = true := by simpa [polB] using h
      refine rn [] rfl (by repeat' (first | exact trivial | exact rfl | refine And.intro ?_ ?_)) ?_
      refine roundEnd ⟨k + 1, by omega⟩ [] (by show l.length - (k + 1) < l.length - k; omega) (by (repeat' (first | exact trivial | exact rfl | exact w2 | exact fun _ => w2 | refine And.intro ?_ ?_))) ?_ rfl
      rw [held_succ l o k hlt, if_neg ho]
      repeat' (first | exact trivial | exact rfl | refine And.intro ?_ ?_)
  · have hlt : k = l.length := by have : ¬ (k : Int) < ((l.length : Nat) : Int) := of_decide_eq_false h; omega
    subst hlt
    refine rn [] rfl (by repeat' (first | exact trivial | exact rfl | refine And.intro ?_ ?_)) (roundExit rfl ?_)
    refine rnA [] rfl (by repeat' (first | exact trivial | exact rfl | refine And.intro ?_ ?_)) ?_
    exact retN tysOk [(nx, 1)] rfl (by simp only [retS, SV.eqs, eqsT, TV.eqs, CV.eqs, ren_one]; repeat' (first | exact trivial | exact rfl | refine And.intro ?_ ?_)) (by simp only [newsH, subH, ren_one]; repeat' (first | exact trivial | exact rfl | refine And.intro ?_ ?_)) (by simp [injK, keysH, newsH, inL]) rfl
theorem lbytes_take : ∀ (l : List Ls) (r : Nat), (lbytes l).take (4 * r) = lbytes (l.take r)
  | l, 0 => by simp [lbytes]
  | [], r + 1 => by simp [lbytes]
  | x :: l, r + 1 => by
    have : lbytes (x :: l) = lw x ++ lbytes l := rfl
    have h2 : lbytes (x :: l.take r) = lw x ++ lbytes (l.take r) := rfl
    rw [List.take_succ_cons, h2, ← lbytes_take l r, this, show 4 * (r + 1) = (lw x).length + 4 * r by rw [lw_length]; omega, List.take_length_add_append]
/-- A sector is its leases' bytes, and zeros. -/
theorem sec_chunk (l : List Ls) (j d : Nat) (hj : 16 * j < l.length) (hd : d = min 16 (l.length - 16 * j)) : sec (tz l l.length) j = lbytes ((l.drop (16 * j)).take d) ++ List.replicate (64 - 4 * d) 0 := by
  have hn : j < nsec l.length := by unfold nsec; omega
  unfold sec tz
  rw [List.take_length, List.drop_append_of_le_length (by rw [lbytes_length]; omega), show 64 * j = 4 * (16 * j) by omega, lbytes_drop, List.take_append, show (64 : Nat) = 4 * 16 from rfl, lbytes_take, lbytes_length, List.length_drop, List.take_replicate]
  congr 1
  · by_cases h : l.length - 16 * j ≤ 16
    · rw [List.take_of_length_le (by simp; omega), List.take_of_length_le (by simp; omega)]
    · rw [show d = 16 by omega]
  · congr 1
    unfold nsec at *
    omega
end Cw
