/- The package table by reckoning: Decode. -/
import Derived.Test.YtigaallhjlmhbaaTabV2
namespace Cw
open Go Vc
open Go.Proofs
set_option maxRecDepth 100000
def dle (s : ByteArray) (o : Nat) : Ls := (((numAt s o 4 % 256 : Nat) : Int), ((numAt s o 4 / 256 : Nat) : Int))
/-- The leases of a table's sectors. -/
def dl (T : List ByteArray) (n : Nat) : List Ls := (List.range n).map fun r => dle (T.getD (r / 16) ⟨#[]⟩) (r % 16 * 4)
theorem dl_length (T : List ByteArray) (n : Nat) : (dl T n).length = n := by simp [dl]
theorem dl_succ (T : List ByteArray) (n : Nat) : dl T (n + 1) = dl T n ++ [dle (T.getD (n / 16) ⟨#[]⟩) (n % 16 * 4)] := by simp [dl, List.range_succ]
theorem getD_at {T : List ByteArray} {q : Nat} (h : q < T.length) : T.getD q ⟨#[]⟩ = T[q] := by simp [List.getD_eq_getElem?_getD, h]
theorem numAt_lt4 (s : ByteArray) (o : Nat) : numAt s o 4 < 4294967296 := by
  unfold numAt
  refine Nat.lt_of_lt_of_le (num_lt _) ?_
  have : ((s.data.toList.drop o).take 4).length ≤ 4 := by simp; omega
  exact Nat.le_trans (Nat.pow_le_pow_right (by decide) this) (by decide)
theorem gete_in {s : ByteArray} (h : s.size = 64) {o : Nat} (ho : o ≤ 60) : gete (s.size : Nat) (o : Int) 4 = 0 := by
  rw [h, gete, if_neg (by simp), if_pos]
  refine ⟨rfl, ?_⟩
  simp only [finside, decide_eq_true_eq]
  omega
theorem gete_out {s : ByteArray} (h : s.size ≠ 64) (o : Int) : gete (s.size : Nat) o 4 = 4 := by
  rw [gete, if_pos]
  omega
theorem low8 (n : Nat) (h : n < 4294967296) : IntKind.i64.wrap ((BitVec.ofInt IntKind.i64.bits (n : Int) &&& BitVec.ofInt IntKind.i64.bits 255).toNat : Nat) = ((n % 256 : Nat) : Int) := by
  have e : (BitVec.ofInt 64 (n : Int)).toNat = n := ofInt_i64 n (by omega)
  have e2 : (BitVec.ofInt 64 (255 : Int)).toNat = 255 := rfl
  rw [show IntKind.i64.bits = 64 from rfl, BitVec.toNat_and, e, e2, show (255 : Nat) = 2 ^ 8 - 1 from rfl, Nat.and_two_pow_sub_one_eq_mod, IntKind.wrap_i64]
  omega
theorem high8 (n : Nat) : Int.fdiv (n : Int) (2 ^ min (Int.toNat 8) IntKind.i64.bits) = ((n / 256 : Nat) : Int) := by
  rw [show ((2 : Int) ^ min (Int.toNat 8) IntKind.i64.bits) = 256 from rfl, Int.fdiv_eq_ediv_of_nonneg _ (by decide)]
  omega
/-- Sectors that are a table of n regions. -/
def Tdok (T : List ByteArray) (n : Nat) : Prop := (∀ s ∈ T, s.size = 64) ∧ (dl T n).all (fun x => tok x.1 x.2) = true ∧ secs (tz (dl T n) n) (nsec n) = T
theorem ttable0 (a b c : Int) (r : Int) : Fn0 Try.prog 58 [geoT a b c, .c (iT r)] (.tup [.c (iT (ts a b c r)), .c (iT (toff a b c r)), .c (iT (te a b c r))]) := ⟨fun w => table_any a b c r w⟩
theorem ttableOk0 {a b c : Int} (hg : Gok a b c) (r : Nat) (hr : (r : Int) < gregions a b c) : Fn0 Try.prog 58 [geoT a b c, .c (iT r)] (.tup [.c (iT (2 + (r / 16 : Nat))), .c (iT (r % 16 * 4 : Nat)), .c (iT 0)]) := by
  have he := te_in hg r hr
  obtain ⟨_, _, _, h1, h2, _⟩ := te_ok he
  have h := ttable0 a b c r
  rw [he, h1, h2] at h
  exact h
theorem regions_two {a b c : Int} {n : Nat} (hg : Gok a b c) (hn : gregions a b c = (n : Nat)) : 2 ≤ n ∧ n ≤ 132 := by
  have hrb := regions_bd a b c
  have h := hn
  rw [gregions, if_pos hg] at h
  have := ab_bd hg
  have := hg.1
  omega
theorem tsecN {a b c : Int} {n : Nat} (hn : gregions a b c = (n : Nat)) : Fn0 Try.prog 53 [geoT a b c] (.t (.c (iT (nsec n : Nat)))) := by
  have := tsectors0 a b c
  rw [hn] at this
  rwa [show ((n : Int) + 15) / 16 = (nsec n : Nat) by unfold nsec; omega] at this
theorem tdec_no4 {a b c : Int} {n : Nat} (T : List ByteArray) (hn : gregions a b c = (n : Nat)) (hb : nsec n = 0 ∨ T.length ≠ nsec n) {H : HL} {nx : Nat} {v : TV} (hv : SlR H v T.length 1 (svs T)) :
    FnH Try.prog 36 [geoT a b c, v] H nx ⟨.tup [.c .nsl, .c (iT 4)], [], [], []⟩ := by
  refine fnR (fn := Try.f36) 74 rfl rfl rfl (args' := [geoT a b c, .c (.nm 0)]) (H' := [(0, some (false, .rd 1 T.length (svs T)))]) (nx' := 1) (fun e w M => ?_) rfl rfl rfl rfl fun w => ?_
  · obtain ⟨e', M', q1⟩ := slr1 hv e w M
    exact ⟨e', M', by simp [q1]; rfl⟩
  have hs : (((nsec n : Nat) : Int) == 0 || ((T.length : Nat) : Int) != (nsec n : Nat)) = true := by
    rcases hb with h | h
    · simp [h]
    · have : ((T.length : Nat) : Int) ≠ (nsec n : Nat) := by omega
      simp [this]
  refine rn [(17, .ret (.t (.c (iT (nsec n : Nat))))), (25, .dec true)] rfl (by (repeat' (first | exact trivial | exact rfl | exact tsecN hn | exact fun _ => tsecN hn | exact hs | refine And.intro ?_ ?_))) ?_
  exact ret0 tysOk rfl (by repeat' (first | exact trivial | exact rfl | refine And.intro ?_ ?_)) rfl
set_option maxRecDepth 100000 in
set_option maxHeartbeats 2000000 in
theorem tdec_h {a b c : Int} {n : Nat} (T : List ByteArray) (hg : Gok a b c) (hn : gregions a b c = (n : Nat)) (hT : T.length = nsec n) (hd : Tdok T n) {H : HL} {nx : Nat} {v : TV} (hv : SlR H v T.length 1 (svs T)) :
    FnH Try.prog 36 [geoT a b c, v] H nx ⟨.tup [.c (.nm nx), .c (iT 0)], [(true, .own 49 2 n (lcells (dl T n)))], [], []⟩ := by
  obtain ⟨hr2, hr9⟩ := regions_two hg hn
  obtain ⟨hd1, hd2, hd3⟩ := hd
  have hnm : 1 ≤ nsec n ∧ nsec n ≤ 9 := by unfold nsec; omega
  have hshape : (((nsec n : Nat) : Int) == 0 || ((T.length : Nat) : Int) != (nsec n : Nat)) = false := by
    rw [Bool.or_eq_false_iff]
    exact ⟨by simp; omega, by simp [hT]⟩
  have hsec := tsecN hn
  have hreg : Fn0 Try.prog 38 [geoT a b c] (.t (.c (iT (n : Nat)))) := hn ▸ tregions0 a b c
  refine fnN (fn := Try.f36) 74 rfl rfl rfl (args' := [geoT a b c, .c (.nm 0)]) (H' := [(0, some (false, .rd 1 T.length (svs T)))]) (nx' := 1) (fun e w M => ?_) rfl rfl rfl (inR_one nx) rfl fun w => ?_
  · obtain ⟨e', M', q1⟩ := slr1 hv e w M
    exact ⟨e', M', by simp [q1]; rfl⟩
  refine rn [(17, .ret (.t (.c (iT (nsec n : Nat))))), (25, .dec false), (27, .ret (.t (.c (iT (n : Nat)))))] rfl (by (repeat' (first | exact trivial | exact rfl | exact hsec | exact fun _ => hsec | first | exact hreg | exact hshape | refine And.intro ?_ ?_))) ?_
  refine At.nil 7 49 2 rfl ?_
  refine At.loop (X := (r : Nat) ×' (r ≤ n)) 3 (fun r => n - r.1)
    (fun r => [(1, .t (.c (.nm 0))), (2, .t (.c (.p 1 0))), (7, .t (.c (.nm 2))), (27, .t (.c (iT (n : Nat)))), (28, .t (.c (iT (r.1 : Nat))))])
    (fun r => [(0, some (false, .rd 1 T.length (svs T))), (1, some (true, .cells [iT a, iT b, iT c] 34)), (2, some (true, .own 49 2 r.1 (lcells (dl T r.1))))]) ⟨0, by omega⟩ [] (fun r => wf rfl rfl) (by repeat' (first | exact trivial | exact rfl | refine And.intro ?_ ?_)) (by repeat' (first | exact trivial | exact rfl | refine And.intro ?_ ?_)) rfl fun r => ?_
  obtain ⟨r, hr⟩ := r
  refine rn [] rfl (by repeat' (first | exact trivial | exact rfl | refine And.intro ?_ ?_)) ?_
  refine ⟨fun h => ?_, fun h => ?_⟩
  · have hlt : r < n := by have : (r : Int) < ((n : Nat) : Int) := of_decide_eq_true h; omega
    have hq : r / 16 < T.length := by rw [hT]; unfold nsec; omega
    have h64 := hd1 _ (List.getElem_mem hq)
    have w2 : IntKind.i64.wrap ((r : Int) + 1) = ((r + 1 : Nat) : Int) := by rw [wrap_sm (by omega) (by omega)]; omega
    have w3 : IntKind.i64.wrap (2 + (r / 16 : Nat) - 2) = ((r / 16 : Nat) : Int) := by rw [wrap_sm (by omega) (by omega)]; omega
    have hw0 : 0 ≤ IntKind.i64.wrap (2 + (r / 16 : Nat) - 2) := by omega
    have hw1 : IntKind.i64.wrap (2 + (r / 16 : Nat) - 2) < ((T.length : Nat) : Int) := by omega
    have htab := ttableOk0 hg r (by omega)
    have e1 : (svs T)[(IntKind.i64.wrap (2 + (r / 16 : Nat) - 2)).toNat * 1]? = some (.string (T[r / 16]'hq)) := by
      rw [w3, Int.toNat_natCast, Nat.mul_one, svs_at hq]
    have hget := get0 (T[r / 16]'hq) ((r % 16 * 4 : Nat)) 4 (by omega)
    rw [show getn (T[r / 16]'hq) ((r % 16 * 4 : Nat) : Int) 4 = numAt (T[r / 16]'hq) (r % 16 * 4) 4 from getn_num h64 (r % 16 * 4) 4 (by omega) (by omega), show gete ((T[r / 16]'hq).size : Nat) ((r % 16 * 4 : Nat) : Int) 4 = 0 from gete_in h64 (by omega)] at hget
    have hlt4 : numAt (T[r / 16]'hq) (r % 16 * 4) 4 < 4294967296 := numAt_lt4 _ _
    refine rn [(34, .ret (.tup [.c (iT (2 + (r / 16 : Nat))), .c (iT (r % 16 * 4 : Nat)), .c (iT 0)])), (43, .ld [.s (T[r / 16]'hq)]), (45, .ret (.tup [.c (iT (numAt (T[r / 16]'hq) (r % 16 * 4) 4 : Nat)), .c (iT 0)])), (49, .dec false)] rfl ?_ ?_
    · repeat' (first | exact trivial | exact rfl | exact e1 | exact htab | exact hget | exact hw0 | exact hw1 | refine And.intro ?_ ?_)
      all_goals first | omega | decide | (simp only [maxLen]; omega)
    · refine roundEnd ⟨r + 1, by omega⟩ [(2, 4)] (by show n - (r + 1) < n - r; omega) (by (repeat' (first | exact trivial | exact rfl | exact w2 | exact fun _ => w2 | refine And.intro ?_ ?_))) ?_ rfl
      repeat' (first | exact trivial | exact rfl | refine And.intro ?_ ?_)
      rw [app_eq, dl_succ, lcells_append, getD_at hq]
      congr 1
      show [Value.int .i64 _, Value.int .i64 _] = [Value.int .i64 _, Value.int .i64 _]
      rw [low8 _ hlt4, high8]
      rfl
  · have hlt : r = n := by have : ¬ (r : Int) < ((n : Nat) : Int) := of_decide_eq_false h; omega
    subst hlt
    refine rn [] rfl (by repeat' (first | exact trivial | exact rfl | refine And.intro ?_ ?_)) (roundExit rfl ?_)
    have hl := dl_length T r
    refine rnA [(62, .spec ⟨.tup [.c (.nm 3), .c (iT 0)], [(true, .own 9 1 (nsec r) (svs T))], [], []⟩), (70, .spec ⟨.t (.c (.b (decide (T = T)))), [], [], []⟩), (72, .dec false)] rfl ?_ ?_
    · repeat' (first | exact trivial | exact rfl | refine And.intro ?_ ?_)
      · simp [polB]
      · first | intro _ | skip
        exact equalTexts_h (l1 := T) (l2 := T) (by rw [hT]; exact SlR.own rfl) (SlR.rd rfl) (by omega)
      · have := tenc_h (dl T r) hg (by rw [hl]; exact hn) hd2 (H := [(0, some (false, .rd 1 T.length (svs T))), (1, some (true, .cells [iT a, iT b, iT c] 34)), (2, some (true, .own 49 2 r (lcells (dl T r))))]) (nx := 3) (v := .c (.nm 2)) (by rw [hl]; exact SlR.own rfl)
        rw [hl, hd3] at this
        exact this
    · exact retN tysOk [(nx, 2)] rfl (by simp only [retS, SV.eqs, eqsT, TV.eqs, CV.eqs, ren_one]; repeat' (first | exact trivial | exact rfl | refine And.intro ?_ ?_)) (by simp only [newsH, subH, ren_one]; repeat' (first | exact trivial | exact rfl | refine And.intro ?_ ?_)) (by simp [injK, keysH, newsH, inL]) rfl
set_option maxRecDepth 100000 in
set_option maxHeartbeats 2000000 in
theorem tdec_no80 {a b c : Int} {n : Nat} (T : List ByteArray) (hg : Gok a b c) (hn : gregions a b c = (n : Nat)) (hT : T.length = nsec n) (hd : ¬ Tdok T n) (hzz : ∀ s ∈ T, s.size ≤ 9223372036854775807) {H : HL} {nx : Nat} {v : TV} (hv : SlR H v T.length 1 (svs T)) :
    FnH Try.prog 36 [geoT a b c, v] H nx ⟨.tup [.c .nsl, .c (iT 80)], [], [], []⟩ := by
  obtain ⟨hr2, hr9⟩ := regions_two hg hn
  have hnm : 1 ≤ nsec n ∧ nsec n ≤ 9 := by unfold nsec; omega
  have hshape : (((nsec n : Nat) : Int) == 0 || ((T.length : Nat) : Int) != (nsec n : Nat)) = false := by
    rw [Bool.or_eq_false_iff]
    exact ⟨by simp; omega, by simp [hT]⟩
  have hsec := tsecN hn
  have hreg : Fn0 Try.prog 38 [geoT a b c] (.t (.c (iT (n : Nat)))) := hn ▸ tregions0 a b c
  refine fnR (fn := Try.f36) 74 rfl rfl rfl (args' := [geoT a b c, .c (.nm 0)]) (H' := [(0, some (false, .rd 1 T.length (svs T)))]) (nx' := 1) (fun e w M => ?_) rfl rfl rfl rfl fun w => ?_
  · obtain ⟨e', M', q1⟩ := slr1 hv e w M
    exact ⟨e', M', by simp [q1]; rfl⟩
  refine rn [(17, .ret (.t (.c (iT (nsec n : Nat))))), (25, .dec false), (27, .ret (.t (.c (iT (n : Nat)))))] rfl (by (repeat' (first | exact trivial | exact rfl | exact hsec | exact fun _ => hsec | first | exact hreg | exact hshape | refine And.intro ?_ ?_))) ?_
  refine At.nil 7 49 2 rfl ?_
  refine At.loop (X := (r : Nat) ×' (r ≤ n ∧ ∀ k, k < r → (T.getD (k / 16) ⟨#[]⟩).size = 64)) 3 (fun r => n - r.1)
    (fun r => [(1, .t (.c (.nm 0))), (2, .t (.c (.p 1 0))), (7, .t (.c (.nm 2))), (27, .t (.c (iT (n : Nat)))), (28, .t (.c (iT (r.1 : Nat))))])
    (fun r => [(0, some (false, .rd 1 T.length (svs T))), (1, some (true, .cells [iT a, iT b, iT c] 34)), (2, some (true, .own 49 2 r.1 (lcells (dl T r.1))))]) ⟨0, by omega, fun k hk => by omega⟩ [] (fun r => wf rfl rfl) (by repeat' (first | exact trivial | exact rfl | refine And.intro ?_ ?_)) (by repeat' (first | exact trivial | exact rfl | refine And.intro ?_ ?_)) rfl fun r => ?_
  obtain ⟨r, hr, hall⟩ := r
  refine rn [] rfl (by repeat' (first | exact trivial | exact rfl | refine And.intro ?_ ?_)) ?_
  refine ⟨fun h => ?_, fun h => ?_⟩
  · have hlt : r < n := by have : (r : Int) < ((n : Nat) : Int) := of_decide_eq_true h; omega
    have hq : r / 16 < T.length := by rw [hT]; unfold nsec; omega
    have w2 : IntKind.i64.wrap ((r : Int) + 1) = ((r + 1 : Nat) : Int) := by rw [wrap_sm (by omega) (by omega)]; omega
    have w3 : IntKind.i64.wrap (2 + (r / 16 : Nat) - 2) = ((r / 16 : Nat) : Int) := by rw [wrap_sm (by omega) (by omega)]; omega
    have hw0 : 0 ≤ IntKind.i64.wrap (2 + (r / 16 : Nat) - 2) := by omega
    have hw1 : IntKind.i64.wrap (2 + (r / 16 : Nat) - 2) < ((T.length : Nat) : Int) := by omega
    have htab := ttableOk0 hg r (by omega)
    by_cases h64 : (T[r / 16]'hq).size = 64
    · have e1 : (svs T)[(IntKind.i64.wrap (2 + (r / 16 : Nat) - 2)).toNat * 1]? = some (.string (T[r / 16]'hq)) := by
        rw [w3, Int.toNat_natCast, Nat.mul_one, svs_at hq]
      have hget := get0 (T[r / 16]'hq) ((r % 16 * 4 : Nat)) 4 (by omega)
      rw [show getn (T[r / 16]'hq) ((r % 16 * 4 : Nat) : Int) 4 = numAt (T[r / 16]'hq) (r % 16 * 4) 4 from getn_num h64 (r % 16 * 4) 4 (by omega) (by omega), show gete ((T[r / 16]'hq).size : Nat) ((r % 16 * 4 : Nat) : Int) 4 = 0 from gete_in h64 (by omega)] at hget
      have hlt4 : numAt (T[r / 16]'hq) (r % 16 * 4) 4 < 4294967296 := numAt_lt4 _ _
      refine rn [(34, .ret (.tup [.c (iT (2 + (r / 16 : Nat))), .c (iT (r % 16 * 4 : Nat)), .c (iT 0)])), (43, .ld [.s (T[r / 16]'hq)]), (45, .ret (.tup [.c (iT (numAt (T[r / 16]'hq) (r % 16 * 4) 4 : Nat)), .c (iT 0)])), (49, .dec false)] rfl ?_ ?_
      · repeat' (first | exact trivial | exact rfl | exact e1 | exact htab | exact hget | exact hw0 | exact hw1 | refine And.intro ?_ ?_)
        all_goals first | omega | decide | (simp only [maxLen]; omega)
      · refine roundEnd ⟨r + 1, by omega, fun k hk => by
        by_cases e : k = r
        · rw [e, getD_at hq]; exact h64
        · exact hall k (by omega)⟩ [(2, 4)] (by show n - (r + 1) < n - r; omega) (by (repeat' (first | exact trivial | exact rfl | exact w2 | exact fun _ => w2 | refine And.intro ?_ ?_))) ?_ rfl
        repeat' (first | exact trivial | exact rfl | refine And.intro ?_ ?_)
        rw [app_eq, dl_succ, lcells_append, getD_at hq]
        congr 1
        show [Value.int .i64 _, Value.int .i64 _] = [Value.int .i64 _, Value.int .i64 _]
        rw [low8 _ hlt4, high8]
        rfl
    · have e1 : (svs T)[(IntKind.i64.wrap (2 + (r / 16 : Nat) - 2)).toNat * 1]? = some (.string (T[r / 16]'hq)) := by
        rw [w3, Int.toNat_natCast, Nat.mul_one, svs_at hq]
      have hget := get0 (T[r / 16]'hq) ((r % 16 * 4 : Nat)) 4 (hzz _ (List.getElem_mem hq))
      rw [gete_out h64] at hget
      refine rn [(34, .ret (.tup [.c (iT (2 + (r / 16 : Nat))), .c (iT (r % 16 * 4 : Nat)), .c (iT 0)])), (43, .ld [.s (T[r / 16]'hq)]), (45, .ret (.tup [.c (iT (getn (T[r / 16]'hq) ((r % 16 * 4 : Nat)) 4 : Nat)), .c (iT 4)])), (49, .dec true)] rfl ?_ (roundRet ?_)
      · repeat' (first | exact trivial | exact rfl | exact e1 | exact htab | exact hget | exact hw0 | exact hw1 | refine And.intro ?_ ?_)
        all_goals decide
      · exact ret0 tysOk rfl (by repeat' (first | exact trivial | exact rfl | refine And.intro ?_ ?_)) rfl
  · have hlt : r = n := by have : ¬ (r : Int) < ((n : Nat) : Int) := of_decide_eq_false h; omega
    subst hlt
    have hs : ∀ s ∈ T, s.size = 64 := by
      intro s hs
      obtain ⟨j, hj, rfl⟩ := List.mem_iff_getElem.1 hs
      have hj' := hj
      rw [hT] at hj'
      unfold nsec at hj'
      have := hall (16 * j) (by omega)
      rwa [show 16 * j / 16 = j by omega, getD_at hj] at this
    refine rn [] rfl (by repeat' (first | exact trivial | exact rfl | refine And.intro ?_ ?_)) (roundExit rfl ?_)
    have hl := dl_length T r
    cases hok : (dl T r).all (fun x => tok x.1 x.2)
    · refine rnA [(62, .spec ⟨.tup [.c .nsl, .c (iT 80)], [], [], []⟩), (67, .dec true), (72, .dec true)] rfl ?_ ?_
      · repeat' (first | exact trivial | exact rfl | refine And.intro ?_ ?_)
        exact tenc_no80 (dl T r) hg (by rw [hl]; exact hn) hok (by rw [hl]; exact SlR.own rfl)
      · exact ret0 tysOk rfl (by repeat' (first | exact trivial | exact rfl | refine And.intro ?_ ?_)) rfl
    · have hne : secs (tz (dl T r) r) (nsec r) ≠ T := fun h => hd ⟨hs, hok, h⟩
      refine rnA [(62, .spec ⟨.tup [.c (.nm 3), .c (iT 0)], [(true, .own 9 1 (nsec r) (svs (secs (tz (dl T r) r) (nsec r))))], [], []⟩), (70, .spec ⟨.t (.c (.b (decide (secs (tz (dl T r) r) (nsec r) = T)))), [], [], []⟩), (72, .dec true)] rfl ?_ ?_
      · repeat' (first | exact trivial | exact rfl | refine And.intro ?_ ?_)
        · simp [polB, hne]
        · first | intro _ | skip
          exact equalTexts_h (l1 := secs (tz (dl T r) r) (nsec r)) (l2 := T) (by rw [secs_length]; exact SlR.own rfl) (SlR.rd rfl) (by rw [secs_length]; omega)
        · have := tenc_h (dl T r) hg (by rw [hl]; exact hn) hok (H := [(0, some (false, .rd 1 T.length (svs T))), (1, some (true, .cells [iT a, iT b, iT c] 34)), (2, some (true, .own 49 2 r (lcells (dl T r))))]) (nx := 3) (v := .c (.nm 2)) (by rw [hl]; exact SlR.own rfl)
          rw [hl] at this
          exact this
      · exact ret0 tysOk rfl (by repeat' (first | exact trivial | exact rfl | refine And.intro ?_ ?_)) rfl
end Cw
