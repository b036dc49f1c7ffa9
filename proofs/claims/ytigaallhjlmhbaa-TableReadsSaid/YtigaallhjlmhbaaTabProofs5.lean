/- TableReads: whatever the arguments: the law returns true, and its arguments read as they did. No condition. -/
import Derived.Test.YtigaallhjlmhbaaTabW3
import Derived.Test.YtigaallhjlmhbaaRows
import Derived.Test.YtigaallhjlmhbaaOpen
import Derived.Test.YtigaallhjlmhbaaFactsB
import Derived.Test.YtigaallhjlmhbaaFactsC
import Derived.Test.YtigaallhjlmhbaaFactsD
namespace Cw
open Go Vc
open Go.Proofs
set_option maxRecDepth 100000
theorem ext_list (s : ByteArray) (o : Nat) : (s.extract o s.size).data.toList = s.data.toList.drop o := by
  rw [ByteArray.data_extract, Array.toList_extract, List.extract_eq_take_drop, List.take_of_length_le]
  have h2 : s.data.toList.length = s.size := by simp
  rw [List.length_drop]
  omega
theorem ext_size {s : ByteArray} {o : Nat} (h : s.size = 64) (ho : o ≤ 60) : (s.extract o s.size).size = 64 - o := by
  have := congrArg List.length (ext_list s o)
  rw [List.length_drop] at this
  have h1 : (s.extract o s.size).data.toList.length = (s.extract o s.size).size := by rw [Array.length_toList]; rfl
  have h2 : s.data.toList.length = s.size := by simp
  omega
theorem sub_dle {s : ByteArray} {o : Nat} (h : s.size = 64) (ho : o ≤ 60) : IntKind.i64.wrap (byteAt (s.extract o s.size) (Int.toNat 0)) = (dle s o).1 ∧ ((numAt (s.extract o s.size) 1 3 : Nat) : Int) = (dle s o).2 := by
  have hz := ext_size h ho
  have e1 : numAt (s.extract o s.size) 0 1 = numAt s o 1 := by simp only [numAt, ext_list, List.drop_zero]
  have e2 : numAt (s.extract o s.size) 1 3 = numAt s (o + 1) 3 := by simp only [numAt, ext_list, List.drop_drop]
  have e3 : numAt s o 4 = s[o].toNat + 256 * numAt s (o + 1) 3 := num_cons s o 4 0 (by omega) (by omega)
  have e4 := num1 s o (by omega)
  have hb := s[o].toNat_lt
  have e5 : byteAt (s.extract o s.size) (Int.toNat 0) = (numAt (s.extract o s.size) 0 1 : Nat) := byteAt_num _ 0 (by omega)
  refine ⟨?_, ?_⟩
  · rw [e5, e1, e4, IntKind.wrap_i64]
    unfold dle
    rw [e3]
    show _ = (((s[o].toNat + 256 * numAt s (o + 1) 3) % 256 : Nat) : Int)
    omega
  · rw [e2]
    unfold dle
    rw [e3]
    show _ = (((s[o].toNat + 256 * numAt s (o + 1) 3) / 256 : Nat) : Int)
    omega
theorem rshape {n : Nat} (h : n ≤ 132) : IntKind.i64.wrap ((IntKind.i64.wrap (IntKind.i64.wrap ((n : Int) + 16) - 1)).tdiv 16) = ((nsec n : Nat) : Int) := by
  rw [wrap_sm (x := (n : Int) + 16) (by omega) (by omega), wrap_sm (x := (n : Int) + 16 - 1) (by omega) (by omega), Int.tdiv_eq_ediv_of_nonneg (by omega), wrap_sm (by omega) (by omega)]
  unfold nsec
  omega
theorem rdec_no4 {a b c : Int} (T : List ByteArray) (hb : ¬ (Gok a b c ∧ T.length = nsec (gregions a b c).toNat)) {H : HL} {nx : Nat} {v : TV} (hv : SlR H v T.length 1 (svs T)) :
    FnH Try.prog 37 [geoT a b c, v] H nx ⟨.tup [.c .nsl, .c (iT 4)], [], [], []⟩ := by
  refine fnR (fn := Try.f37) 84 rfl rfl rfl (args' := [geoT a b c, .c (.nm 0)]) (H' := [(0, some (false, .rd 1 T.length (svs T)))]) (nx' := 1) (fun e w M => ?_) rfl rfl rfl rfl fun w => ?_
  · obtain ⟨e', M', q1⟩ := slr1 hv e w M
    exact ⟨e', M', by simp [q1]; rfl⟩
  have hn := regions_nat a b c
  have hb9 := regions_bd a b c
  generalize hk : (gregions a b c).toNat = n at *
  have hreg := rregions0 a b c
  rw [hn] at hreg
  have hs : (((n : Nat) : Int) == 0 || ((T.length : Nat) : Int) != IntKind.i64.wrap ((IntKind.i64.wrap (IntKind.i64.wrap ((n : Int) + 16) - 1)).tdiv 16)) = true := by
    rw [rshape (by omega)]
    by_cases hg : Gok a b c
    · have : ((T.length : Nat) : Int) ≠ (nsec n : Nat) := fun e => hb ⟨hg, by omega⟩
      simp [this]
    · have := regions_no hg
      have : n = 0 := by omega
      simp [this]
  refine rn [(15, .ret (.t (.c (iT (n : Nat))))), (26, .dec true)] rfl (by (repeat' (first | exact trivial | exact rfl | exact hreg | exact fun _ => hreg | first | exact hs | decide | exact fun _ => by decide | refine And.intro ?_ ?_))) ?_
  exact ret0 tysOk rfl (by repeat' (first | exact trivial | exact rfl | refine And.intro ?_ ?_)) rfl
/-- A round of the second loop: what is read. -/
theorem read_facts {T : List ByteArray} {n r : Nat} (hT : T.length = nsec n) (hlt : r < n) (hn9 : n ≤ 132) : ∃ hq : r / 16 < T.length,
    IntKind.i64.wrap ((r : Int).tdiv 16) = ((r / 16 : Nat) : Int) ∧ IntKind.i64.wrap ((r : Int).tmod 16 * 4) = ((r % 16 * 4 : Nat) : Int) ∧ (svs T)[(IntKind.i64.wrap ((r : Int).tdiv 16)).toNat * 1]? = some (.string (T[r / 16]'hq)) := by
  have hq : r / 16 < T.length := by rw [hT]; unfold nsec; omega
  have e1 : IntKind.i64.wrap ((r : Int).tdiv 16) = ((r / 16 : Nat) : Int) := by rw [Int.tdiv_eq_ediv_of_nonneg (by omega), wrap_sm (by omega) (by omega)]; omega
  have e2 : IntKind.i64.wrap ((r : Int).tmod 16 * 4) = ((r % 16 * 4 : Nat) : Int) := by rw [Int.tmod_eq_emod_of_nonneg (by omega), wrap_sm (by omega) (by omega)]; omega
  exact ⟨hq, e1, e2, by rw [e1, Int.toNat_natCast, Nat.mul_one, svs_at hq]⟩
set_option maxRecDepth 100000 in
set_option maxHeartbeats 4000000 in
theorem rdec_no80 {a b c : Int} {n : Nat} (T : List ByteArray) (hg : Gok a b c) (hn : gregions a b c = (n : Nat)) (hT : T.length = nsec n) (hd : ¬ Tdok T n) {H : HL} {nx : Nat} {v : TV} (hv : SlR H v T.length 1 (svs T)) :
    FnH Try.prog 37 [geoT a b c, v] H nx ⟨.tup [.c .nsl, .c (iT 80)], [], [], []⟩ := by
  obtain ⟨hr2, hr9⟩ := regions_two hg hn
  have hnm : 1 ≤ nsec n ∧ nsec n ≤ 9 := by unfold nsec; omega
  have hreg := rregions0 a b c
  rw [hn] at hreg
  have hs : (((n : Nat) : Int) == 0 || ((T.length : Nat) : Int) != IntKind.i64.wrap ((IntKind.i64.wrap (IntKind.i64.wrap ((n : Int) + 16) - 1)).tdiv 16)) = false := by
    rw [rshape (by omega), hT, Bool.or_eq_false_iff]
    exact ⟨by simp; omega, by simp⟩
  refine fnR (fn := Try.f37) 84 rfl rfl rfl (args' := [geoT a b c, .c (.nm 0)]) (H' := [(0, some (false, .rd 1 T.length (svs T)))]) (nx' := 1) (fun e w M => ?_) rfl rfl rfl rfl fun w => ?_
  · obtain ⟨e', M', q1⟩ := slr1 hv e w M
    exact ⟨e', M', by simp [q1]; rfl⟩
  refine rn [(15, .ret (.t (.c (iT (n : Nat))))), (26, .dec false)] rfl (by (repeat' (first | exact trivial | exact rfl | exact hreg | exact fun _ => hreg | first | exact hs | decide | exact fun _ => by decide | refine And.intro ?_ ?_))) ?_
  refine At.nil 7 49 2 rfl ?_
  refine At.loop (X := (i : Nat) ×' (i ≤ T.length ∧ ∀ k (h : k < T.length), k < i → T[k].size = 64)) 3 (fun x => T.length - x.1)
    (fun x => [(1, .t (.c (.nm 0))), (2, .t (.c (.p 1 0))), (6, .t (.c (iT (n : Nat)))), (7, .t (.c (.nm 2))), (8, .t (.c (iT (x.1 : Nat))))])
    (fun x => [(0, some (false, .rd 1 T.length (svs T))), (1, some (true, .cells [iT a, iT b, iT c] 34)), (2, some (true, .own 49 2 0 []))]) ⟨0, by omega, fun k h hk => by omega⟩ [] (fun r => wf rfl rfl) (by repeat' (first | exact trivial | exact rfl | refine And.intro ?_ ?_)) (by repeat' (first | exact trivial | exact rfl | refine And.intro ?_ ?_)) rfl fun x => ?_
  obtain ⟨i, hi, h64⟩ := x
  refine rn [] rfl (by repeat' (first | exact trivial | exact rfl | refine And.intro ?_ ?_)) ?_
  refine ⟨fun h => ?_, fun h => ?_⟩
  · have hlt : i < T.length := by have : (i : Int) < ((T.length : Nat) : Int) := of_decide_eq_true h; omega
    have e1 : (svs T)[(i : Int).toNat * 1]? = some (.string T[i]) := by rw [Int.toNat_natCast, Nat.mul_one, svs_at hlt]
    have b0 : (0 : Int) ≤ (i : Int) := by omega
    have b1 : (i : Int) < ((T.length : Nat) : Int) := by omega
    have w1 : IntKind.i64.wrap ((i : Int) + 1) = ((i + 1 : Nat) : Int) := by rw [wrap_sm (by omega) (by omega)]; omega
    refine rn [(36, .ld [.s T[i]])] rfl (by (repeat' (first | exact trivial | exact rfl | exact e1 | exact fun _ => e1 | first | exact b0 | exact b1 | decide | refine And.intro ?_ ?_))) ?_
    refine ⟨fun h => ?_, fun h => ?_⟩
    · refine rn [] rfl (by repeat' (first | exact trivial | exact rfl | refine And.intro ?_ ?_)) (roundRet ?_)
      exact ret0 tysOk rfl (by repeat' (first | exact trivial | exact rfl | refine And.intro ?_ ?_)) rfl
    · have hs64 : T[i].size = 64 := by simp at h; omega
      refine rn [] rfl (by repeat' (first | exact trivial | exact rfl | refine And.intro ?_ ?_)) ?_
      exact roundEnd ⟨i + 1, by omega, fun k hk hk2 => by
        by_cases e : k = i
        · subst e; exact hs64
        · exact h64 k hk (by omega)⟩ [] (by show T.length - (i + 1) < T.length - i; omega) (by (repeat' (first | exact trivial | exact rfl | exact w1 | exact fun _ => w1 | refine And.intro ?_ ?_))) (by repeat' (first | exact trivial | exact rfl | refine And.intro ?_ ?_)) rfl
  · have hii : i = T.length := by have : ¬ (i : Int) < ((T.length : Nat) : Int) := of_decide_eq_false h; omega
    have hall64 : ∀ s ∈ T, s.size = 64 := fun s hs => by
      obtain ⟨k, hk, rfl⟩ := List.mem_iff_getElem.1 hs
      exact h64 k hk (by omega)
    clear h
    refine rn [] rfl (by repeat' (first | exact trivial | exact rfl | refine And.intro ?_ ?_)) (roundExit rfl ?_)
    refine rnA [] rfl (by repeat' (first | exact trivial | exact rfl | refine And.intro ?_ ?_)) ?_
    refine At.loop (X := (r : Nat) ×' (r ≤ n ∧ (dl T r).all (fun x => tok x.1 x.2) = true)) 3 (fun x => n - x.1)
      (fun x => [(1, .t (.c (.nm 0))), (2, .t (.c (.p 1 0))), (6, .t (.c (iT (n : Nat)))), (7, .t (.c (.nm 2))), (9, .t (.c (iT (x.1 : Nat))))])
      (fun x => [(0, some (false, .rd 1 T.length (svs T))), (1, some (true, .cells [iT a, iT b, iT c] 34)), (2, some (true, .own 49 2 x.1 (lcells (dl T x.1))))]) ⟨0, by omega, rfl⟩ [] (fun r => wf rfl rfl) (by repeat' (first | exact trivial | exact rfl | refine And.intro ?_ ?_)) (by repeat' (first | exact trivial | exact rfl | refine And.intro ?_ ?_)) rfl fun x => ?_
    obtain ⟨r, hr, hok⟩ := x
    refine rn [] rfl (by repeat' (first | exact trivial | exact rfl | refine And.intro ?_ ?_)) ?_
    refine ⟨fun h => ?_, fun h => ?_⟩
    · have hlt : r < n := by have : (r : Int) < ((n : Nat) : Int) := of_decide_eq_true h; omega
      obtain ⟨hq, f1, f2, f3⟩ := read_facts hT hlt hr9
      have hs64 := hall64 _ (List.getElem_mem hq)
      have ho : r % 16 * 4 ≤ 60 := by omega
      obtain ⟨g1, g2⟩ := sub_dle hs64 ho
      have hz := ext_size hs64 ho
      have hnum := num0 ((T[r / 16]'hq).extract (r % 16 * 4) (T[r / 16]'hq).size) 1 3 (by decide) (by omega) (by omega)
      have hmay := rmay0 (dle (T[r / 16]'hq) (r % 16 * 4))
      generalize hres : tok (dle (T[r / 16]'hq) (r % 16 * 4)).1 (dle (T[r / 16]'hq) (r % 16 * 4)).2 = res at hmay
      rw [lT, ← g1, ← g2] at hmay
      have b0 : 0 ≤ IntKind.i64.wrap ((r : Int).tdiv 16) := by omega
      have b1 : IntKind.i64.wrap ((r : Int).tdiv 16) < ((T.length : Nat) : Int) := by omega
      have w1 : IntKind.i64.wrap ((r : Int) + 1) = ((r + 1 : Nat) : Int) := by rw [wrap_sm (by omega) (by omega)]; omega
      have hto : (IntKind.i64.wrap ((r : Int).tmod 16 * 4)).toNat = r % 16 * 4 := by rw [f2]; rfl
      have b2 : 0 ≤ IntKind.i64.wrap ((r : Int).tmod 16 * 4) ∧ IntKind.i64.wrap ((r : Int).tmod 16 * 4) ≤ ((T[r / 16]'hq).size : Int) := by omega
      have b3 : (0 : Int) < (((T[r / 16]'hq).extract (r % 16 * 4) (T[r / 16]'hq).size).size : Int) := by omega
      rw [← hto] at hnum hmay b3
      refine rn [(48, .ld [.s (T[r / 16]'hq)]), (57, .ret (.t (.c (iT (numAt ((T[r / 16]'hq).extract (IntKind.i64.wrap ((r : Int).tmod 16 * 4)).toNat (T[r / 16]'hq).size) 1 3 : Nat))))), (60, .ret (.t (.c (.b res))))] rfl ?_ ?_
      · repeat' (first | exact trivial | exact rfl | exact f3 | exact hnum | exact hmay | exact b0 | exact b1 | exact b2 | exact b3 | (show (16 : Int) ≠ 0; decide) | (show (0 : Int) ≤ 0; decide) | refine And.intro ?_ ?_)
        all_goals decide
      refine ⟨fun h => ?_, fun h => ?_⟩
      · refine rn [] rfl (by repeat' (first | exact trivial | exact rfl | refine And.intro ?_ ?_)) (roundRet ?_)
        exact ret0 tysOk rfl (by repeat' (first | exact trivial | exact rfl | refine And.intro ?_ ?_)) rfl
      · have hk : tok (dle (T[r / 16]'hq) (r % 16 * 4)).1 (dle (T[r / 16]'hq) (r % 16 * 4)).2 = true := hres.trans (by simpa using h)
        refine rn [] rfl (by (repeat' (first | exact trivial | exact rfl | exact trivial | exact fun _ => trivial | first | (simp only [maxLen]; omega) | omega | decide | refine And.intro ?_ ?_))) ?_
        refine roundEnd ⟨r + 1, by omega, by rw [dl_succ, getD_at hq, List.all_append, hok]; simp [hk]⟩ [(2, 5)] (by show n - (r + 1) < n - r; omega) (by (repeat' (first | exact trivial | exact rfl | exact w1 | exact fun _ => w1 | refine And.intro ?_ ?_))) ?_ rfl
        repeat' (first | exact trivial | exact rfl | refine And.intro ?_ ?_)
        rw [app_eq, dl_succ, lcells_append, getD_at hq, hto]
        congr 1
        show [Value.int .i64 _, Value.int .i64 _] = [Value.int .i64 _, Value.int .i64 _]
        rw [g1, g2]
    · have hrr : r = n := by have : ¬ (r : Int) < ((n : Nat) : Int) := of_decide_eq_false h; omega
      subst hrr
      have hl := dl_length T r
      refine rn [] rfl (by repeat' (first | exact trivial | exact rfl | refine And.intro ?_ ?_)) (roundExit rfl ?_)
      have hsec := rsecs_h (dl T r) hok (by omega) (H := [(0, some (false, .rd 1 T.length (svs T))), (1, some (true, .cells [iT a, iT b, iT c] 34)), (2, some (true, .own 49 2 r (lcells (dl T r))))]) (nx := 3) (v := .c (.nm 2)) (by rw [hl]; exact SlR.own rfl)
      rw [hl] at hsec
      refine rnA [(67, .spec ⟨.t (.c (.nm 3)), [(true, .own 9 1 (nsec r) (svs (secs (tz (dl T r) r) (nsec r))))], [], []⟩)] rfl ?_ ?_
      · repeat' (first | exact trivial | exact rfl | exact hsec | refine And.intro ?_ ?_)
      have hwl := secs_length (tz (dl T r) r) (nsec r)
      have hne : secs (tz (dl T r) r) (nsec r) ≠ T := fun h => hd ⟨hall64, hok, h⟩
      generalize secs (tz (dl T r) r) (nsec r) = W at hwl hne
      refine At.loop (X := (i : Nat) ×' (i ≤ W.length ∧ W.take i = T.take i)) 4 (fun x => W.length - x.1)
        (fun x => [(1, .t (.c (.nm 0))), (12, .t (.c (.nm 3))), (13, .t (.c (iT (x.1 : Nat))))])
        (fun x => [(0, some (false, .rd 1 T.length (svs T))), (3, some (true, .own 9 1 (nsec r) (svs W)))]) ⟨0, by omega, rfl⟩ [] (fun r => wf rfl rfl) (by repeat' (first | exact trivial | exact rfl | refine And.intro ?_ ?_)) (by repeat' (first | exact trivial | exact rfl | refine And.intro ?_ ?_)) rfl fun x => ?_
      obtain ⟨i, hi, heq⟩ := x
      refine rn [] rfl (by repeat' (first | exact trivial | exact rfl | refine And.intro ?_ ?_)) ?_
      refine ⟨fun h => ?_, fun h => ?_⟩
      · have hlt : i < W.length := by have : (i : Int) < ((nsec r : Nat) : Int) := of_decide_eq_true h; omega
        have hlt2 : i < T.length := by omega
        have e1 : (svs W)[(i : Int).toNat * 1]? = some (.string W[i]) := by rw [Int.toNat_natCast, Nat.mul_one, svs_at hlt]
        have e2 : (svs T)[(i : Int).toNat * 1]? = some (.string T[i]) := by rw [Int.toNat_natCast, Nat.mul_one, svs_at hlt2]
        have b0 : (0 : Int) ≤ (i : Int) := by omega
        have b1 : (i : Int) < ((T.length : Nat) : Int) := by omega
        have b2 : (i : Int) < ((nsec r : Nat) : Int) := by omega
        have w1 : IntKind.i64.wrap ((i : Int) + 1) = ((i + 1 : Nat) : Int) := by rw [wrap_sm (by omega) (by omega)]; omega
        refine rn [(77, .ld [.s W[i]]), (81, .ld [.s T[i]])] rfl (by (repeat' (first | exact trivial | exact rfl | exact e1 | exact fun _ => e1 | first | exact e2 | exact b0 | exact b1 | exact b2 | decide | refine And.intro ?_ ?_))) ?_
        refine ⟨fun h => ?_, fun h => ?_⟩
        · refine rn [] rfl (by repeat' (first | exact trivial | exact rfl | refine And.intro ?_ ?_)) (roundRet ?_)
          exact ret0 tysOk rfl (by repeat' (first | exact trivial | exact rfl | refine And.intro ?_ ?_)) rfl
        · have he : W[i] = T[i] := by simp [bt_iff2] at h; exact h
          refine rn [] rfl (by repeat' (first | exact trivial | exact rfl | refine And.intro ?_ ?_)) ?_
          exact roundEnd ⟨i + 1, by omega, by rw [List.take_succ_eq_append_getElem hlt, List.take_succ_eq_append_getElem hlt2, heq, he]⟩ [] (by show W.length - (i + 1) < W.length - i; omega) (by (repeat' (first | exact trivial | exact rfl | exact w1 | exact fun _ => w1 | refine And.intro ?_ ?_))) (by repeat' (first | exact trivial | exact rfl | refine And.intro ?_ ?_)) rfl
      · have hii : i = W.length := by have : ¬ (i : Int) < ((nsec r : Nat) : Int) := of_decide_eq_false h; omega
        subst hii
        rw [List.take_length, List.take_of_length_le (by omega)] at heq
        exact absurd heq hne
set_option maxRecDepth 100000 in
set_option maxHeartbeats 4000000 in
theorem rdec_h {a b c : Int} {n : Nat} (T : List ByteArray) (hg : Gok a b c) (hn : gregions a b c = (n : Nat)) (hT : T.length = nsec n) (hd : Tdok T n) {H : HL} {nx : Nat} {v : TV} (hv : SlR H v T.length 1 (svs T)) :
    FnH Try.prog 37 [geoT a b c, v] H nx ⟨.tup [.c (.nm nx), .c (iT 0)], [(true, .own 49 2 n (lcells (dl T n)))], [], []⟩ := by
  obtain ⟨hr2, hr9⟩ := regions_two hg hn
  obtain ⟨hall64, hall, hsame⟩ := hd
  have hnm : 1 ≤ nsec n ∧ nsec n ≤ 9 := by unfold nsec; omega
  have hreg := rregions0 a b c
  rw [hn] at hreg
  have hs : (((n : Nat) : Int) == 0 || ((T.length : Nat) : Int) != IntKind.i64.wrap ((IntKind.i64.wrap (IntKind.i64.wrap ((n : Int) + 16) - 1)).tdiv 16)) = false := by
    rw [rshape (by omega), hT, Bool.or_eq_false_iff]
    exact ⟨by simp; omega, by simp⟩
  refine fnN (fn := Try.f37) 84 rfl rfl rfl (args' := [geoT a b c, .c (.nm 0)]) (H' := [(0, some (false, .rd 1 T.length (svs T)))]) (nx' := 1) (fun e w M => ?_) rfl rfl rfl (inR_one nx) rfl fun w => ?_
  · obtain ⟨e', M', q1⟩ := slr1 hv e w M
    exact ⟨e', M', by simp [q1]; rfl⟩
  refine rn [(15, .ret (.t (.c (iT (n : Nat))))), (26, .dec false)] rfl (by (repeat' (first | exact trivial | exact rfl | exact hreg | exact fun _ => hreg | first | exact hs | decide | exact fun _ => by decide | refine And.intro ?_ ?_))) ?_
  refine At.nil 7 49 2 rfl ?_
  refine At.loop (X := (i : Nat) ×' (i ≤ T.length)) 3 (fun x => T.length - x.1)
    (fun x => [(1, .t (.c (.nm 0))), (2, .t (.c (.p 1 0))), (6, .t (.c (iT (n : Nat)))), (7, .t (.c (.nm 2))), (8, .t (.c (iT (x.1 : Nat))))])
    (fun x => [(0, some (false, .rd 1 T.length (svs T))), (1, some (true, .cells [iT a, iT b, iT c] 34)), (2, some (true, .own 49 2 0 []))]) ⟨0, by omega⟩ [] (fun r => wf rfl rfl) (by repeat' (first | exact trivial | exact rfl | refine And.intro ?_ ?_)) (by repeat' (first | exact trivial | exact rfl | refine And.intro ?_ ?_)) rfl fun x => ?_
  obtain ⟨i, hi⟩ := x
  refine rn [] rfl (by repeat' (first | exact trivial | exact rfl | refine And.intro ?_ ?_)) ?_
  refine ⟨fun h => ?_, fun h => ?_⟩
  · have hlt : i < T.length := by have : (i : Int) < ((T.length : Nat) : Int) := of_decide_eq_true h; omega
    have e1 : (svs T)[(i : Int).toNat * 1]? = some (.string T[i]) := by rw [Int.toNat_natCast, Nat.mul_one, svs_at hlt]
    have b0 : (0 : Int) ≤ (i : Int) := by omega
    have b1 : (i : Int) < ((T.length : Nat) : Int) := by omega
    have c38 : ((T[i].size : Int) != 64) = false := by
      have := hall64 _ (List.getElem_mem hlt)
      simp [this]
    have w1 : IntKind.i64.wrap ((i : Int) + 1) = ((i + 1 : Nat) : Int) := by rw [wrap_sm (by omega) (by omega)]; omega
    refine rn [(36, .ld [.s T[i]]), (38, .dec false)] rfl (by (repeat' (first | exact trivial | exact rfl | exact e1 | exact fun _ => e1 | first | exact b0 | exact b1 | exact c38 | decide | refine And.intro ?_ ?_))) ?_
    exact roundEnd ⟨i + 1, by omega⟩ [] (by show T.length - (i + 1) < T.length - i; omega) (by (repeat' (first | exact trivial | exact rfl | exact w1 | exact fun _ => w1 | refine And.intro ?_ ?_))) (by repeat' (first | exact trivial | exact rfl | refine And.intro ?_ ?_)) rfl
  · clear h
    refine rn [] rfl (by repeat' (first | exact trivial | exact rfl | refine And.intro ?_ ?_)) (roundExit rfl ?_)
    refine rnA [] rfl (by repeat' (first | exact trivial | exact rfl | refine And.intro ?_ ?_)) ?_
    refine At.loop (X := (r : Nat) ×' (r ≤ n)) 3 (fun x => n - x.1)
      (fun x => [(1, .t (.c (.nm 0))), (2, .t (.c (.p 1 0))), (6, .t (.c (iT (n : Nat)))), (7, .t (.c (.nm 2))), (9, .t (.c (iT (x.1 : Nat))))])
      (fun x => [(0, some (false, .rd 1 T.length (svs T))), (1, some (true, .cells [iT a, iT b, iT c] 34)), (2, some (true, .own 49 2 x.1 (lcells (dl T x.1))))]) ⟨0, by omega⟩ [] (fun r => wf rfl rfl) (by repeat' (first | exact trivial | exact rfl | refine And.intro ?_ ?_)) (by repeat' (first | exact trivial | exact rfl | refine And.intro ?_ ?_)) rfl fun x => ?_
    obtain ⟨r, hr⟩ := x
    refine rn [] rfl (by repeat' (first | exact trivial | exact rfl | refine And.intro ?_ ?_)) ?_
    refine ⟨fun h => ?_, fun h => ?_⟩
    · have hlt : r < n := by have : (r : Int) < ((n : Nat) : Int) := of_decide_eq_true h; omega
      obtain ⟨hq, f1, f2, f3⟩ := read_facts hT hlt hr9
      have hs64 := hall64 _ (List.getElem_mem hq)
      have ho : r % 16 * 4 ≤ 60 := by omega
      obtain ⟨g1, g2⟩ := sub_dle hs64 ho
      have hz := ext_size hs64 ho
      have hnum := num0 ((T[r / 16]'hq).extract (r % 16 * 4) (T[r / 16]'hq).size) 1 3 (by decide) (by omega) (by omega)
      have hmay := rmay0 (dle (T[r / 16]'hq) (r % 16 * 4))
      have hres : tok (dle (T[r / 16]'hq) (r % 16 * 4)).1 (dle (T[r / 16]'hq) (r % 16 * 4)).2 = true := by
        have h1 : (dl T n)[r]'(by rw [dl_length]; exact hlt) = dle (T[r / 16]'hq) (r % 16 * 4) := by
          simp only [dl, List.getElem_map, List.getElem_range, getD_at hq]
        rw [← h1]
        exact List.all_eq_true.1 hall _ (List.getElem_mem _)
      rw [hres] at hmay
      rw [lT, ← g1, ← g2] at hmay
      have b0 : 0 ≤ IntKind.i64.wrap ((r : Int).tdiv 16) := by omega
      have b1 : IntKind.i64.wrap ((r : Int).tdiv 16) < ((T.length : Nat) : Int) := by omega
      have w1 : IntKind.i64.wrap ((r : Int) + 1) = ((r + 1 : Nat) : Int) := by rw [wrap_sm (by omega) (by omega)]; omega
      have hto : (IntKind.i64.wrap ((r : Int).tmod 16 * 4)).toNat = r % 16 * 4 := by rw [f2]; rfl
      have b2 : 0 ≤ IntKind.i64.wrap ((r : Int).tmod 16 * 4) ∧ IntKind.i64.wrap ((r : Int).tmod 16 * 4) ≤ ((T[r / 16]'hq).size : Int) := by omega
      have b3 : (0 : Int) < (((T[r / 16]'hq).extract (r % 16 * 4) (T[r / 16]'hq).size).size : Int) := by omega
      rw [← hto] at hnum hmay b3
      refine rn [(48, .ld [.s (T[r / 16]'hq)]), (57, .ret (.t (.c (iT (numAt ((T[r / 16]'hq).extract (IntKind.i64.wrap ((r : Int).tmod 16 * 4)).toNat (T[r / 16]'hq).size) 1 3 : Nat))))), (60, .ret (.t (.c (.b true)))), (61, .dec false)] rfl ?_ ?_
      · repeat' (first | exact trivial | exact rfl | exact f3 | exact hnum | exact hmay | exact b0 | exact b1 | exact b2 | exact b3 | (show (16 : Int) ≠ 0; decide) | (show (0 : Int) ≤ 0; decide) | refine And.intro ?_ ?_)
        all_goals first | (simp only [maxLen]; omega) | omega | decide
      · refine roundEnd ⟨r + 1, by omega⟩ [(2, 5)] (by show n - (r + 1) < n - r; omega) (by (repeat' (first | exact trivial | exact rfl | exact w1 | exact fun _ => w1 | refine And.intro ?_ ?_))) ?_ rfl
        repeat' (first | exact trivial | exact rfl | refine And.intro ?_ ?_)
        rw [app_eq, dl_succ, lcells_append, getD_at hq, hto]
        congr 1
        show [Value.int .i64 _, Value.int .i64 _] = [Value.int .i64 _, Value.int .i64 _]
        rw [g1, g2]
    · have hrr : r = n := by have : ¬ (r : Int) < ((n : Nat) : Int) := of_decide_eq_false h; omega
      subst hrr
      have hl := dl_length T r
      refine rn [] rfl (by repeat' (first | exact trivial | exact rfl | refine And.intro ?_ ?_)) (roundExit rfl ?_)
      have hsec := rsecs_h (dl T r) hall (by omega) (H := [(0, some (false, .rd 1 T.length (svs T))), (1, some (true, .cells [iT a, iT b, iT c] 34)), (2, some (true, .own 49 2 r (lcells (dl T r))))]) (nx := 3) (v := .c (.nm 2)) (by rw [hl]; exact SlR.own rfl)
      rw [hl, hsame] at hsec
      refine rnA [(67, .spec ⟨.t (.c (.nm 3)), [(true, .own 9 1 (nsec r) (svs T))], [], []⟩)] rfl ?_ ?_
      · repeat' (first | exact trivial | exact rfl | exact hsec | refine And.intro ?_ ?_)
      refine At.loop (X := (i : Nat) ×' (i ≤ T.length)) 4 (fun x => T.length - x.1)
        (fun x => [(1, .t (.c (.nm 0))), (7, .t (.c (.nm 2))), (12, .t (.c (.nm 3))), (13, .t (.c (iT (x.1 : Nat))))])
        (fun x => [(0, some (false, .rd 1 T.length (svs T))), (2, some (true, .own 49 2 r (lcells (dl T r)))), (3, some (true, .own 9 1 (nsec r) (svs T)))]) ⟨0, by omega⟩ [] (fun r => wf rfl rfl) (by repeat' (first | exact trivial | exact rfl | refine And.intro ?_ ?_)) (by repeat' (first | exact trivial | exact rfl | refine And.intro ?_ ?_)) rfl fun x => ?_
      obtain ⟨i, hi⟩ := x
      refine rn [] rfl (by repeat' (first | exact trivial | exact rfl | refine And.intro ?_ ?_)) ?_
      refine ⟨fun h => ?_, fun h => ?_⟩
      · have hlt : i < T.length := by have : (i : Int) < ((nsec r : Nat) : Int) := of_decide_eq_true h; omega
        have e1 : (svs T)[(i : Int).toNat * 1]? = some (.string T[i]) := by rw [Int.toNat_natCast, Nat.mul_one, svs_at hlt]
        have b0 : (0 : Int) ≤ (i : Int) := by omega
        have b1 : (i : Int) < ((T.length : Nat) : Int) := by omega
        have b2 : (i : Int) < ((nsec r : Nat) : Int) := by omega
        have w1 : IntKind.i64.wrap ((i : Int) + 1) = ((i + 1 : Nat) : Int) := by rw [wrap_sm (by omega) (by omega)]; omega
        refine rn [(77, .ld [.s T[i]]), (81, .ld [.s T[i]]), (82, .dec false)] rfl (by (repeat' (first | exact trivial | exact rfl | exact e1 | exact fun _ => e1 | first | exact b0 | exact b1 | exact b2 | (simp; done) | decide | refine And.intro ?_ ?_))) ?_
        exact roundEnd ⟨i + 1, by omega⟩ [] (by show T.length - (i + 1) < T.length - i; omega) (by (repeat' (first | exact trivial | exact rfl | exact w1 | exact fun _ => w1 | refine And.intro ?_ ?_))) (by repeat' (first | exact trivial | exact rfl | refine And.intro ?_ ?_)) rfl
      · refine rn [] rfl (by repeat' (first | exact trivial | exact rfl | refine And.intro ?_ ?_)) (roundExit rfl ?_)
        refine rnA [] rfl (by repeat' (first | exact trivial | exact rfl | refine And.intro ?_ ?_)) ?_
        exact retN tysOk [(nx, 2)] rfl (by simp only [retS, SV.eqs, eqsT, TV.eqs, CV.eqs, ren_one]; repeat' (first | exact trivial | exact rfl | refine And.intro ?_ ?_)) (by simp only [newsH, subH, ren_one]; repeat' (first | exact trivial | exact rfl | refine And.intro ?_ ?_)) (by simp [injK, keysH, newsH, inL]) rfl
set_option maxRecDepth 100000 in
set_option maxHeartbeats 4000000 in
theorem treads_h (a b c : Int) (T : List ByteArray) (hz : ∀ s ∈ T, s.size ≤ 9223372036854775807) (zT : T.length * 16 ≤ 140737488351232) :
    FnH Try.prog 7 [geoT a b c, .c (.nm 0)] [(0, some (false, .rd 1 T.length (svs T)))] 1 ⟨.t (.c (.b true)), [], [], []⟩ := by
  refine fnR (fn := Try.f7) 41 rfl rfl rfl (args' := [geoT a b c, .c (.nm 0)]) (H' := [(0, some (false, .rd 1 T.length (svs T)))]) (nx' := 1) (fun e w M => ?_) rfl rfl rfl rfl fun w => ?_
  · obtain ⟨e', M', q1⟩ := slr1 (v := .c (.nm 0)) (SlR.rd rfl) e w M
    exact ⟨e', M', by simp [q1]; rfl⟩
  rcases tdec_all a b c T hz with ⟨n, hg, hn, hT, hd⟩ | ⟨k, hk, hwhy, hdec⟩
  · have hl := dl_length T n
    have hr9 := (regions_two hg hn).2
    refine rn [(10, .dec true), (16, .spec ⟨.tup [.c (.nm 4), .c (iT 0)], [(true, .own 49 2 n (lcells (dl T n)))], [], []⟩), (22, .spec ⟨.tup [.c (.nm 5), .c (iT 0)], [(true, .own 49 2 n (lcells (dl T n)))], [], []⟩), (27, .spec ⟨.t (.c (.b (decide (dl T n = dl T n)))), [], [], []⟩), (36, .spec ⟨.t (.c (.b (decide (T = T)))), [], [], []⟩), (39, .ret (.t (.c (.b true))))] rfl ?_ ?_
    · repeat' (first | exact trivial | exact rfl | exact svs_one T | exact tdec_h T hg hn hT hd (SlR.own0 rfl) | exact rdec_h T hg hn hT hd (SlR.rd rfl) | exact fun _ => tworks0 | exact tworks0 | refine And.intro ?_ ?_)
      all_goals first | (simp only [maxLen]; omega) | omega | ((first | intro _ | skip); first | exact lsame_h (by rw [hl]; exact SlR.own rfl) (by rw [hl]; exact SlR.own rfl) (by omega) | exact sameTexts_h (SlR.own0 rfl) (SlR.rd rfl) (by omega))
    · refine ret0 tysOk rfl ⟨?_, trivial⟩ rfl
      simp [polB]
  · have hren : ∀ {H : HL} {nx : Nat} {v : TV}, SlR H v T.length 1 (svs T) → FnH Try.prog 37 [geoT a b c, v] H nx ⟨.tup [.c .nsl, .c (iT k)], [], [], []⟩ := by
      rcases hwhy with ⟨rfl, hno⟩ | ⟨rfl, hg, hT, hd⟩
      · exact fun hv => rdec_no4 T hno hv
      · exact fun hv => rdec_no80 T hg (regions_nat a b c) hT hd hv
    refine rn [(10, .dec true), (16, .spec ⟨.tup [.c .nsl, .c (iT k)], [], [], []⟩), (22, .spec ⟨.tup [.c .nsl, .c (iT k)], [], [], []⟩), (27, .spec ⟨.t (.c (.b (decide (([] : List Ls) = [])))), [], [], []⟩), (36, .spec ⟨.t (.c (.b (decide (T = T)))), [], [], []⟩), (39, .ret (.t (.c (.b true))))] rfl ?_ ?_
    · repeat' (first | exact trivial | exact rfl | exact svs_one T | exact hdec (SlR.own0 rfl) | exact hren (SlR.rd rfl) | exact fun _ => tworks0 | exact tworks0 | refine And.intro ?_ ?_)
      all_goals first | (simp only [maxLen]; omega) | omega | ((first | intro _ | skip); first | exact lsame_h SlR.nil SlR.nil (by decide) | exact sameTexts_h (SlR.own0 rfl) (SlR.rd rfl) (by omega))
    · refine ret0 tysOk rfl ⟨?_, trivial⟩ rfl
      simp [polB]
theorem tableReads_true (a b c : Int) (T : List ByteArray) (A1 : Option Addr) (c1 : Nat) (w : World) (hz : ∀ s ∈ T, s.size ≤ 9223372036854775807) (zT : T.length * 16 ≤ 140737488351232) (h1 : Vc.Rds w A1 T.length c1 1 (svs T)) :
    Calls Try.prog 7 #[geo a b c, .slice A1 T.length c1] w fun e w' => e = .returned (.bool true) ∧ RowKit.Below w.heap.size w w' := by
  obtain ⟨e, M, v0⟩ := memr1 h1
  have := fnh_law (treads_h a b c T hz zT) rfl rfl M
  rw [show ([geoT a b c, .c (.nm 0)] : List TV).map (TV.den e) = [geo a b c, e.val 0] from rfl, v0] at this
  exact this
end Cw
namespace Go.Proofs.Ytigaallhjlmhbaa
open Go.ChangeShapes Go.WideShapes Go.ChangeAt Go.RowKit Go.Joins


theorem flat_leases : ∀ (L : List (List Value)), (∀ r ∈ L, Cw.AllK [0, 0] r) → ∃ M : List Cw.Ls, L.length = M.length ∧ L.flatten = Cw.lcells M
  | [], _ => ⟨[], rfl, rfl⟩
  | r :: L, h => by
    obtain ⟨M, h1, h2⟩ := flat_leases L fun r hr => h r (List.mem_cons.2 (Or.inr hr))
    obtain ⟨_, _, rfl, ⟨x, rfl, _⟩, _, _, rfl, ⟨y, rfl, _⟩, h3⟩ := h r (by simp)
    have h3' : _ = [] := h3
    subst h3'
    exact ⟨(x, y) :: M, by simp [h1], by simp [h2, Cw.lcells]⟩
theorem flat_texts : ∀ (L : List (List Value)), (∀ r ∈ L, Cw.AllK [1] r) → ∃ M : List ByteArray, L.length = M.length ∧ L.flatten = Cw.svs M ∧ ∀ s ∈ M, s.size ≤ maxLen
  | [], _ => ⟨[], rfl, rfl, by simp⟩
  | r :: L, h => by
    obtain ⟨M, h1, h2, h4⟩ := flat_texts L fun r hr => h r (List.mem_cons.2 (Or.inr hr))
    obtain ⟨_, _, rfl, ⟨x, rfl, hx⟩, h3⟩ := h r (by simp)
    have h3' : _ = [] := h3
    subst h3'
    exact ⟨x :: M, by simp [h1], by simp [h2, Cw.svs], by simp; exact ⟨hx, h4⟩⟩

set_option maxRecDepth 100000 in
theorem tableReads_lifted (os : Os) (started : os.Started) (H : Type) (enc : TypeId × Value → H) :
    ReturnsInHanded {} Try.checked os 7 .any (Rows.tableReadsSpec.pre6 enc Try.prog Try.f7 Rows.tableReadsRow.domain false) (Rows.tableReadsSpec.post enc Try.prog Try.f7 false true false false) := by
  refine returnsInHanded_of_change_sized (C := Try.checked) Try.own started (by kernel_rfl) Try.func7
    (ChangeSpec.witness6 (enc := enc) (C := Try.checked) false ⟨#[], #[.agg #[.int .i64 0, .int .i64 0, .int .i64 0], .slice none 0 0], []⟩ 8 (by kernel_rfl) (by kernel_rfl) (by kernel_rfl) (by kernel_rfl)) ?_
  intro W base args ds gs before hval0 hW hcnd hsz0 _
  have hval : ∀ (j : Nat) t v, Try.f7.params[j]? = some t → args[j]? = some v → Value.okWide Try.prog W .any base t v := hval0
  have hsz : (DataW.weightsEach Try.prog (Try.f7.params.toList ++ Rows.tableReadsSpec.plain.varTypes Try.prog) (ds ++ gs)).all (· ≤ reachBytes) = true := hsz0
  have hW' := hW
  obtain ⟨p, q, hA0, hV, rfl, hfz, hnd⟩ := hW
  have hA : DataW.TrodAll enc Try.prog W 0 (fun _ => true) true Try.f7.params.toList args.toList ds p := hA0
  rw [Try.params7] at hA hval hsz
  obtain ⟨v0, v1, d0, d1, p0, p1, rfl, rfl, hpp, h0, h1⟩ := trodAll_two hA
  obtain ⟨rfl, rfl⟩ := trodVars_none hV
  obtain ⟨a, b, c, rfl, wa, wb, wc⟩ := Cw.open_three Try.underlying34 (by kernel_rfl) (by kernel_rfl) Try.underlying3 rfl rfl rfl (hval 0 34 v0 rfl rfl) h0
  obtain ⟨A1, c1, L1, rfl, hL1, hR1, hD1⟩ := Cw.open_rows 4 (ks := [1]) Try.underlying36 (by kernel_rfl) (by kernel_rfl) (by decide) (Cw.okWide_slice Try.underlying36 (hval 1 36 v1 rfl rfl)) h1
  have hz1 := Cw.sized_rows hsz 1 (t := 36) (e := 9) (b := 16) rfl rfl Try.underlying36 (by kernel_rfl) hD1
  obtain ⟨T, hT1, hT2, hT3⟩ := flat_texts L1 hL1
  rw [hT1, hT2] at hR1
  rw [hT1] at hz1
  rw [hT1] at hW' ⊢
  refine (Cw.tableReads_true a b c T A1 c1 W hT3 hz1 hR1).mono fun e W' ⟨he, hb⟩ => ⟨.bool true, he, ?_⟩
  exact Cw.post_law Try.laidOut rfl Try.underlying4 rfl (by kernel_rfl) hW' rfl hb
set_option maxRecDepth 100000 in
set_option maxHeartbeats 8000000 in
theorem tableReads_closed : joinedFacts Try.pinned.checked.prog 7 Try.f7 Rows.tableReadsSpec Rows.tableReadsRow = true := by
  unfold joinedFacts
  exact band (band (band (band (band (band (band (band (band (band (band (band (band (band (band (band (band (band (band (band (band (band (band (band (band (band (band (band (band (band (band (by as_aux_lemma => kernel_rfl) Try.laidOut) f_maps) (by as_aux_lemma => kernel_rfl)) (by as_aux_lemma => kernel_rfl)) (by as_aux_lemma => kernel_rfl)) (by as_aux_lemma => kernel_rfl)) (by as_aux_lemma => kernel_rfl)) (by as_aux_lemma => kernel_rfl)) (by as_aux_lemma => kernel_rfl)) (by as_aux_lemma => kernel_rfl)) (by as_aux_lemma => kernel_rfl)) (by as_aux_lemma => kernel_rfl)) (by as_aux_lemma => kernel_rfl)) (by as_aux_lemma => kernel_rfl)) (by as_aux_lemma => kernel_rfl)) (by as_aux_lemma => kernel_rfl)) (by as_aux_lemma => kernel_rfl)) (by as_aux_lemma => kernel_rfl)) (by as_aux_lemma => kernel_rfl)) (by as_aux_lemma => kernel_rfl)) (by as_aux_lemma => kernel_rfl)) f_keys) (by as_aux_lemma => kernel_rfl)) f_heard) f_enter) f_lift) f_make) (by as_aux_lemma => kernel_rfl)) (by as_aux_lemma => kernel_rfl)) (by as_aux_lemma => kernel_rfl)) (by as_aux_lemma => kernel_rfl)
theorem tableReads_named : Try.pinned.checked.prog.funcNamed Rows.tableReadsRow.func = some 7 := by kernel_rfl
theorem tableReads_inst : decide (Try.f7.isInstance Try.pinned.checked.prog Rows.tableReadsRow.origin Rows.tableReadsRow.targs) = true := by kernel_rfl
theorem tableReads_holds : Rows.TableReadsSaid :=
  OpenClaim.holds_of_wide 7 Try.f7 rfl rfl rfl rfl rfl rfl rfl ⟨rfl, rfl, rfl, rfl, rfl⟩ rfl rfl rfl rfl rfl tableReads_named Try.func7 tableReads_closed
    (of_decide_eq_true tableReads_inst) (by unfold Func.isWrapper; rw [if_neg (of_decide_eq_false (by kernel_rfl))]; exact ⟨rfl, rfl⟩)
    (fun os started H enc _ => tableReads_lifted os started H enc)
end Go.Proofs.Ytigaallhjlmhbaa
