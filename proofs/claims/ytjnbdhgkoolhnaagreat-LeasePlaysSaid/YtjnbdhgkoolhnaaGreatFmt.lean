/- The document's empty file system (cutwaterref15.Format), by reckoning. -/
import Derived.Test.YtjnbdhgkoolhnaaGreatInoT
import Derived.Test.YtjnbdhgkoolhnaaGreatTabR
import Derived.Test.YtjnbdhgkoolhnaaGreatRDsk
import Derived.Test.YtjnbdhgkoolhnaaGreatFnV
namespace Cw
open Go Vc
open Go.Proofs
set_option maxRecDepth 100000
theorem rpad7 (s : ByteArray) (hs : s.size = 7) : Fn0 Tryz.prog 78 [.c (.s s)] (.t (.c (.s (s ++ S (List.replicate 57 0))))) := by
  refine fn0 (fn := Tryz.f78) 10 rfl rfl rfl rfl rfl fun w => ?_
  have w1 : IntKind.i64.wrap (64 - (s.size : Int)) = 57 := by rw [hs]; rfl
  have hz : s.size + (S (List.replicate 57 0)).size ≤ 9223372036854775807 := by rw [hs, S_size]; decide
  have c1 : (0 : Int) ≤ IntKind.i64.wrap (64 - (s.size : Int)) := by rw [w1]; decide
  have c2 : 1 * (IntKind.i64.wrap (64 - (s.size : Int))).toNat ≤ 281474976710656 := by rw [w1]; decide
  have c3 : (IntKind.i64.wrap (64 - (s.size : Int))).toNat ≤ maxLen := by rw [w1]; decide
  have c4 : (repl (IntKind.i64.wrap (64 - (s.size : Int))).toNat [CV.i .u8 0]).map (CV.den e0) = (S (List.replicate 57 0)).data.toList.map (fun c => Value.int .u8 c.toNat) := by rw [w1]; rfl
  have c5 : (IntKind.i64.wrap (64 - (s.size : Int))).toNat = (S (List.replicate 57 0)).size := by rw [w1]; rfl
  refine rn [(8, .ret (.t (.c (.s (S (List.replicate 57 0))))))] rfl (by (repeat' (first | exact trivial | exact rfl | exact trivial | exact fun _ => trivial | first | exact hz | exact c1 | exact c2 | exact c3 | exact c4 | exact c5 | refine And.intro ?_ ?_))) ?_
  exact ret0 tysOk rfl (by repeat' (first | exact trivial | exact rfl | refine And.intro ?_ ?_)) rfl
/-- The first sector. -/
def supHR (a b c : Int) : ByteArray := ⟨#[67, 85, 84, 87]⟩ ++ ⟨#[UInt8.ofNat (IntKind.u8.wrap a).toNat, UInt8.ofNat (IntKind.u8.wrap b).toNat, UInt8.ofNat (IntKind.u8.wrap c).toNat]⟩
def supBR (a b c : Int) : ByteArray := supHR a b c ++ S (List.replicate 57 0)
theorem supBR_size (a b c : Int) : (supBR a b c).size = 64 := by rw [supBR, bsz, show (supHR a b c).size = 7 from rfl, S_size]; rfl
set_option maxRecDepth 100000 in
set_option maxHeartbeats 4000000 in
theorem rsup0 (a b c : Int) : Fn0 Tryz.prog 30 [geoT a b c] (.t (.c (.s (supBR a b c)))) := by
  refine fn0 (fn := Tryz.f30) 16 rfl rfl rfl rfl rfl fun w => ?_
  have hp := rpad7 (supHR a b c) rfl
  refine rn [(15, .ret (.t (.c (.s (supBR a b c)))))] rfl (by (repeat' (first | exact trivial | exact rfl | exact trivial | exact fun _ => trivial | first | exact hp | rfl | (show (4 : Nat) + 3 ≤ 9223372036854775807; omega) | decide | refine And.intro ?_ ?_))) ?_
  exact ret0 tysOk rfl (by repeat' (first | exact trivial | exact rfl | refine And.intro ?_ ?_)) rfl
theorem rmany0 {n : Int} (hn : 1 ≤ n ∧ n ≤ 64) : Fn0 Tryz.prog 80 [.c (iT n)] (.t (.c (.b true))) := by
  refine fn0 (fn := Tryz.f80) 9 rfl rfl rfl rfl rfl fun w => ?_
  have h1 : decide (1 ≤ n) = true := decide_eq_true hn.1
  have h2 : decide (n ≤ 64) = true := decide_eq_true hn.2
  refine rn [(5, .dec true)] rfl (by (repeat' (first | exact trivial | exact rfl | exact trivial | exact fun _ => trivial | first | exact h1 | exact h2 | rfl | refine And.intro ?_ ?_))) ?_
  exact ret0 tysOk rfl (by (repeat' (first | exact trivial | exact rfl | exact trivial | exact fun _ => trivial | first | exact h2 | exact h1 | refine And.intro ?_ ?_))) rfl
/-- A slice that is built for a call. -/
theorem SlR.lit {H : HL} {k m : Nat} {b : Bool} {T : TypeId} {cs : List CV} {xs : List Value} (hk : lookH H k = some (b, .cells cs T)) (hm : cs.length = m) (hz : m ≤ maxLen) (h0 : 0 < m) (hx : ∀ e : Env, cs.map (CV.den e) = xs) : SlR H (.c (.sl k 0 m m)) m 1 xs := by
  intro e w M
  obtain ⟨⟨hfp, hblk⟩, hlt⟩ := M.ob k b _ hk
  refine ⟨some ⟨e.blk k, 0, none⟩, m, rfl, ⟨by rw [← hx e, List.length_map, hm, Nat.mul_one], Nat.le_refl _, hz, fun h => (by cases h), fun j u hu => ⟨_, rfl, ?_⟩⟩, fun a ha _ => ?_⟩
  · rw [lit_add, cell_of_row w (e.blk k) _ _ T (0, 0) hblk, hx]
    simpa using hu
  · cases ha
    exact (Array.getElem?_eq_some_iff.1 hblk).1
theorem secs_sz64 {n : Nat} {s : ByteArray} (hs : s ∈ tsecs (tz (List.replicate n (0, 0)) n) (nsec n)) : s.size = 64 := by
  obtain ⟨j, hj, rfl⟩ := List.getElem_of_mem hs
  rw [secs_get, S_size]
  rw [secs_length] at hj
  exact sec_length (tz_length (List.replicate n (0, 0)) n (by simp) ▸ by simp) hj
def mapBR : ByteArray := S (1 :: List.replicate 63 0)
set_option maxRecDepth 100000 in
set_option maxHeartbeats 4000000 in
theorem rmapsOf_h {H : HL} {nx : Nat} {v : TV} {n : Int} (hn : 1 ≤ n ∧ n ≤ 64) (hv : SlR H v 1 1 (ivs [0])) :
    FnH Tryz.prog 32 [.c (iT n), v] H nx ⟨.tup [.c (.s mapBR), .c (iT 0)], [], [], []⟩ := by
  refine fnR (fn := Tryz.f32) 39 rfl rfl rfl (args' := [.c (iT n), .c (.nm 0)]) (H' := [(0, some (false, .rd 1 1 (ivs [0])))]) (nx' := 1) (fun e w M => ?_) rfl rfl rfl rfl fun w => ?_
  · obtain ⟨e', M', q1⟩ := slr1 hv e w M
    exact ⟨e', M', by simp [q1]; rfl⟩
  have hm := rmany0 hn
  have h3 : decide (n ≤ 0) = false := decide_eq_false (by omega)
  refine rn [(9, .ret (.t (.c (.b true)))), (10, .dec false)] rfl (by (repeat' (first | exact trivial | exact rfl | exact trivial | exact fun _ => trivial | first | exact hm | rfl | decide | refine And.intro ?_ ?_))) ?_
  refine At.unroll ?_
  refine rn [(15, .dec true), (21, .ld [iT 0]), (23, .dec false), (27, .ld [iT 0]), (30, .dec false), (35, .ld [iT 0])] rfl (by (repeat' (first | exact trivial | exact rfl | exact trivial | exact fun _ => trivial | first | exact h3 | rfl | decide | refine And.intro ?_ ?_))) (nextRound ?_)
  refine rn [(15, .dec false)] rfl (by (repeat' (first | exact trivial | exact rfl | exact trivial | exact fun _ => trivial | decide | refine And.intro ?_ ?_))) (nextExit rfl ?_)
  refine rnA [(38, .ret (.t (.c (.s mapBR))))] rfl (by (repeat' (first | exact trivial | exact rfl | exact trivial | exact fun _ => trivial | first | rfl | decide | refine And.intro ?_ ?_))) ?_
  exact ret0 tysOk rfl (by repeat' (first | exact trivial | exact rfl | refine And.intro ?_ ?_)) rfl
def rootR : Ino := ⟨2, 1, 0, 1, 1, fun _ => 0, 0⟩
theorem rroot0 : Fn0 Tryz.prog 34 [] (.t (inoT rootR)) := by
  refine fn0 (fn := Tryz.f34) 2 rfl rfl rfl rfl rfl fun w => ?_
  refine rn [] rfl (by repeat' (first | exact trivial | exact rfl | refine And.intro ?_ ?_)) ?_
  exact ret0 tysOk rfl (by repeat' (first | exact trivial | exact rfl | refine And.intro ?_ ?_)) rfl
theorem ibd_root : Ibd rootR := by
  refine ⟨by decide, by decide, by decide, by decide, by decide, fun i _ => ⟨Int.le_refl 0, by show (0 : Int) ≤ 402; decide⟩, by decide⟩
theorem rall_h {a b c : Nat} (h : Gok a b c) {H : HL} {nx : Nat} : FnH Tryz.prog 26 [geoT a b c] H nx ⟨.t (.c (.nm nx)), [(true, .own 70 4 (things a b c).length (fcs thCells (things a b c)))], [], []⟩ := by
  refine ⟨fun _ _ e w M => ?_⟩
  refine Calls.mono (all_any a b c h w) ?_
  rintro en w' ⟨v, rfl, hb, _, _, hrow⟩
  rw [List.flatMap_def] at hrow
  have h1v := own_one hrow
  refine ⟨e.newV nx v, ?_, Mv.own (row := none) ⟨hb.os, hb.tape, hb.output, hb.size, fun g hg _ => hb.block g hg⟩ (own_down hrow) (fun g hg => by cases hg) (fun g hg => .inr (Nat.le_of_succ_le (hrow.lt g hg).1)) (fun n o ho => by cases ho)⟩
  simp only [SV.den, TV.den, CV.den, Env.newV_val _ _ h1v]
/-- The text of a sector, by its kind and number. -/
def fmtT (a b c : Int) (tb : List ByteArray) (x : Nat × Nat × Nat × Nat) : ByteArray :=
  if x.1 = 0 then supBR a b c else if x.1 = 1 then wallB 0 0 else if x.1 = 2 then tb.getD x.2.1 B0 else if x.1 = 3 ∧ x.2.1 = 0 then mapBR else if x.1 = 5 ∧ x.2.1 = 1 then S (ibytes rootR) else B0
def tbR (a b c : Nat) : List ByteArray := tsecs (tz (List.replicate (a + a * b) (0, 0)) (a + a * b)) (nsec (a + a * b))
def fmtR (a b c : Nat) : List ByteArray := (things a b c).map (fmtT a b c (tbR a b c))
theorem fmtR_len (a b c : Nat) : (fmtR a b c).length = size a b c := by rw [fmtR, List.length_map, things_length]
theorem tbR_len (a b c : Nat) : (tbR a b c).length = nsec (a + a * b) := secs_length _ _
theorem things_two {a b c : Nat} {x : Nat × Nat × Nat × Nat} (h : x ∈ things a b c) (h2 : x.1 = 2) : x.2.1 < nsec (a + a * b) := by
  unfold things at h
  simp only [List.mem_append, List.mem_cons, List.not_mem_nil, or_false, List.mem_map, List.mem_range, List.mem_flatMap] at h
  rcases h with (h | ⟨i, hi, rfl⟩) | ⟨k, _, (((h | h) | ⟨i, _, h⟩) | ⟨i, _, h⟩)⟩
  · rcases h with h | h <;> (rw [h] at h2; exact absurd h2 (by decide))
  · exact hi
  all_goals (subst h; simp at h2)
theorem size_bdN {a b c : Nat} (h : Gok a b c) : 4 ≤ size a b c ∧ size a b c ≤ 403 := by
  have p := ab_bd h
  obtain ⟨h1, h2, h3, h4, h5, h6⟩ := h
  have e : ((a * b : Nat) : Int) = (a : Int) * b := by simp
  have p1 : 1 * (2 + b + c) ≤ a * (2 + b + c) := Nat.mul_le_mul_right _ (by omega)
  have p2 : a * (2 + b + c) ≤ 4 * 98 := Nat.mul_le_mul (by omega) (by omega)
  unfold size tabs
  omega

set_option maxRecDepth 100000 in
set_option maxHeartbeats 16000000 in
theorem rformat_h {a b c : Nat} (hg : Gok a b c) {H : HL} {nx : Nat} : FnH Tryz.prog 6 [geoT a b c] H nx ⟨.tup [.c (.nm nx), .c (iT 0)], [(true, .own 9 1 (size a b c) (svs (fmtR a b c)))], [], []⟩ := by
  refine fnM (fn := Tryz.f6) 102 rfl rfl rfl (args' := [geoT a b c]) (H' := []) (nx' := 0) [] (fun e w M => ⟨e, ⟨fun n b o h => (by cases h), fun n o m c q h => (by cases h)⟩, rfl⟩) rfl rfl rfl (fun e w M u hu => by cases hu) (fun u hu => by cases hu) (by simp) (v' := .tup [.c (.nm 0), .c (iT 0)]) (news' := [(true, .own 9 1 (size a b c) (svs (fmtR a b c)))]) rfl rfl rfl rfl rfl fun w Wr => ?_
  have hck := rcheckT0 a b c
  rw [gcheck, if_pos hg] at hck
  have hre := rregions0 a b c
  have hr : gregions a b c = ((a + a * b : Nat) : Int) := by rw [gregions, if_pos hg]; simp
  rw [hr] at hre
  have p := ab_bd hg
  have pe : ((a * b : Nat) : Int) = (a : Int) * b := by simp
  have hrb : a + a * b ≤ 132 := by have := hg.2.1; omega
  have hal := fun (H : HL) (nx : Nat) => rall_h (H := H) (nx := nx) hg
  have hsb := size_bdN hg
  rw [things_length] at hal
  have hsc := fun (H : HL) (nx : Nat) (h2 : lookH H 2 = some (true, .own 46 2 (a + a * b) ((repl (a + a * b) [CV.i .i64 0, CV.i .i64 0]).map (CV.den e0)))) => by
    have := rsecs_h (H := H) (nx := nx) (v := .c (.nm 2)) (List.replicate (a + a * b) (0, 0)) (by simp [tok]) (by simp; omega) (by rw [List.length_replicate]; exact repl_lcells (a + a * b) ▸ SlR.own h2)
    simp only [List.length_replicate] at this
    exact this
  have htl := tbR_len a b c
  have htq : tsecs (tz (List.replicate (a + a * b) (0, 0)) (a + a * b)) (nsec (a + a * b)) = tbR a b c := rfl
  rw [htq] at hsc
  have hfl := fmtR_len a b c
  have htw := fun (x : Nat × Nat × Nat × Nat) (hx : x ∈ things a b c) (h2 : x.1 = 2) => things_two hx h2
  have hbm : 1 ≤ (b : Int) ∧ (b : Int) ≤ 64 := ⟨hg.2.2.1, by have := hg.2.2.2.1; omega⟩
  have hmo := fun (H : HL) (nx q : Nat) (h4 : lookH H q = some (true, .cells [iT 0] 3)) => rmapsOf_h (nx := nx) hbm (SlR.lit (m := 1) (xs := ivs [0]) h4 rfl (by decide) (by decide) fun _ => rfl)
  have hTl := things_length a b c
  have hRe : fmtR a b c = (things a b c).map (fmtT a b c (tbR a b c)) := rfl
  have h1s := rsup0 a b c
  have hrt := rroot0
  have hit := ritext0 rootR ibd_root
  have hwl := rwall0 0 0 (by decide) (by decide)
  have hbl := rblank0
  refine rn [(10, .ret (.t (.c (iT 0)))), (11, .dec false), (13, .spec ⟨.t (.c (.nm 1)), [(true, .own 70 4 (size a b c) (fcs thCells (things a b c)))], [], []⟩), (15, .ret (.t (.c (iT ((a + a * b : Nat) : Int))))), (17, .spec ⟨.t (.c (.nm 3)), [(true, .own 9 1 (nsec (a + a * b)) (svs (tbR a b c)))], [], []⟩)] rfl
    (by (repeat' (first | exact trivial | exact rfl | exact trivial | exact fun _ => trivial | first | exact hck | exact hre | exact hal _ _ | exact hsc _ _ rfl | rfl | (simp; omega) | (simp [maxLen]; omega) | omega | refine And.intro ?_ ?_))) ?_
  refine At.nil 4 9 1 rfl ?_
  generalize things a b c = T at *
  generalize fmtR a b c = R at *
  generalize tbR a b c = tb at *
  generalize size a b c = n at *
  generalize nsec (a + a * b) = m0 at *
  refine At.loop (X := (i : Nat) ×' (i ≤ n)) 5 (fun x => n - x.1)
    (fun x => [(1, .t (.c (.p 0 0))), (4, .t (.c (.nm 4))), (5, .t (.c (.nm 1))), (6, .t (.c (.nm 3))), (7, .t (.c (iT (x.1 : Nat))))])
    (fun x => [(0, some (true, .cells [iT a, iT b, iT c] 23)), (1, some (true, .own 70 4 n (fcs thCells T))), (3, some (true, .own 9 1 m0 (svs tb))), (4, some (true, .own 9 1 x.1 (svs (R.take x.1))))]) ⟨0, by omega⟩ [] (fun x => wf rfl rfl) (by repeat' (first | exact trivial | exact rfl | refine And.intro ?_ ?_)) (by repeat' (first | exact trivial | exact rfl | refine And.intro ?_ ?_)) rfl fun x => ?_
  obtain ⟨i, hi⟩ := x
  have w3 : IntKind.i64.wrap ((i : Int) + 1) = ((i + 1 : Nat) : Int) := by rw [wrap_sm (by omega) (by omega)]; omega
  refine rn [] rfl (by repeat' (first | exact trivial | exact rfl | refine And.intro ?_ ?_)) ?_
  refine ⟨fun h => ?_, fun h => ?_⟩
  · have hlt : i < n := by have : (i : Int) < (n : Int) := of_decide_eq_true h; omega
    clear h
    have hiT : i < T.length := by omega
    have hiR : i < R.length := by omega
    have m1 : i + 1 ≤ maxLen := by simp [maxLen]; omega
    have m2 : (i + 1) * 16 ≤ 140737488355328 := by omega
    have b0 : (0 : Int) ≤ (i : Int) := by omega
    have b1 : (i : Int) < (n : Int) := by omega
    have d3 : (i : Int).toNat * 4 < (fcs thCells T).length := by rw [fcs_length (f := thCells) (c := 4) (fun _ => rfl)]; omega
    have q0 : (fcs thCells T)[(i : Int).toNat * 4]? = some (.int .i64 (T[i].1 : Nat)) := fcs_at (f := thCells) (c := 4) (j := 0) (fun _ => rfl) hiT rfl
    have q1 : (fcs thCells T)[(i : Int).toNat * 4 + 1]? = some (.int .i64 (T[i].2.1 : Nat)) := fcs_at (f := thCells) (c := 4) (j := 1) (fun _ => rfl) hiT rfl
    have hx2 := htw _ (List.getElem_mem hiT)
    have hap : ∀ s, fmtT a b c tb T[i] = s → app (svs (R.take i)) [.string s] = svs (R.take (i + 1)) := fun s hs => by
      have hri : R[i] = s := by rw [← hs]; simp [hRe]
      rw [app_eq, List.take_succ_eq_append_getElem hiR, svs_append, hri]
      rfl
    clear hRe htw
    generalize T[i] = x at *
    obtain ⟨k, m, p1, p2⟩ := x
    simp only at q0 q1 hx2
    rcases k with _ | _ | _ | _ | _ | _ | k
    · -- the superblock
      refine rn [(24, .ret (.t (.c (.s B0)))), (30, .ld [iT ((0 : Nat) : Int)]), (25, .dec true), (33, .ret (.t (.c (.s (supBR a b c)))))] rfl (by (repeat' (first | exact trivial | exact rfl | exact trivial | exact fun _ => trivial | first | exact hbl | exact q0 | exact q1 | exact ⟨q0, trivial⟩ | exact ⟨q1, trivial⟩ | exact b0 | exact b1 | exact d3 | exact m1 | exact m2 | exact h1s | (show (i : Int).toNat * 4 + 1 < _; omega) | rfl | decide | refine And.intro ?_ ?_))) ?_
      refine roundEnd ⟨i + 1, by omega⟩ [(4, 6)] (by show n - (i + 1) < n - i; omega) (by (repeat' (first | exact trivial | exact rfl | exact w3 | exact fun _ => w3 | refine And.intro ?_ ?_))) ?_ rfl
      repeat' (first | exact trivial | exact rfl | refine And.intro ?_ ?_)
      exact hap _ (rfl)
    · -- the fence
      refine rn [(24, .ret (.t (.c (.s B0)))), (30, .ld [iT ((1 : Nat) : Int)]), (25, .dec false), (39, .ld [iT ((1 : Nat) : Int)]), (34, .dec true), (42, .ret (.t (.c (.s (wallB 0 0)))))] rfl (by (repeat' (first | exact trivial | exact rfl | exact trivial | exact fun _ => trivial | first | exact hbl | exact q0 | exact q1 | exact ⟨q0, trivial⟩ | exact ⟨q1, trivial⟩ | exact b0 | exact b1 | exact d3 | exact m1 | exact m2 | exact hwl | (show (i : Int).toNat * 4 + 1 < _; omega) | rfl | decide | refine And.intro ?_ ?_))) ?_
      refine roundEnd ⟨i + 1, by omega⟩ [(4, 6)] (by show n - (i + 1) < n - i; omega) (by (repeat' (first | exact trivial | exact rfl | exact w3 | exact fun _ => w3 | refine And.intro ?_ ?_))) ?_ rfl
      repeat' (first | exact trivial | exact rfl | refine And.intro ?_ ?_)
      exact hap _ (rfl)
    · -- the table
      have hm := hx2 rfl
      have hmt : m < tb.length := by omega
      have q2 : (svs tb)[((m : Nat) : Int).toNat * 1]? = some (.string tb[m]) := by rw [Int.toNat_natCast, Nat.mul_one]; exact svs_at hmt
      have b2 : (0 : Int) ≤ ((m : Nat) : Int) := by omega
      have b3 : ((m : Nat) : Int) < (m0 : Int) := by omega
      refine rn [(24, .ret (.t (.c (.s B0)))), (30, .ld [iT ((2 : Nat) : Int)]), (25, .dec false), (39, .ld [iT ((2 : Nat) : Int)]), (34, .dec false), (48, .ld [iT ((2 : Nat) : Int)]), (43, .dec true), (55, .ld [iT ((m : Nat) : Int)]), (57, .ld [.s tb[m]])] rfl (by (repeat' (first | exact trivial | exact rfl | exact trivial | exact fun _ => trivial | first | exact hbl | exact q0 | exact q1 | exact ⟨q0, trivial⟩ | exact ⟨q1, trivial⟩ | exact b0 | exact b1 | exact d3 | exact m1 | exact m2 | exact q2 | exact ⟨q2, trivial⟩ | exact b2 | exact b3 | (show (i : Int).toNat * 4 + 1 < _; omega) | rfl | decide | refine And.intro ?_ ?_))) ?_
      refine roundEnd ⟨i + 1, by omega⟩ [(4, 6)] (by show n - (i + 1) < n - i; omega) (by (repeat' (first | exact trivial | exact rfl | exact w3 | exact fun _ => w3 | refine And.intro ?_ ?_))) ?_ rfl
      repeat' (first | exact trivial | exact rfl | refine And.intro ?_ ?_)
      exact hap _ (by simp [fmtT, hmt])
    · -- a map of inodes
      by_cases hm : m = 0
      · subst hm
        refine rn [(24, .ret (.t (.c (.s B0)))), (30, .ld [iT ((3 : Nat) : Int)]), (25, .dec false), (39, .ld [iT ((3 : Nat) : Int)]), (34, .dec false), (48, .ld [iT ((3 : Nat) : Int)]), (43, .dec false), (63, .ld [iT ((3 : Nat) : Int)]), (65, .dec true), (70, .ld [iT ((0 : Nat) : Int)]), (58, .dec true), (77, .spec ⟨.tup [.c (.s mapBR), .c (iT 0)], [], [], []⟩)] rfl (by (repeat' (first | exact trivial | exact rfl | exact trivial | exact fun _ => trivial | first | exact hbl | exact q0 | exact q1 | exact ⟨q0, trivial⟩ | exact ⟨q1, trivial⟩ | exact b0 | exact b1 | exact d3 | exact m1 | exact m2 | exact hmo _ _ _ rfl | (show (i : Int).toNat * 4 + 1 < _; omega) | rfl | decide | refine And.intro ?_ ?_))) ?_
        refine roundEnd ⟨i + 1, by omega⟩ [(4, 7)] (by show n - (i + 1) < n - i; omega) (by (repeat' (first | exact trivial | exact rfl | exact w3 | exact fun _ => w3 | refine And.intro ?_ ?_))) ?_ rfl
        repeat' (first | exact trivial | exact rfl | refine And.intro ?_ ?_)
        exact hap _ (rfl)
      · have g := (show (((m : Nat) : Int) == 0) = false by simpa using hm)
        refine rn [(24, .ret (.t (.c (.s B0)))), (30, .ld [iT ((3 : Nat) : Int)]), (25, .dec false), (39, .ld [iT ((3 : Nat) : Int)]), (34, .dec false), (48, .ld [iT ((3 : Nat) : Int)]), (43, .dec false), (63, .ld [iT ((3 : Nat) : Int)]), (65, .dec true), (70, .ld [iT ((m : Nat) : Int)]), (58, .dec false), (85, .ld [iT ((3 : Nat) : Int)]), (87, .dec false), (80, .dec false)] rfl (by (repeat' (first | exact trivial | exact rfl | exact trivial | exact fun _ => trivial | first | exact hbl | exact q0 | exact q1 | exact ⟨q0, trivial⟩ | exact ⟨q1, trivial⟩ | exact b0 | exact b1 | exact d3 | exact m1 | exact m2 | exact g | (show (i : Int).toNat * 4 + 1 < _; omega) | rfl | decide | refine And.intro ?_ ?_))) ?_
        refine roundEnd ⟨i + 1, by omega⟩ [(4, 6)] (by show n - (i + 1) < n - i; omega) (by (repeat' (first | exact trivial | exact rfl | exact w3 | exact fun _ => w3 | refine And.intro ?_ ?_))) ?_ rfl
        repeat' (first | exact trivial | exact rfl | refine And.intro ?_ ?_)
        exact hap _ (by simp [fmtT, hm])
    · -- a map of blocks
      refine rn [(24, .ret (.t (.c (.s B0)))), (30, .ld [iT ((4 : Nat) : Int)]), (25, .dec false), (39, .ld [iT ((4 : Nat) : Int)]), (34, .dec false), (48, .ld [iT ((4 : Nat) : Int)]), (43, .dec false), (63, .ld [iT ((4 : Nat) : Int)]), (65, .dec false), (58, .dec false), (85, .ld [iT ((4 : Nat) : Int)]), (87, .dec false), (80, .dec false)] rfl (by (repeat' (first | exact trivial | exact rfl | exact trivial | exact fun _ => trivial | first | exact hbl | exact q0 | exact q1 | exact ⟨q0, trivial⟩ | exact ⟨q1, trivial⟩ | exact b0 | exact b1 | exact d3 | exact m1 | exact m2 | (show (i : Int).toNat * 4 + 1 < _; omega) | rfl | decide | refine And.intro ?_ ?_))) ?_
      refine roundEnd ⟨i + 1, by omega⟩ [(4, 6)] (by show n - (i + 1) < n - i; omega) (by (repeat' (first | exact trivial | exact rfl | exact w3 | exact fun _ => w3 | refine And.intro ?_ ?_))) ?_ rfl
      repeat' (first | exact trivial | exact rfl | refine And.intro ?_ ?_)
      exact hap _ (by simp [fmtT])
    · -- an inode
      by_cases hm : m = 1
      · subst hm
        refine rn [(24, .ret (.t (.c (.s B0)))), (30, .ld [iT ((5 : Nat) : Int)]), (25, .dec false), (39, .ld [iT ((5 : Nat) : Int)]), (34, .dec false), (48, .ld [iT ((5 : Nat) : Int)]), (43, .dec false), (63, .ld [iT ((5 : Nat) : Int)]), (65, .dec false), (58, .dec false), (85, .ld [iT ((5 : Nat) : Int)]), (87, .dec true), (92, .ld [iT ((1 : Nat) : Int)]), (80, .dec true), (95, .ret (.t (inoT rootR))), (96, .ret (.t (.c (.s (S (ibytes rootR))))))] rfl (by (repeat' (first | exact trivial | exact rfl | exact trivial | exact fun _ => trivial | first | exact hbl | exact q0 | exact q1 | exact ⟨q0, trivial⟩ | exact ⟨q1, trivial⟩ | exact b0 | exact b1 | exact d3 | exact m1 | exact m2 | exact hrt | exact hit | (show (i : Int).toNat * 4 + 1 < _; omega) | rfl | decide | refine And.intro ?_ ?_))) ?_
        refine roundEnd ⟨i + 1, by omega⟩ [(4, 6)] (by show n - (i + 1) < n - i; omega) (by (repeat' (first | exact trivial | exact rfl | exact w3 | exact fun _ => w3 | refine And.intro ?_ ?_))) ?_ rfl
        repeat' (first | exact trivial | exact rfl | refine And.intro ?_ ?_)
        exact hap _ (rfl)
      · have g := (show (((m : Nat) : Int) == 1) = false by simp only [beq_eq_false_iff_ne]; omega)
        refine rn [(24, .ret (.t (.c (.s B0)))), (30, .ld [iT ((5 : Nat) : Int)]), (25, .dec false), (39, .ld [iT ((5 : Nat) : Int)]), (34, .dec false), (48, .ld [iT ((5 : Nat) : Int)]), (43, .dec false), (63, .ld [iT ((5 : Nat) : Int)]), (65, .dec false), (58, .dec false), (85, .ld [iT ((5 : Nat) : Int)]), (87, .dec true), (92, .ld [iT ((m : Nat) : Int)]), (80, .dec false)] rfl (by (repeat' (first | exact trivial | exact rfl | exact trivial | exact fun _ => trivial | first | exact hbl | exact q0 | exact q1 | exact ⟨q0, trivial⟩ | exact ⟨q1, trivial⟩ | exact b0 | exact b1 | exact d3 | exact m1 | exact m2 | exact g | (show (i : Int).toNat * 4 + 1 < _; omega) | rfl | decide | refine And.intro ?_ ?_))) ?_
        refine roundEnd ⟨i + 1, by omega⟩ [(4, 6)] (by show n - (i + 1) < n - i; omega) (by (repeat' (first | exact trivial | exact rfl | exact w3 | exact fun _ => w3 | refine And.intro ?_ ?_))) ?_ rfl
        repeat' (first | exact trivial | exact rfl | refine And.intro ?_ ?_)
        exact hap _ (by simp [fmtT, hm])
    · -- a block
      have g : ∀ z : Int, z < 6 → (((k + 1 + 1 + 1 + 1 + 1 + 1 : Nat) : Int) == z) = false := fun z hz => by simp only [beq_eq_false_iff_ne]; omega
      refine rn [(24, .ret (.t (.c (.s B0)))), (30, .ld [iT ((k + 1 + 1 + 1 + 1 + 1 + 1 : Nat) : Int)]), (25, .dec false), (39, .ld [iT ((k + 1 + 1 + 1 + 1 + 1 + 1 : Nat) : Int)]), (34, .dec false), (48, .ld [iT ((k + 1 + 1 + 1 + 1 + 1 + 1 : Nat) : Int)]), (43, .dec false), (63, .ld [iT ((k + 1 + 1 + 1 + 1 + 1 + 1 : Nat) : Int)]), (65, .dec false), (58, .dec false), (85, .ld [iT ((k + 1 + 1 + 1 + 1 + 1 + 1 : Nat) : Int)]), (87, .dec false), (80, .dec false)] rfl (by (repeat' (first | exact trivial | exact rfl | exact trivial | exact fun _ => trivial | first | exact hbl | exact q0 | exact q1 | exact ⟨q0, trivial⟩ | exact ⟨q1, trivial⟩ | exact b0 | exact b1 | exact d3 | exact m1 | exact m2 | exact g _ (by decide) | (show (i : Int).toNat * 4 + 1 < _; omega) | rfl | decide | refine And.intro ?_ ?_))) ?_
      refine roundEnd ⟨i + 1, by omega⟩ [(4, 6)] (by show n - (i + 1) < n - i; omega) (by (repeat' (first | exact trivial | exact rfl | exact w3 | exact fun _ => w3 | refine And.intro ?_ ?_))) ?_ rfl
      repeat' (first | exact trivial | exact rfl | refine And.intro ?_ ?_)
      exact hap _ (by simp [fmtT])
  · have hlt : i = n := by have : ¬ (i : Int) < (n : Int) := of_decide_eq_false h; omega
    subst hlt
    have hR : R.take i = R := List.take_of_length_le (by omega)
    rw [hR]
    refine rn [] rfl (by repeat' (first | exact trivial | exact rfl | refine And.intro ?_ ?_)) (roundExit rfl ?_)
    refine rnA [] rfl (by repeat' (first | exact trivial | exact rfl | refine And.intro ?_ ?_)) ?_
    exact retM tysOk [(0, 4)] rfl (by repeat' (first | exact trivial | exact rfl | refine And.intro ?_ ?_)) (by repeat' (first | exact trivial | exact rfl | refine And.intro ?_ ?_)) rfl rfl
theorem rformat_no {a b c : Int} (hg : ¬ Gok a b c) {H : HL} {nx : Nat} : FnH Tryz.prog 6 [geoT a b c] H nx ⟨.tup [.c .nsl, .c (iT 4)], [], [], []⟩ := by
  refine fnR (fn := Tryz.f6) 102 rfl rfl rfl (args' := [geoT a b c]) (H' := []) (nx' := 0) (fun e w M => ⟨e, ⟨fun n b o h => (by cases h), fun n o m c q h => (by cases h)⟩, rfl⟩) rfl rfl rfl rfl fun w => ?_
  have hck := rcheckT0 a b c
  rw [gcheck, if_neg hg] at hck
  refine rn [(10, .ret (.t (.c (iT 4)))), (11, .dec true)] rfl (by (repeat' (first | exact trivial | exact rfl | exact trivial | exact fun _ => trivial | first | exact hck | rfl | decide | refine And.intro ?_ ?_))) ?_
  exact ret0 tysOk rfl (by repeat' (first | exact trivial | exact rfl | refine And.intro ?_ ?_)) rfl
theorem fmtR_sz {a b c : Nat} : ∀ s ∈ fmtR a b c, s.size ≤ maxLen := by
  intro s hs
  have h64 : s.size = 64 := by
    obtain ⟨x, hx, rfl⟩ := List.mem_map.1 hs
    unfold fmtT
    split
    · exact supBR_size _ _ _
    · split
      · exact wallB_size 0 0
      · split
        · rename_i h2
          have hm := things_two hx h2
          rw [← tbR_len a b c] at hm
          rw [List.getD_eq_getElem?_getD, List.getElem?_eq_getElem hm, Option.getD_some]
          exact secs_sz64 (List.getElem_mem hm)
        · split
          · rfl
          · split
            · rw [S_size]; exact ibytes_length _
            · rfl
  simp [maxLen, h64]
end Cw
