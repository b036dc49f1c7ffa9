/- An empty file system is laid: the functions that make it, by reckoning. -/
import Derived.Test.YtclcibpghonidaaGreatDoorFnV
import Derived.Laws.CopyRow
import Derived.Test.YtclcibpghonidaaGreatDoorLse
import Derived.Test.YtclcibpghonidaaGreatDoorInoV
import Derived.Test.YtclcibpghonidaaGreatDoorRDskF
namespace Vc
open Go Go.RowKit
/-- A row is copied into a part of another one. -/
theorem spec_copy {P : Program} {L : LL} {H : HL} {nx d s : Nat} {tys : List (Nat × Ty)} (hty : TysOk P tys) {o : Oper} {T T2 el U U2 : TypeId} {x y : Operand} {n k off len m : Nat} {xs zs ys : List Value} {I J : Ty} {b2 : Bool} (hop : o.op = .call { callee := .builtin .copy, args := #[x, y], argTypes := #[T, T2] })
    (hx : ev L x = some (.c (.sub d off k len))) (hyv : ev L y = some (.c (.nm s))) (hT : look T tys = some I) (hI : I.d = .slice el) (hJ : look el tys = some J) (hJs : J.size = 1)
    (hd : lookH H d = some (true, .own U 1 n xs)) (hs : lookH H s = some (b2, .own U2 1 m zs)) (hone : ∀ u ∈ zs, u.oneCell' = true) (hoff : off = k) (hl : k + len = n) (hm : m ≤ len) (hm0 : 0 < m) (hy : setAt xs k zs = ys) :
    Spec P L H nx o ⟨.t (.c (.i .i64 m)), [], [(d, some (.own U 1 n ys))], []⟩ := by
  subst hoff
  refine ⟨fun F _ e a w S K Q hK => ?_⟩
  obtain ⟨dt, hdt, hId⟩ := (hty _ _ hT).und
  rw [hI] at hId
  simp only [TyD.is] at hId
  subst hId
  obtain ⟨i, _, hi1, hi2, _⟩ := (hty _ _ hJ).info
  obtain ⟨⟨hown, hfp⟩, _⟩ := S.ob d true _ hd
  obtain ⟨⟨hown2, hfp2⟩, _⟩ := S.ob s b2 _ hs
  have hxl := hown.1
  have hzl := hown2.1
  rcases hown.2 with ⟨_, h0⟩ | ⟨g, cap, cur, hval, h1, hblk, h3, h4, h5, h6⟩
  · omega
  rw [Nat.mul_one] at hxl h5 h6 hzl
  have hsrc := fun j u hu => hown2.cells (g := (match e.val s with | .slice (some a) _ _ => a.block | _ => 0)) ?_ j u hu
  · rcases hown2.2 with ⟨_, h0⟩ | ⟨g2, cap2, cur2, hval2, _⟩
    · omega
    have hx' : a.eval x = .slice (some ⟨g, off, none⟩) len (cap - off) := by
      have hc : ¬ cap = off := by omega
      refine (ev_ok S hx).trans ?_
      simp only [TV.den, CV.den, hval, if_neg hc, Option.map_some, lit_add, Nat.zero_add]
    have hy' : a.eval y = .slice (some ⟨g2, 0, none⟩) m cap2 := by
      refine (ev_ok S hyv).trans ?_
      simp only [TV.den, CV.den, hval2]
    have hrun := run_copy_row (P := P) w T T2 o.type el g off len (cap - off) ⟨g2, 0, none⟩ m cap2 cur U zs hdt (by rw [hi1]; simp [hi2, hJs]) hblk (by rw [hzl]; exact (Nat.min_eq_left hm).symm) (fun j v hv => by
      have := hsrc j v hv
      simp only [hval2] at this
      simpa [Addr.add, lit_add] using this) (by rw [hzl]; omega) hone
    have hfp' : ∀ q, e.fp d q ↔ q = g := fun q => by
      rw [hfp q, hval]
      exact ⟨fun h => (Option.some.inj h).symm, fun h => h ▸ rfl⟩
    suffices hMv : Mv nx ⟨.t (.c (.i .i64 m)), [], [(d, some (.own U 1 n ys))], []⟩ e e w (w.setRow g (cur.toList.take off ++ zs ++ cur.toList.drop (off + zs.length)).toArray) by
      refine wp_value (v := goInt zs.length) ?_ (by rw [hzl]; exact hK e _ hMv)
      simp [execOp, hop, resolve, invoke, builtin, hx', hy', hrun]
    · refine .old ⟨fun _ _ => ⟨rfl, rfl, rfl⟩, rfl, rfl, rfl, by simp, fun q hq hno => ?_, fun k b o hk => (by simp at hk), fun j k hj hk => (by simp at hj), fun m' o hm => ?_⟩
      · exact setRow_other w g q _ fun he => hno d (some (.own U 1 n ys)) (by simp) ((hfp' q).2 he)
      · simp at hm
        obtain ⟨rfl, rfl⟩ := hm
        refine ⟨⟨?_, .inr ⟨g, cap, _, hval, h1, setRow_heap w _ _ _ _ _ hblk, h3, h4, ?_, ?_⟩⟩, hfp⟩
        · rw [← hy, Nat.mul_one, setAt_length (by rw [hzl]; omega)]; exact hxl
        · simp; omega
        · have := take_setAt (c := cur.toList) (vs := zs) (m := n) (j := off) (by rw [hzl]; omega) (by simp; omega)
          rw [h6, hy] at this
          rw [Nat.mul_one]
          simpa using this
  · rcases hown2.2 with ⟨_, h0⟩ | ⟨g2, cap2, cur2, hval2, _⟩
    · omega
    · simp only [hval2]; rfl
end Vc
namespace Cw
open Go Vc
open Go.Proofs
set_option maxRecDepth 100000
theorem gsize0 (a b c : Int) : Fn0 Tryz.prog 42 [geoT a b c] (.t (.c (iT (gsize a b c)))) := ⟨fun w => size_any a b c w⟩
theorem gmap0 (a b c k : Int) (bl : Bool) : Fn0 Tryz.prog 27 [geoT a b c, .c (iT k), .c (.b bl)] (.tup [.c (iT (mapAt a b c k bl)), .c (iT (me a b c k))]) := ⟨fun w => map_any a b c k bl w⟩
theorem gino0 (a b c n : Int) : Fn0 Tryz.prog 117 [geoT a b c, .c (iT n)] (.tup [.c (iT (is a b c n)), .c (iT (ig a b c n)), .c (iT (ip a b c n)), .c (iT (ie a b c n))]) := ⟨fun w => inode_any a b c n w⟩
theorem rep57 : Fn0 Tryz.prog 109 [.c (.s ⟨#[0]⟩), .c (iT 57)] (.t (.c (.s (S (List.replicate 57 0))))) := ⟨fun w => by
  have hr : (Lib.repeatL (⟨#[0]⟩ : ByteArray).data.toList 57) = List.replicate 57 0 := by decide
  have hc := Tryz.strings_Repeat ⟨#[0]⟩ 57 w (by omega) (by decide)
  rw [hr] at hc
  exact hc⟩
theorem padded7 (s : ByteArray) (hs : s.size = 7) : Fn0 Tryz.prog 151 [.c (.s s)] (.t (.c (.s (s ++ S (List.replicate 57 0))))) := by
  refine fn0 (fn := Tryz.f151) 9 rfl rfl rfl rfl rfl fun w => ?_
  have w1 : IntKind.i64.wrap (64 - (s.size : Int)) = 57 := by rw [hs]; rfl
  have h7 : Fn0 Tryz.prog 109 [.c (.s ⟨#[0]⟩), .c (iT (IntKind.i64.wrap (64 - (s.size : Int))))] (.t (.c (.s (S (List.replicate 57 0))))) := by rw [w1]; exact rep57
  have hz : s.size + (S (List.replicate 57 0)).size ≤ 9223372036854775807 := by rw [hs, S_size]; decide
  refine rn [(7, .ret (.t (.c (.s (S (List.replicate 57 0))))))] rfl (by (repeat' (first | exact trivial | exact rfl | exact h7 | exact fun _ => h7 | exact hz | refine And.intro ?_ ?_))) ?_
  exact ret0 tysOk rfl (by repeat' (first | exact trivial | exact rfl | refine And.intro ?_ ?_)) rfl
/-- The first sector. -/
def supH (a b c : Int) : ByteArray := ⟨#[67, 85, 84, 87]⟩ ++ ⟨#[UInt8.ofNat (IntKind.u8.wrap a).toNat, UInt8.ofNat (IntKind.u8.wrap b).toNat, UInt8.ofNat (IntKind.u8.wrap c).toNat]⟩
def supB (a b c : Int) : ByteArray := supH a b c ++ S (List.replicate 57 0)
theorem supH_size (a b c : Int) : (supH a b c).size = 7 := rfl
theorem supB_size (a b c : Int) : (supB a b c).size = 64 := by rw [supB, bsz, supH_size, S_size]; rfl
set_option maxRecDepth 100000 in
set_option maxHeartbeats 4000000 in
theorem senc0 {a b c : Int} (hg : Gok a b c) : Fn0 Tryz.prog 115 [geoT a b c] (.tup [.c (.s (supB a b c)), .c (iT 0)]) := by
  refine fn0 (fn := Tryz.f115) 23 rfl rfl rfl rfl rfl fun w => ?_
  have hck := check0 a b c
  rw [gcheck, if_pos hg] at hck
  have hp := padded7 (supH a b c) (supH_size a b c)
  refine rn [(6, .ret (.t (.c (iT 0)))), (8, .dec false), (22, .ret (.t (.c (.s (supB a b c)))))] rfl (by (repeat' (first | exact trivial | exact rfl | exact trivial | exact fun _ => trivial | first | exact hck | exact hp | rfl | (show (4 : Nat) + 3 ≤ 9223372036854775807; omega) | decide | refine And.intro ?_ ?_))) ?_
  exact ret0 tysOk rfl (by repeat' (first | exact trivial | exact rfl | refine And.intro ?_ ?_)) rfl
theorem many0 {n p : Int} (hn : 1 ≤ n ∧ n ≤ 64) (hp : 0 ≤ p ∧ p < n) : Fn0 Tryz.prog 106 [.c (iT n), .c (iT p)] (.t (.c (iT 0))) := by
  refine fn0 (fn := Tryz.f106) 20 rfl rfl rfl rfl rfl fun w => ?_
  have h : (((decide (n < 1) || decide (64 < n)) || decide (p < 0)) || decide (n ≤ p)) = false := by
    simp only [Bool.or_eq_false_iff, decide_eq_false_iff_not]
    omega
  refine rn [(19, .dec false)] rfl (by (repeat' (first | exact trivial | exact rfl | exact trivial | exact fun _ => trivial | first | exact h | rfl | refine And.intro ?_ ?_))) ?_
  exact ret0 tysOk rfl (by repeat' (first | exact trivial | exact rfl | refine And.intro ?_ ?_)) rfl
/-- The map whose first place is taken. -/
def mapB : ByteArray := S (1 :: List.replicate 63 0)
theorem mapB_size : mapB.size = 64 := rfl
set_option maxRecDepth 100000 in
set_option maxHeartbeats 4000000 in
theorem mapsOf_h {H : HL} {nx : Nat} {v : TV} {n : Int} (hn : 1 ≤ n ∧ n ≤ 64) (hv : SlR H v 1 1 (ivs [0])) :
    FnH Tryz.prog 116 [.c (iT n), v] H nx ⟨.tup [.c (.s mapB), .c (iT 0)], [], [], []⟩ := by
  refine fnR (fn := Tryz.f116) 35 rfl rfl rfl (args' := [.c (iT n), .c (.nm 0)]) (H' := [(0, some (false, .rd 1 1 (ivs [0])))]) (nx' := 1) (fun e w M => ?_) rfl rfl rfl rfl fun w => ?_
  · obtain ⟨e', M', q1⟩ := slr1 hv e w M
    exact ⟨e', M', by simp [q1]; rfl⟩
  have hm := many0 hn (p := 0) (by omega)
  refine rn [(12, .ret (.t (.c (iT 0)))), (14, .dec false)] rfl (by (repeat' (first | exact trivial | exact rfl | exact trivial | exact fun _ => trivial | first | exact hm | rfl | decide | refine And.intro ?_ ?_))) ?_
  refine At.unroll ?_
  refine rn [(20, .dec true), (22, .ld [iT 0]), (25, .ret (.t (.c (iT 0)))), (27, .dec false)] rfl (by (repeat' (first | exact trivial | exact rfl | exact trivial | exact fun _ => trivial | first | exact hm | rfl | decide | refine And.intro ?_ ?_))) (nextRound ?_)
  refine rn [(20, .dec false)] rfl (by (repeat' (first | exact trivial | exact rfl | exact trivial | exact fun _ => trivial | decide | refine And.intro ?_ ?_))) (nextExit rfl ?_)
  refine rnA [(34, .ret (.t (.c (.s mapB))))] rfl (by (repeat' (first | exact trivial | exact rfl | exact trivial | exact fun _ => trivial | first | rfl | decide | refine And.intro ?_ ?_))) ?_
  exact ret0 tysOk rfl (by repeat' (first | exact trivial | exact rfl | refine And.intro ?_ ?_)) rfl
end Cw
namespace Cw
open Go Vc
open Go.Proofs
set_option maxRecDepth 100000
def rootI : Ino := ⟨2, 1, 0, 1, 1, fun _ => 0, 0⟩
theorem root_ok {a bb c : Int} (hg : Gok a bb c) : ichk a bb c rootI = 0 := by
  have h := ab_bd hg
  have hi : ginodes a bb c = a * bb := if_pos hg
  have h1 : ibad rootI = false := rfl
  have h2 : idir a bb c rootI = true := by
    rw [idir, decide_eq_true_eq]
    show (0 : Int) % 64 = 0 ∧ (1 : Int) ≤ 1 ∧ (1 : Int) ≤ ginodes a bb c
    rw [hi]
    omega
  have h3 : iblk a bb c rootI = true := by
    simp [iblk, ids, rootI, okb]
  rw [ichk, if_pos hg, if_pos]
  rw [iok, h1, if_neg (by decide), if_pos (by rfl), h2, h3]
  rfl
/-- How many regions, and sectors, there are. -/
def fN (a bb c : Int) : Nat := (gregions a bb c).toNat
def fZ (a bb c : Int) : Nat := (gsize a bb c).toNat
def f0L (a bb c : Int) : List ByteArray := List.replicate (fZ a bb c) B0
def fTb (a bb c : Int) : List ByteArray := tsecs (tz (List.replicate (fN a bb c) (0, 0)) (fN a bb c)) (nsec (fN a bb c))
def f2L (a bb c : Int) : List ByteArray := ((f0L a bb c).set 0 (supB a bb c)).set 1 (wallB 0 0)
def f3L (a bb c : Int) : List ByteArray := (f2L a bb c).take 2 ++ fTb a bb c ++ (f2L a bb c).drop (2 + nsec (fN a bb c))
def fmtL (a bb c : Int) : List ByteArray := ((f3L a bb c).set (mapAt a bb c 0 false).toNat mapB).set (is a bb c 1).toNat (S (ibytes rootI))
section
variable {a bb c : Int}
theorem fgeo (hg : Gok a bb c) : gregions a bb c = (fN a bb c : Nat) ∧ gsize a bb c = (fZ a bb c : Nat) ∧ 2 ≤ fN a bb c ∧ fN a bb c ≤ 132 ∧ 2 + nsec (fN a bb c) + 4 ≤ fZ a bb c ∧ fZ a bb c ≤ 403 ∧
    me a bb c 0 = 0 ∧ mapAt a bb c 0 false = ((2 + nsec (fN a bb c) : Nat) : Int) ∧ ie a bb c 1 = 0 ∧ is a bb c 1 = ((2 + nsec (fN a bb c) + 2 : Nat) : Int) := by
  have hn : gregions a bb c = (fN a bb c : Nat) := regions_nat a bb c
  obtain ⟨h2, h132⟩ := regions_two hg hn
  have hsb := size_bd a bb c
  have hs : gsize a bb c = (fZ a bb c : Nat) := by rw [fZ]; omega
  have hf : ∀ k, gfirst a bb c k = ((2 + nsec (fN a bb c) : Nat) : Int) + k * (2 + bb + c) := by
    intro k
    have h1 : a + a * bb = (fN a bb c : Nat) := by rw [← hn, gregions, if_pos hg]
    rw [gfirst, h1]
    simp only [nsec]
    omega
  obtain ⟨a1, a2, b1, b2, c1, c2⟩ := hg
  have hg : Gok a bb c := ⟨a1, a2, b1, b2, c1, c2⟩
  have hz : (fZ a bb c : Int) = ((2 + nsec (fN a bb c) : Nat) : Int) + a * (2 + bb + c) := by rw [← hs, gsize, if_pos hg, hf]
  have hk : 2 + bb + c ≤ a * (2 + bb + c) := by
    have : 1 * (2 + bb + c) ≤ a * (2 + bb + c) := Int.mul_le_mul_of_nonneg_right a1 (by omega)
    omega
  have hm : me a bb c 0 = 0 := within_zero hg (by omega) (by omega)
  have hi : ginodes a bb c = a * bb := if_pos hg
  have hab := ab_bd hg
  have he : ie a bb c 1 = 0 := by
    rw [ie, within_zero hg (by omega) (by omega), if_neg (fun h => h rfl), if_neg (by omega)]
  have h00 : (1 - 1 : Int) / bb = 0 := by simp
  have h01 : (1 - 1 : Int) % bb = 0 := by simp
  refine ⟨hn, hs, h2, h132, by omega, by omega, hm, ?_, he, ?_⟩
  · rw [mapAt, hm, if_neg (fun h => h rfl), if_neg (by decide), hf]; omega
  · rw [is, he, if_neg (fun h => h rfl), h00, h01, hf]; omega
theorem f0L_len : (f0L a bb c).length = fZ a bb c := by simp [f0L]
theorem f2L_len : (f2L a bb c).length = fZ a bb c := by simp [f2L, f0L]
theorem fTb_len : (fTb a bb c).length = nsec (fN a bb c) := secs_length _ _
theorem f3L_len (hg : Gok a bb c) : (f3L a bb c).length = fZ a bb c := by
  obtain ⟨_, _, _, _, hz, _⟩ := fgeo hg
  simp [f3L, f2L_len, fTb_len]
  omega
theorem fmtL_len (hg : Gok a bb c) : (fmtL a bb c).length = fZ a bb c := by simp [fmtL, f3L_len hg]
theorem setAt_ovl {X T : List ByteArray} {k : Nat} (h : k + T.length ≤ X.length) : Vc.setAt (svs X) k (svs T) = svs (X.take k ++ T ++ X.drop (k + T.length)) := by
  simp [setAt, svs, List.map_take, List.map_drop]
theorem sz_repl {n : Nat} : ∀ s ∈ List.replicate n B0, s.size = 64 := fun s hs => by rw [List.eq_of_mem_replicate hs]; exact B0_size
theorem fTb_size (hg : Gok a bb c) : ∀ s ∈ fTb a bb c, s.size = 64 := by
  intro s hs
  obtain ⟨j, hj, rfl⟩ := List.getElem_of_mem hs
  unfold fTb at hj ⊢
  rw [secs_get, S_size]
  rw [secs_length] at hj
  exact sec_length (tz_length (List.replicate (fN a bb c) (0, 0)) (fN a bb c) (by simp) ▸ by simp) hj
theorem fmtL_size (hg : Gok a bb c) : ∀ s ∈ fmtL a bb c, s.size = 64 := by
  have h0 : ∀ s ∈ f2L a bb c, s.size = 64 := mem_set_sz (mem_set_sz sz_repl (supB_size a bb c)) (wallB_size 0 0)
  refine mem_set_sz (mem_set_sz (fun s hs => ?_) mapB_size) (by rw [S_size]; exact ibytes_length _)
  rcases List.mem_append.1 hs with h | h
  · rcases List.mem_append.1 h with h | h
    · exact h0 s (List.mem_of_mem_take h)
    · exact fTb_size hg s h
  · exact h0 s (List.mem_of_mem_drop h)
set_option maxRecDepth 100000 in
set_option maxHeartbeats 8000000 in
theorem format_h {H : HL} {nx : Nat} (hg : Gok a bb c) : FnH Tryz.prog 80 [geoT a bb c] H nx ⟨.tup [.c (.nm nx), .c (iT 0)], [(true, .own 9 1 (fZ a bb c) (svs (fmtL a bb c)))], [], []⟩ := by
  obtain ⟨hn, hs, h2, h132, hz, h403, hme, hmp, hie, his⟩ := fgeo hg
  refine fnM (fn := Tryz.f80) 87 rfl rfl rfl (args' := [geoT a bb c]) (H' := []) (nx' := 0) [] (fun e w M => ⟨e, ⟨fun n b o h => (by cases h), fun n o m c q h => (by cases h)⟩, rfl⟩) rfl rfl rfl (fun e w M u hu => by cases hu) (fun u hu => by cases hu) (by simp) (v' := .tup [.c (.nm 0), .c (iT 0)]) (news' := [(true, .own 9 1 (fZ a bb c) (svs (fmtL a bb c)))]) rfl rfl rfl rfl rfl fun w Wr => ?_
  have hck := check0 a bb c
  rw [gcheck, if_pos hg] at hck
  have hsz := gsize0 a bb c
  rw [hs] at hsz
  have hre := tregions0 a bb c
  rw [hn] at hre
  refine rn [(12, .ret (.t (.c (iT 0)))), (14, .dec false), (17, .ret (.t (.c (iT (fZ a bb c : Nat)))))] rfl (by (repeat' (first | exact trivial | exact rfl | exact trivial | exact fun _ => trivial | first | exact hck | exact hsz | rfl | (simp; omega) | (simp [maxLen]; omega) | omega | refine And.intro ?_ ?_))) ?_
  refine At.loop (X := (k : Nat) ×' (k ≤ fZ a bb c)) 2 (fun k => fZ a bb c - k.1)
    (fun k => [(1, .t (.c (.p 0 0))), (5, .t (.c (.nm 1))), (20, .t (.c (iT (fZ a bb c : Nat)))), (21, .t (.c (iT (k.1 : Nat))))])
    (fun k => [(0, some (true, .cells [iT a, iT bb, iT c] 41)), (1, some (true, .own 9 1 (fZ a bb c) (svs (List.replicate k.1 B0 ++ List.replicate (fZ a bb c - k.1) ⟨#[]⟩))))]) ⟨0, by omega⟩ [] (fun k => wf rfl rfl) (by repeat' (first | exact trivial | exact rfl | refine And.intro ?_ ?_)) ?_ rfl fun k => ?_
  · repeat' (first | exact trivial | exact rfl | refine And.intro ?_ ?_)
    exact repl_svs _
  obtain ⟨k, hk⟩ := k
  have w2 : IntKind.i64.wrap ((k : Int) + 1) = ((k + 1 : Nat) : Int) := by rw [wrap_sm (by omega) (by omega)]; omega
  refine rn [] rfl (by repeat' (first | exact trivial | exact rfl | refine And.intro ?_ ?_)) ?_
  refine ⟨fun h => ?_, fun h => ?_⟩
  · have hlt : k < fZ a bb c := by have : (k : Int) < ((fZ a bb c : Nat) : Int) := of_decide_eq_true h; omega
    refine rn [(26, .ret (.t (.c (.s B0))))] rfl (by (repeat' (first | exact trivial | exact rfl | exact blank0 | exact fun _ => blank0 | first | omega | decide | (simp only [svs_length, List.length_append, List.length_replicate, Int.toNat_natCast]; omega) | refine And.intro ?_ ?_))) ?_
    refine roundEnd ⟨k + 1, by omega⟩ [] (by show fZ a bb c - (k + 1) < fZ a bb c - k; omega) (by (repeat' (first | exact trivial | exact rfl | exact w2 | exact fun _ => w2 | refine And.intro ?_ ?_))) ?_ rfl
    repeat' (first | exact trivial | exact rfl | refine And.intro ?_ ?_)
    exact fill_svs hlt
  · have hlt : k = fZ a bb c := by have : ¬ (k : Int) < ((fZ a bb c : Nat) : Int) := of_decide_eq_false h; omega
    subst hlt
    refine rn [] rfl (by repeat' (first | exact trivial | exact rfl | refine And.intro ?_ ?_)) (roundExit rfl ?_)
    have hF0 : svs (List.replicate (fZ a bb c) B0 ++ List.replicate (fZ a bb c - fZ a bb c) ⟨#[]⟩) = svs (f0L a bb c) := by simp [f0L]
    rw [hF0]
    have hse := senc0 hg
    have hen := fun (H : HL) (nx : Nat) (h2 : lookH H 2 = some (true, .own 59 2 (fN a bb c) ((repl (fN a bb c) [CV.i .i64 0, CV.i .i64 0]).map (CV.den e0)))) => by
      have := tenc_h (H := H) (nx := nx) (v := .c (.nm 2)) (List.replicate (fN a bb c) (0, 0)) hg (by simpa using hn) (by simp [tok]) (by rw [List.length_replicate]; exact repl_lcells (fN a bb c) ▸ SlR.own h2)
      simp only [List.length_replicate] at this
      exact this
    have hgm := gmap0 a bb c 0 false
    rw [hmp, hme] at hgm
    have hgi := gino0 a bb c 1
    rw [his, hie] at hgi
    have henc := encOk0 (root_ok hg)
    have hF1 : Vc.setAt (svs (f0L a bb c)) (0 * 1) [.string (supB a bb c)] = svs ((f0L a bb c).set 0 (supB a bb c)) := set_svs (by rw [f0L_len]; omega)
    have hF2 : Vc.setAt (Vc.setAt (svs (f0L a bb c)) (0 * 1) [.string (supB a bb c)]) (1 * 1) [.string (wallB 0 0)] = svs (f2L a bb c) := by rw [hF1, set_svs (by rw [List.length_set, f0L_len]; omega)]; rfl
    have hF3 : Vc.setAt (Vc.setAt (Vc.setAt (svs (f0L a bb c)) (0 * 1) [.string (supB a bb c)]) (1 * 1) [.string (wallB 0 0)]) 2 (svs (fTb a bb c)) = svs (f3L a bb c) := by
      rw [hF2, setAt_ovl (by rw [fTb_len, f2L_len]; omega), fTb_len]
      rfl
    have hF4 : Vc.setAt (svs (f3L a bb c)) (((2 + nsec (fN a bb c) : Nat) : Int).toNat * 1) [.string mapB] = svs ((f3L a bb c).set (2 + nsec (fN a bb c)) mapB) := set_svs (by rw [f3L_len hg]; omega)
    have hF5 : Vc.setAt (Vc.setAt (svs (f3L a bb c)) (((2 + nsec (fN a bb c) : Nat) : Int).toNat * 1) [.string mapB]) (((2 + nsec (fN a bb c) + 2 : Nat) : Int).toNat * 1) [.string (S (ibytes rootI))] = svs (fmtL a bb c) := by
      rw [hF4, Int.toNat_natCast, set_svs (by rw [List.length_set, f3L_len hg]; omega), fmtL, hmp, his]
      rfl
    have hnm : 1 ≤ nsec (fN a bb c) := by unfold nsec; omega
    have hcp := fun (H : HL) (nx : Nat) (L : LL) (o : Oper) (x y : Operand) (ats : Array TypeId) (hats : ats = #[57, 57]) (hop : o.op = .call { callee := .builtin .copy, args := #[x, y], argTypes := ats }) (hx : ev L x = some (.c (.sub 1 2 2 (fZ a bb c - 2)))) (hy : ev L y = some (.c (.nm 3))) (h1 : lookH H 1 = some (true, .own 9 1 (fZ a bb c) (Vc.setAt (Vc.setAt (svs (f0L a bb c)) (0 * 1) [.string (supB a bb c)]) (1 * 1) [.string (wallB 0 0)]))) (h3 : lookH H 3 = some (true, .own 9 1 (nsec (fN a bb c)) (svs (fTb a bb c)))) =>
      spec_copy (nx := nx) tysOk (hats ▸ hop) hx hy rfl rfl rfl rfl h1 h3 (svs_one _) rfl (show 2 + (fZ a bb c - 2) = fZ a bb c by omega) (by omega) (by omega) hF3
    have hmo := fun (H : HL) (nx q : Nat) (h4 : lookH H q = some (true, .own 3 1 1 (ivs [0]))) => mapsOf_h (nx := nx) (n := bb) ⟨hg.2.2.1, by have := hg.2.2.2.1; omega⟩ (SlR.own h4)
    refine rnA [(32, .ret (.tup [.c (.s (supB a bb c)), .c (iT 0)])), (39, .ret (.tup [.c (.s (wallB 0 0)), .c (iT 0)])), (46, .ret (.t (.c (iT (fN a bb c : Nat))))), (48, .spec ⟨.tup [.c (.nm 3), .c (iT 0)], [(true, .own 9 1 (nsec (fN a bb c)) (svs (fTb a bb c)))], [], []⟩), (54, .spec ⟨.t (.c (.i .i64 (nsec (fN a bb c) : Nat))), [], [(1, some (.own 9 1 (fZ a bb c) (svs (f3L a bb c))))], []⟩), (57, .ret (.tup [.c (iT ((2 + nsec (fN a bb c) : Nat) : Int)), .c (iT 0)])), (65, .dec true), (66, .spec ⟨.tup [.c (.s mapB), .c (iT 0)], [], [], []⟩), (72, .ret (.tup [.c (iT ((2 + nsec (fN a bb c) + 2 : Nat) : Int)), .c (iT (ig a bb c 1)), .c (iT (ip a bb c 1)), .c (iT 0)])), (82, .ret (.tup [.c (.s (S (ibytes rootI))), .c (iT 0)]))] rfl
      (by (repeat' (first | exact trivial | exact rfl | exact trivial | exact fun _ => trivial | first | exact hse | exact fence0 | exact hre | exact hgm | exact hgi | exact henc | exact hen _ _ rfl | exact hcp _ _ _ _ _ _ _ rfl rfl rfl rfl rfl rfl | exact hmo _ _ _ rfl | omega | (show ((2 + nsec (fN a bb c) : Nat) : Int).toNat * 1 + 1 ≤ (svs (f3L a bb c)).length; rw [svs_length, f3L_len hg]; omega) | (show ((2 + nsec (fN a bb c) + 2 : Nat) : Int).toNat * 1 + 1 ≤ (Vc.setAt (svs (f3L a bb c)) (((2 + nsec (fN a bb c) : Nat) : Int).toNat * 1) [.string mapB]).length; rw [hF4, svs_length, List.length_set, f3L_len hg]; omega) | (show (0 : Int).toNat * 1 + 1 ≤ (svs (f0L a bb c)).length; rw [svs_length, f0L_len]; omega) | (show (1 : Int).toNat * 1 + 1 ≤ (Vc.setAt (svs (f0L a bb c)) (0 * 1) [.string (supB a bb c)]).length; rw [hF1, svs_length, List.length_set, f0L_len]; omega) | (simp; omega) | (simp [maxLen]; omega) | rfl | decide | refine And.intro ?_ ?_))) ?_
    exact retM tysOk [(0, 1)] rfl (by repeat' (first | exact trivial | exact rfl | refine And.intro ?_ ?_)) (by (repeat' (first | exact trivial | exact rfl | exact trivial | exact fun _ => trivial | exact hF5 | refine And.intro ?_ ?_))) rfl rfl
end
end Cw
namespace Cw
open Go Vc
open Go.Proofs
set_option maxRecDepth 100000
theorem lay_part {F S : List ByteArray} (h : F.length = S.length) {k : Nat} (hk : k < F.length) : (F.take k ++ S.drop k).set k F[k] = F.take (k + 1) ++ S.drop (k + 1) := by
  rw [List.take_succ_eq_append_getElem hk, List.set_append, if_neg (by rw [List.length_take]; omega)]
  rw [List.length_take, Nat.min_eq_left (by omega), Nat.sub_self, List.drop_eq_getElem_cons (by omega), List.set_cons_zero, List.append_assoc]
  rfl
section
variable {H : HL} {nx d b : Nat} {S : List ByteArray} {W : List (Int × Wr)} {last a bb c : Int}
set_option maxRecDepth 100000 in
set_option maxHeartbeats 8000000 in
theorem alay_h (hd : lookH H d = some (true, .ab (dP S W last b))) (hg : Gok a bb c) (hlen : S.length = fZ a bb c) :
    FnH Tryz.prog 43 [.c (.nm d), geoT a bb c] H nx ⟨.t (.c (iT 0)), [], [(d, some (.ab (dP (fmtL a bb c) W last b)))], []⟩ := by
  refine fnAs (fn := Tryz.f43) 38 rfl rfl rfl (args' := [.c (.nm 0), geoT a bb c]) [(d, dP S W last b, dP (fmtL a bb c) W last b)] [] ⟨⟨hd, ptr b, disk_pins _ _ _ _, disk_pins _ _ _ _⟩, trivial⟩ trivial (by simp) rfl rfl rfl rfl (v' := .t (.c (iT 0))) (news' := []) rfl rfl rfl rfl rfl fun w Wh => ?_
  show At _ _ _ _ _ _ [(0, some (true, .ab (dP S W last b)))] 1
  have hfl := fmtL_len hg
  have hfs := fmtL_size hg
  have hz4 : fZ a bb c ≤ 403 := (fgeo hg).2.2.2.2.2.1
  have hsz := fun (H : HL) (nx : Nat) (h0 : lookH H 0 = some (true, .ab (dP S W last b))) => sizeA (nx := nx) h0
  have hf := fun (H : HL) (nx : Nat) => format_h (H := H) (nx := nx) hg
  rw [hlen] at hsz
  generalize fZ a bb c = Z at *
  generalize fmtL a bb c = F at *
  have g1 : ((Z : Int) != (Z : Int)) = false := by simp
  refine rn [(10, .spec ⟨.t (.c (.b false)), [], [], []⟩)] rfl (by (repeat' (first | exact trivial | exact rfl | exact nilDq2 rfl rfl rfl rfl | exact fun _ => nilDq2 rfl rfl rfl rfl | refine And.intro ?_ ?_))) ?_
  refine ⟨fun h => (by cases h), fun _ => ?_⟩
  refine rn [(13, .spec ⟨.tup [.c (.nm 2), .c (iT 0)], [(true, .own 9 1 Z (svs F))], [], []⟩), (16, .dec false), (24, .spec ⟨.t (.c (iT (Z : Nat))), [], [(0, some (.ab (dP S W last b)))], []⟩), (20, .dec false)] rfl (by (repeat' (first | exact trivial | exact rfl | exact trivial | exact fun _ => trivial | first | exact hf _ _ | exact hsz _ _ rfl | exact g1 | rfl | decide | refine And.intro ?_ ?_))) ?_
  refine At.loop (X := (k : Nat) ×' (k ≤ Z)) 3 (fun x => Z - x.1)
    (fun x => [(0, .t (.c (.nm 0))), (26, .t (.c (.nm 2))), (27, .t (.c (iT (Z : Nat)))), (28, .t (.c (iT (x.1 : Nat))))])
    (fun x => [(0, some (true, .ab (dP (F.take x.1 ++ S.drop x.1) W last b))), (2, some (true, .own 9 1 Z (svs F)))]) ⟨0, by omega⟩ [] (fun x => wf rfl rfl) (by repeat' (first | exact trivial | exact rfl | refine And.intro ?_ ?_)) (by repeat' (first | exact trivial | exact rfl | refine And.intro ?_ ?_)) rfl fun x => ?_
  obtain ⟨k, hk⟩ := x
  have w3 : IntKind.i64.wrap ((k : Int) + 1) = ((k + 1 : Nat) : Int) := by rw [wrap_sm (by omega) (by omega)]; omega
  refine rn [] rfl (by repeat' (first | exact trivial | exact rfl | refine And.intro ?_ ?_)) ?_
  refine ⟨fun h1 => ?_, fun h1 => ?_⟩
  · have hlt : k < Z := by have : (k : Int) < (Z : Int) := of_decide_eq_true h1; omega
    clear h1
    have hkF : k < F.length := by omega
    have e1 : (svs F)[(k : Int).toNat * 1]? = some (.string F[k]) := by rw [Int.toNat_natCast, Nat.mul_one]; exact svs_at hkF
    have b0 : (0 : Int) ≤ (k : Int) := by omega
    have b1 : (k : Int) < (Z : Int) := by omega
    have hla := fun (H : HL) (nx : Nat) (h0 : lookH H 0 = some (true, .ab (dP (F.take k ++ S.drop k) W last b))) => layA (nx := nx) h0 (k : Int) F[k]
    have hl2 : (F.take k ++ S.drop k).length = Z := by rw [List.length_append, List.length_take, List.length_drop]; omega
    have hin : inS (F.take k ++ S.drop k).length (k : Int) = true := inS_iff.2 (by rw [hl2]; omega)
    have hw : wrE (F.take k ++ S.drop k).length (k : Int) F[k] = 0 := by rw [wrE, hin, if_pos rfl, if_pos (hfs _ (List.getElem_mem hkF))]
    have hS : layS (F.take k ++ S.drop k) (k : Int) F[k] = F.take (k + 1) ++ S.drop (k + 1) := by
      rw [layS, if_pos hw, Int.toNat_natCast]
      exact lay_part (by omega) hkF
    rw [hw, hS] at hla
    refine rn [(32, .ld [.s F[k]]), (36, .spec ⟨.t (.c (iT 0)), [], [(0, some (.ab (dP (F.take (k + 1) ++ S.drop (k + 1)) W last b)))], []⟩)] rfl (by (repeat' (first | exact trivial | exact rfl | exact trivial | exact fun _ => trivial | first | exact e1 | exact ⟨e1, trivial⟩ | exact b0 | exact b1 | exact hla _ _ rfl | rfl | decide | refine And.intro ?_ ?_))) ?_
    exact roundEnd ⟨k + 1, by omega⟩ [] (by show Z - (k + 1) < Z - k; omega) (by (repeat' (first | exact trivial | exact rfl | exact w3 | exact fun _ => w3 | refine And.intro ?_ ?_))) (by repeat' (first | exact trivial | exact rfl | refine And.intro ?_ ?_)) rfl
  · have hke : k = Z := by have : ¬ (k : Int) < (Z : Int) := of_decide_eq_false h1; omega
    have hfin : F.take k ++ S.drop k = F := by rw [hke, List.take_of_length_le (by omega), List.drop_of_length_le (by omega), List.append_nil]
    rw [hfin]
    refine rn [] rfl (by repeat' (first | exact trivial | exact rfl | refine And.intro ?_ ?_)) (roundExit rfl ?_)
    refine rnA [] rfl (by repeat' (first | exact trivial | exact rfl | refine And.intro ?_ ?_)) ?_
    exact retM tysOk [(0, 0)] rfl (by repeat' (first | exact trivial | exact rfl | refine And.intro ?_ ?_)) (by repeat' (first | exact trivial | exact rfl | refine And.intro ?_ ?_)) rfl rfl
end
/-- The table of an empty file system. -/
theorem fmt_tb {a bb c : Int} (hg : Gok a bb c) : TbI (fmtL a bb c) a bb c (List.replicate (fN a bb c) (0, 0)) 0 0 (fZ a bb c) := by
  obtain ⟨hn, hs, h2, h132, hz, h403, hme, hmp, hie, his⟩ := fgeo hg
  have hl : (List.replicate (fN a bb c) ((0 : Int), (0 : Int))).length = fN a bb c := List.length_replicate
  have hf2 := f2L_len (a := a) (bb := bb) (c := c)
  have hft := fTb_len (a := a) (bb := bb) (c := c)
  have h3 : tT (f3L a bb c) (nsec (fN a bb c)) = fTb a bb c := by
    rw [tT, f3L, List.append_assoc, List.drop_append_of_le_length (by rw [List.length_take]; omega)]
    have : List.drop 2 (List.take 2 (f2L a bb c)) = [] := by rw [List.drop_eq_nil_iff, List.length_take]; omega
    rw [this, List.nil_append, List.take_append_of_le_length (by omega), List.take_of_length_le (by omega)]
  have hset : ∀ (X : List ByteArray) (q : Nat) (t : ByteArray), 2 + nsec (fN a bb c) ≤ q → tT (X.set q t) (nsec (fN a bb c)) = tT X (nsec (fN a bb c)) := by
    intro X q t hq
    obtain ⟨j, rfl⟩ : ∃ j, q = 2 + j := ⟨q - 2, by omega⟩
    rw [tT, tT, List.drop_set, if_neg (by omega), show 2 + j - 2 = j by omega, List.take_set, List.set_eq_of_length_le (by rw [List.length_take]; omega)]
  have hs1 : s1 (fmtL a bb c) = wallB 0 0 := by
    rw [s1, fmtL, List.getD_eq_getElem?_getD, List.getElem?_set, if_neg (by rw [his]; omega), List.getElem?_set, if_neg (by rw [hmp]; omega), f3L, List.append_assoc, List.getElem?_append_left (by rw [List.length_take]; omega), List.getElem?_take, if_pos (by decide), f2L, List.getElem?_set, if_pos rfl, if_pos (by rw [List.length_set, f0L_len]; omega)]
    rfl
  refine ⟨hg, by rw [hl]; exact hn, ?_, by rw [hl]; omega, ?_, hs1, by decide, by decide, ⟨fmtL_len hg, by omega, fmtL_size hg, by simp, by simp, by simp, by simp, by omega⟩⟩
  · rw [List.all_eq_true]
    intro x hx
    rw [List.eq_of_mem_replicate hx]
    rfl
  · rw [hl, fmtL, hset _ _ _ (by rw [his]; omega), hset _ _ _ (by rw [hmp]; omega), h3]
    rfl
end Cw
