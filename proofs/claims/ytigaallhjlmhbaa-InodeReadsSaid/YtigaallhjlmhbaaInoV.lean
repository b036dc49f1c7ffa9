/- The walks of the program's package inode, by reckoning: Check, num, Encode. -/
import Derived.Test.YtigaallhjlmhbaaVcGo
import Derived.Test.YtigaallhjlmhbaaInoW
namespace Cw
open Go Vc
open Go.Proofs
set_option maxRecDepth 100000
def inoT (n : Ino) : TV := .agg [.i .i64 n.k, .i .i64 n.l, .i .i64 n.z, .i .i64 n.p, .i .i64 n.g, .i .i64 (n.d 0), .i .i64 (n.d 1), .i .i64 (n.d 2), .i .i64 (n.d 3), .i .i64 (n.d 4), .i .i64 (n.d 5), .i .i64 (n.d 6), .i .i64 (n.d 7), .i .i64 n.m]
theorem blocks_h (a b c : Int) (L : List Int) (hL : L.length ≤ 64) (h0 : 0 < L.length) {H : HL} {nx k : Nat} {bw : Bool} {T : TypeId} {xs : List Value} {len : Nat} (hk : lookH H k = some (bw, .own T 1 len xs)) (hx : xs = L.map (Value.int .i64)) :
    FnH Try.prog 66 [geoT a b c, .c (.nm k)] H nx ⟨.t (.c (.b (L.all (okb a b c)))), [], [], []⟩ := by
  subst hx
  refine ⟨fun _ _ e w M => ?_⟩
  obtain ⟨⟨hown, hfp⟩, hlt⟩ := M.ob k bw _ hk
  have hl : L.length = len := by have := hown.1; simpa using this
  subst hl
  rcases hown.2 with ⟨_, h2⟩ | ⟨g, cap, cur, hv, h3⟩
  · omega
  · have hc := hown.cells (g := g) (by rw [hv]; rfl)
    have hg : g < w.heap.size := hlt g ((hfp g).2 (by rw [hv]; rfl))
    have := iblocks_any a b c L hL g cap w hg fun k h => by
      have := hc k (.int .i64 (L[k]'h)) (by simp [h])
      rw [lit_add] at this
      simpa using this
    simp only [List.map_cons, List.map_nil, TV.den, CV.den, hv]
    refine Calls.mono this ?_
    rintro en w' ⟨rfl, hb⟩
    exact ⟨e, rfl, Mv.of_below hb⟩
theorem icheck0 (a b c : Int) (n : Ino) : Fn0 Try.prog 33 [geoT a b c, inoT n] (.t (.c (iT (ichk a b c n)))) := by
  have eb : (decide (n.g < 0) || decide (65535 < n.g) || decide (n.l < 0) || decide (255 < n.l) || decide (n.z < 0) || decide (2560 < n.z)) = ibad n := by simp [ibad, Bool.or_assoc]
  refine fn0 (fn := Try.f33) 96 rfl rfl rfl rfl rfl fun w => ?_
  refine rn [(9, .ret (.t (.c (iT (gcheck a b c)))))] rfl ?_ ?_
  · exact ⟨check0 a b c, trivial⟩
  refine ⟨fun h => ?_, fun h => ?_⟩
  · have hg := gc_true h
    refine rn [] rfl trivial ?_
    refine ret0 tysOk rfl ⟨?_, trivial⟩ rfl
    simp [ichk, gcheck, hg]
  have hg := gc_false h
  clear h
  have hi : ichk a b c n = if iok a b c n = true then 0 else 60 := by rw [ichk, if_pos hg]
  refine rn [] rfl (by repeat' (first | exact trivial | exact rfl | refine And.intro ?_ ?_)) ?_
  refine ⟨fun h0 => ?_, fun h0 => ?_⟩
  · have hk : n.k = 0 := by simpa using h0
    refine rn [] rfl (by repeat' (first | exact trivial | exact rfl | refine And.intro ?_ ?_)) ?_
    refine ⟨fun h1 => ?_, fun h1 => ?_⟩
    · refine rn [] rfl trivial ?_
      refine ret0 tysOk rfl ⟨?_, trivial⟩ rfl
      rw [eb] at h1
      have : iok a b c n = false := by cases hb : ibad n <;> simp_all [iok, ibare, ids, polB] <;> omega
      rw [hi, this]; rfl
    · refine rn [] rfl trivial ?_
      refine ret0 tysOk rfl ⟨?_, trivial⟩ rfl
      rw [eb] at h1
      have : iok a b c n = true := by cases hb : ibad n <;> simp_all [iok, ibare, ids, polB]
      rw [hi, this]; rfl
  have hk : n.k ≠ 0 := by simpa using h0
  clear h0
  refine rn [] rfl trivial ?_
  refine ⟨fun h0 => ?_, fun h0 => ?_⟩
  · have hk2 : n.k = 2 := by simpa using h0
    clear h0
    have hi2 : iok a b c n = (!(ibad n || !idir a b c n) && iblk a b c n) := by simp [iok, hk2, Bool.and_assoc]
    have e2 : ∀ {x}, (ibad n || !idir a b c n) = x → (decide (n.g < 0) || decide (65535 < n.g) || decide (n.l < 0) || decide (255 < n.l) || decide (n.z < 0) || decide (2560 < n.z) || n.z.tmod 64 != 0 || decide (n.p < 1) || decide (ginodes a b c < n.p) || (0 : Int) != 0) = x := by
      rintro x rfl
      rw [eb]
      have hz : (n.z.tmod 64 != 0) = !decide (n.z % 64 = 0) := by
        have : n.z.tmod 64 = 0 ↔ n.z % 64 = 0 := by
          rw [← Int.dvd_iff_tmod_eq_zero, Int.dvd_iff_emod_eq_zero]
        cases h : decide (n.z % 64 = 0) <;> simp_all
      have q1 : decide (n.p < 1) = !decide (1 ≤ n.p) := by rw [← decide_not]; exact decide_eq_decide.2 (by omega)
      have q2 : decide (ginodes a b c < n.p) = !decide (n.p ≤ ginodes a b c) := by rw [← decide_not]; exact decide_eq_decide.2 (by omega)
      rw [hz, q1, q2]
      simp [idir, Bool.or_assoc]
    cases hd : (ibad n || !idir a b c n)
    · refine rn [(73, .ret (.t (.c (iT (ginodes a b c))))), (85, .dec false), (92, .spec ⟨.t (.c (.b (iblk a b c n))), [], [], []⟩)] rfl ?_ ?_
      · repeat' (first | exact trivial | exact rfl | exact e2 hd | refine And.intro ?_ ?_)
        all_goals first | (exact blocks_h a b c (ids n ++ [n.m]) (by simp [ids]) (by simp [ids]) rfl rfl) | decide | exact fun _ => inodes0 a b c | exact fun _ => by decide
      · refine ⟨fun h1 => ?_, fun h1 => ?_⟩
        · refine rn [] rfl trivial ?_
          refine ret0 tysOk rfl ⟨?_, trivial⟩ rfl
          rw [hi, hi2, hd]; simp_all
        · refine rn [] rfl trivial ?_
          refine ret0 tysOk rfl ⟨?_, trivial⟩ rfl
          rw [hi, hi2, hd]; simp_all
    · refine rn [(73, .ret (.t (.c (iT (ginodes a b c))))), (85, .dec true), (95, .dec true)] rfl ?_ ?_
      · repeat' (first | exact trivial | exact rfl | exact e2 hd | refine And.intro ?_ ?_)
        all_goals first | decide | exact fun _ => inodes0 a b c | exact fun _ => by decide
      · refine ret0 tysOk rfl ⟨?_, trivial⟩ rfl
        rw [hi, hi2, hd]; rfl
  have hk2 : n.k ≠ 2 := by simpa using h0
  clear h0
  refine rn [] rfl trivial ?_
  refine ⟨fun h0 => ?_, fun h0 => ?_⟩
  · have hk1 : n.k = 1 := by simpa using h0
    clear h0
    have hi2 : iok a b c n = (!(ibad n || n.p != 0) && iblk a b c n) := by simp [iok, hk1, Bool.and_assoc, bne]
    have e2 : ∀ {x}, (ibad n || n.p != 0) = x → (decide (n.g < 0) || decide (65535 < n.g) || decide (n.l < 0) || decide (255 < n.l) || decide (n.z < 0) || decide (2560 < n.z) || n.p != 0) = x := by
      rintro x rfl
      rw [eb]
    cases hd : (ibad n || n.p != 0)
    · refine rn [(85, .dec false), (92, .spec ⟨.t (.c (.b (iblk a b c n))), [], [], []⟩)] rfl ?_ ?_
      · repeat' (first | exact trivial | exact rfl | exact e2 hd | refine And.intro ?_ ?_)
        all_goals first | (exact blocks_h a b c (ids n ++ [n.m]) (by simp [ids]) (by simp [ids]) rfl rfl) | decide | exact fun _ => by decide
      · refine ⟨fun h1 => ?_, fun h1 => ?_⟩
        · refine rn [] rfl trivial ?_
          refine ret0 tysOk rfl ⟨?_, trivial⟩ rfl
          rw [hi, hi2, hd]; simp_all
        · refine rn [] rfl trivial ?_
          refine ret0 tysOk rfl ⟨?_, trivial⟩ rfl
          rw [hi, hi2, hd]; simp_all
    · refine rn [(85, .dec true), (95, .dec true)] rfl ?_ ?_
      · repeat' (first | exact trivial | exact rfl | exact e2 hd | refine And.intro ?_ ?_)
        all_goals first | decide | exact fun _ => by decide
      · refine ret0 tysOk rfl ⟨?_, trivial⟩ rfl
        rw [hi, hi2, hd]; rfl
  · have hk1 : n.k ≠ 1 := by simpa using h0
    have hi2 : iok a b c n = false := by simp [iok, hk, hk1, hk2]
    refine rn [(95, .dec true)] rfl (by repeat' (first | exact trivial | exact rfl | refine And.intro ?_ ?_)) ?_
    refine ret0 tysOk rfl ⟨?_, trivial⟩ rfl
    rw [hi, hi2]; rfl

theorem inum0 (o b n : Int) : Fn0 Try.prog 62 [.c (iT o), .c (iT b), .c (iT n)] (.t (patT (putoff o b n) (putb o b n))) := by
  refine fn0 (fn := Try.f62) 17 rfl rfl rfl rfl rfl fun w => ?_
  refine rn [(13, .ret (.tup [patT (putoff o b n) (putb o b n), .c (iT (pute o b n))]))] rfl (by (repeat' (first | exact trivial | exact rfl | exact put0 o b n | exact fun _ => put0 o b n | refine And.intro ?_ ?_))) ?_
  exact ret0 tysOk rfl ⟨rfl, rfl, trivial⟩ rfl
end Cw
/- The walks of the program's package inode, by reckoning: Encode, Decode. -/
namespace Cw
open Go Vc
open Go.Proofs
set_option maxRecDepth 100000
def pat (o b n : Int) : Pt := (putoff o b n, S (putb o b n))
def ipats (n : Ino) : List Pt := [pat 0 1 n.k, pat 1 1 n.l, pat 2 2 n.z, pat 4 2 n.p, pat 6 2 n.g, pat 24 2 n.m, pat 8 2 (n.d 0), pat 10 2 (n.d 1), pat 12 2 (n.d 2), pat 14 2 (n.d 3), pat 16 2 (n.d 4), pat 18 2 (n.d 5), pat 20 2 (n.d 6), pat 22 2 (n.d 7)]
theorem pat_size (o b n : Int) : (pat o b n).2.size ≤ 9223372036854775807 := by
  simp only [pat, S_size, putb]
  split
  · rename_i h
    rw [le_length]
    rcases h.1 with h | h | h <;> subst h <;> decide
  · simp
theorem ipats_size (n : Ino) : ∀ p ∈ ipats n, p.2.size ≤ 9223372036854775807 := by
  intro p hp
  simp only [ipats, List.mem_cons, List.not_mem_nil, or_false] at hp
  rcases hp with rfl | rfl | rfl | rfl | rfl | rfl | rfl | rfl | rfl | rfl | rfl | rfl | rfl | rfl <;> exact pat_size _ _ _
theorem B0_size : B0.size = 64 := by decide
def ienc (a b c : Int) (n : Ino) : ByteArray := if ichk a b c n = 0 then pt B0 (ipats n) else ⟨#[]⟩
def ience (a b c : Int) (n : Ino) : Int := if ichk a b c n = 0 then pte B0 (ipats n) else ichk a b c n
theorem ienc0 (a b c : Int) (n : Ino) : Fn0 Try.prog 31 [geoT a b c, inoT n] (.tup [.c (.s (ienc a b c n)), .c (iT (ience a b c n))]) := by
  refine fn0 (fn := Try.f31) 55 rfl rfl rfl rfl rfl fun w => ?_
  refine rn [(12, .ret (.t (.c (iT (ichk a b c n)))))] rfl (by (repeat' (first | exact trivial | exact rfl | exact icheck0 a b c n | exact fun _ => icheck0 a b c n | refine And.intro ?_ ?_))) ?_
  refine ⟨fun h => ?_, fun h => ?_⟩
  · have hz : ichk a b c n ≠ 0 := by simpa using h
    refine rn [] rfl trivial ?_
    refine ret0 tysOk rfl ⟨?_, ?_, trivial⟩ rfl
    · rw [ienc, if_neg hz]
    · rw [ience, if_neg hz]
  have hz : ichk a b c n = 0 := by simpa using h
  have e1 : ienc a b c n = pt B0 (ipats n) := by rw [ienc, if_pos hz]
  have e2 : ience a b c n = pte B0 (ipats n) := by rw [ience, if_pos hz]
  refine rn [(18, .ret (.t (patT (putoff 0 1 n.k) (putb 0 1 n.k)))), (21, .ret (.t (patT (putoff 1 1 n.l) (putb 1 1 n.l)))), (24, .ret (.t (patT (putoff 2 2 n.z) (putb 2 2 n.z)))), (27, .ret (.t (patT (putoff 4 2 n.p) (putb 4 2 n.p)))), (30, .ret (.t (patT (putoff 6 2 n.g) (putb 6 2 n.g)))), (33, .ret (.t (patT (putoff 24 2 n.m) (putb 24 2 n.m))))] rfl (by (repeat' (first | exact trivial | exact rfl | exact inum0 _ _ _ | exact fun _ => inum0 _ _ _ | decide | refine And.intro ?_ ?_))) ?_
  refine At.unroll ?_
  refine rn [(38, .dec true), (46, .ret (.t (patT (putoff 8 2 (n.d 0)) (putb 8 2 (n.d 0)))))] rfl (by (repeat' (first | exact trivial | exact rfl | exact inum0 8 2 (n.d 0) | exact fun _ => inum0 8 2 (n.d 0) | decide | refine And.intro ?_ ?_))) (nextRound ?_)
  refine rn [(38, .dec true), (46, .ret (.t (patT (putoff 10 2 (n.d 1)) (putb 10 2 (n.d 1)))))] rfl (by (repeat' (first | exact trivial | exact rfl | exact inum0 10 2 (n.d 1) | exact fun _ => inum0 10 2 (n.d 1) | decide | refine And.intro ?_ ?_))) (nextRound ?_)
  refine rn [(38, .dec true), (46, .ret (.t (patT (putoff 12 2 (n.d 2)) (putb 12 2 (n.d 2)))))] rfl (by (repeat' (first | exact trivial | exact rfl | exact inum0 12 2 (n.d 2) | exact fun _ => inum0 12 2 (n.d 2) | decide | refine And.intro ?_ ?_))) (nextRound ?_)
  refine rn [(38, .dec true), (46, .ret (.t (patT (putoff 14 2 (n.d 3)) (putb 14 2 (n.d 3)))))] rfl (by (repeat' (first | exact trivial | exact rfl | exact inum0 14 2 (n.d 3) | exact fun _ => inum0 14 2 (n.d 3) | decide | refine And.intro ?_ ?_))) (nextRound ?_)
  refine rn [(38, .dec true), (46, .ret (.t (patT (putoff 16 2 (n.d 4)) (putb 16 2 (n.d 4)))))] rfl (by (repeat' (first | exact trivial | exact rfl | exact inum0 16 2 (n.d 4) | exact fun _ => inum0 16 2 (n.d 4) | decide | refine And.intro ?_ ?_))) (nextRound ?_)
  refine rn [(38, .dec true), (46, .ret (.t (patT (putoff 18 2 (n.d 5)) (putb 18 2 (n.d 5)))))] rfl (by (repeat' (first | exact trivial | exact rfl | exact inum0 18 2 (n.d 5) | exact fun _ => inum0 18 2 (n.d 5) | decide | refine And.intro ?_ ?_))) (nextRound ?_)
  refine rn [(38, .dec true), (46, .ret (.t (patT (putoff 20 2 (n.d 6)) (putb 20 2 (n.d 6)))))] rfl (by (repeat' (first | exact trivial | exact rfl | exact inum0 20 2 (n.d 6) | exact fun _ => inum0 20 2 (n.d 6) | decide | refine And.intro ?_ ?_))) (nextRound ?_)
  refine rn [(38, .dec true), (46, .ret (.t (patT (putoff 22 2 (n.d 7)) (putb 22 2 (n.d 7)))))] rfl (by (repeat' (first | exact trivial | exact rfl | exact inum0 22 2 (n.d 7) | exact fun _ => inum0 22 2 (n.d 7) | decide | refine And.intro ?_ ?_))) (nextRound ?_)
  refine rn [(38, .dec false)] rfl (by repeat' (first | exact trivial | exact rfl | refine And.intro ?_ ?_)) (nextExit rfl ?_)
  refine rnA [(50, .ret (.t (.c (.s B0)))), (52, .spec ⟨.tup [.c (.s (pt B0 (ipats n))), .c (iT (pte B0 (ipats n)))], [], [], []⟩)] rfl (by (repeat' (first | exact trivial | exact rfl | exact blank0 | exact fun _ => blank0 | exact patched_own B0 (ipats n) (ipats_size n) (by rw [B0_size]; decide) rfl rfl | refine And.intro ?_ ?_))) ?_
  rw [e1, e2]
  exact ret0 tysOk rfl ⟨rfl, rfl, trivial⟩ rfl
/-- The numbers of a sector. -/
def dn (s : ByteArray) : Ino := ⟨(getn s 0 1 : Nat), (getn s 1 1 : Nat), (getn s 2 2 : Nat), (getn s 4 2 : Nat), (getn s 6 2 : Nat), fun i => [((getn s 8 2 : Nat) : Int), (getn s 10 2 : Nat), (getn s 12 2 : Nat), (getn s 14 2 : Nat), (getn s 16 2 : Nat), (getn s 18 2 : Nat), (getn s 20 2 : Nat), (getn s 22 2 : Nat)].getD i 0, (getn s 24 2 : Nat)⟩
def iz : Ino := ⟨0, 0, 0, 0, 0, fun _ => 0, 0⟩
def idok (a b c : Int) (s : ByteArray) : Prop := s.size = 64 ∧ ience a b c (dn s) = 0 ∧ ienc a b c (dn s) = s
instance (a b c : Int) (s : ByteArray) : Decidable (idok a b c s) := by unfold idok; infer_instance
def idec (a b c : Int) (s : ByteArray) : Ino := if Gok a b c ∧ idok a b c s then dn s else iz
def idece (a b c : Int) (s : ByteArray) : Int := if Gok a b c then (if idok a b c s then 0 else 60) else 4
theorem get_h (s : ByteArray) (hs : s.size ≤ 9223372036854775807) (o n : Int) {H : HL} {nx k : Nat} {b : Bool} (hk : lookH H k = some (b, .cells [.s s] 9)) : FnH Try.prog 75 [.c (iT o), .c (iT n), .c (.p k 0)] H nx ⟨.t (.c (iT (getn s o n : Nat))), [], [], []⟩ := by
  refine fnR (fn := Try.f75) 16 rfl rfl rfl (args' := [.c (iT o), .c (iT n), .c (.p 0 0)]) (H' := [(0, some (false, .cells [.s s] 9))]) (nx' := 1) (fun e w M => ⟨_, mem_one hk M (by repeat' (first | exact trivial | exact rfl | refine And.intro ?_ ?_)), rfl⟩) rfl rfl rfl rfl fun w => ?_
  refine rn [(12, .ret (.tup [.c (iT (getn s o n : Nat)), .c (iT (gete s.size o n))]))] rfl (by (repeat' (first | exact trivial | exact rfl | exact get0 s o n hs | exact fun _ => get0 s o n hs | refine And.intro ?_ ?_))) ?_
  exact ret0 tysOk rfl ⟨rfl, trivial⟩ rfl
theorem idec0 (a b c : Int) (s : ByteArray) (hs : s.size ≤ 9223372036854775807) : Fn0 Try.prog 44 [geoT a b c, .c (.s s)] (.tup [inoT (idec a b c s), .c (iT (idece a b c s))]) := by
  refine fn0 (fn := Try.f44) 63 rfl rfl rfl rfl rfl fun w => ?_
  refine rn [(13, .ret (.t (.c (iT (gcheck a b c)))))] rfl (by (repeat' (first | exact trivial | exact rfl | exact check0 a b c | exact fun _ => check0 a b c | refine And.intro ?_ ?_))) ?_
  refine ⟨fun h => ?_, fun h => ?_⟩
  · have hg := gc_true h
    refine rn [] rfl (by repeat' (first | exact trivial | exact rfl | refine And.intro ?_ ?_)) ?_
    rw [idec, if_neg (fun h => hg h.1), idece, if_neg hg]
    exact ret0 tysOk rfl (by (repeat' (first | exact trivial | exact rfl | exact (by rw [gcheck, if_neg hg] : gcheck a b c = 4) | exact fun _ => (by rw [gcheck, if_neg hg] : gcheck a b c = 4) | refine And.intro ?_ ?_))) rfl
  have hg := gc_false h
  refine rn [] rfl (by repeat' (first | exact trivial | exact rfl | refine And.intro ?_ ?_)) ?_
  refine ⟨fun h => ?_, fun h => ?_⟩
  · have hz : ¬ idok a b c s := fun hd => by
      have := hd.1
      simp [this] at h
    refine rn [] rfl (by repeat' (first | exact trivial | exact rfl | refine And.intro ?_ ?_)) ?_
    rw [idec, if_neg (fun h => hz h.2), idece, if_pos hg, if_neg hz]
    exact ret0 tysOk rfl (by repeat' (first | exact trivial | exact rfl | refine And.intro ?_ ?_)) rfl
  have hz : s.size = 64 := by
    simp at h
    omega
  clear h
  refine rn [(24, .spec ⟨.t (.c (iT (getn s 0 1 : Nat))), [], [], []⟩), (26, .spec ⟨.t (.c (iT (getn s 1 1 : Nat))), [], [], []⟩), (28, .spec ⟨.t (.c (iT (getn s 2 2 : Nat))), [], [], []⟩), (30, .spec ⟨.t (.c (iT (getn s 4 2 : Nat))), [], [], []⟩), (32, .spec ⟨.t (.c (iT (getn s 6 2 : Nat))), [], [], []⟩), (34, .spec ⟨.t (.c (iT (getn s 24 2 : Nat))), [], [], []⟩)] rfl (by (repeat' (first | exact trivial | exact rfl | exact get_h s hs _ _ rfl | exact fun _ => get_h s hs _ _ rfl | decide | refine And.intro ?_ ?_))) ?_
  refine At.unroll ?_
  refine rn [(37, .dec true), (44, .spec ⟨.t (.c (iT (getn s 8 2 : Nat))), [], [], []⟩)] rfl (by (repeat' (first | exact trivial | exact rfl | exact get_h s hs 8 2 rfl | exact fun _ => get_h s hs 8 2 rfl | decide | refine And.intro ?_ ?_))) (nextRound ?_)
  refine rn [(37, .dec true), (44, .spec ⟨.t (.c (iT (getn s 10 2 : Nat))), [], [], []⟩)] rfl (by (repeat' (first | exact trivial | exact rfl | exact get_h s hs 10 2 rfl | exact fun _ => get_h s hs 10 2 rfl | decide | refine And.intro ?_ ?_))) (nextRound ?_)
  refine rn [(37, .dec true), (44, .spec ⟨.t (.c (iT (getn s 12 2 : Nat))), [], [], []⟩)] rfl (by (repeat' (first | exact trivial | exact rfl | exact get_h s hs 12 2 rfl | exact fun _ => get_h s hs 12 2 rfl | decide | refine And.intro ?_ ?_))) (nextRound ?_)
  refine rn [(37, .dec true), (44, .spec ⟨.t (.c (iT (getn s 14 2 : Nat))), [], [], []⟩)] rfl (by (repeat' (first | exact trivial | exact rfl | exact get_h s hs 14 2 rfl | exact fun _ => get_h s hs 14 2 rfl | decide | refine And.intro ?_ ?_))) (nextRound ?_)
  refine rn [(37, .dec true), (44, .spec ⟨.t (.c (iT (getn s 16 2 : Nat))), [], [], []⟩)] rfl (by (repeat' (first | exact trivial | exact rfl | exact get_h s hs 16 2 rfl | exact fun _ => get_h s hs 16 2 rfl | decide | refine And.intro ?_ ?_))) (nextRound ?_)
  refine rn [(37, .dec true), (44, .spec ⟨.t (.c (iT (getn s 18 2 : Nat))), [], [], []⟩)] rfl (by (repeat' (first | exact trivial | exact rfl | exact get_h s hs 18 2 rfl | exact fun _ => get_h s hs 18 2 rfl | decide | refine And.intro ?_ ?_))) (nextRound ?_)
  refine rn [(37, .dec true), (44, .spec ⟨.t (.c (iT (getn s 20 2 : Nat))), [], [], []⟩)] rfl (by (repeat' (first | exact trivial | exact rfl | exact get_h s hs 20 2 rfl | exact fun _ => get_h s hs 20 2 rfl | decide | refine And.intro ?_ ?_))) (nextRound ?_)
  refine rn [(37, .dec true), (44, .spec ⟨.t (.c (iT (getn s 22 2 : Nat))), [], [], []⟩)] rfl (by (repeat' (first | exact trivial | exact rfl | exact get_h s hs 22 2 rfl | exact fun _ => get_h s hs 22 2 rfl | decide | refine And.intro ?_ ?_))) (nextRound ?_)
  refine rn [(37, .dec false)] rfl (by repeat' (first | exact trivial | exact rfl | refine And.intro ?_ ?_)) (nextExit rfl ?_)
  refine rnA [(51, .ret (.tup [.c (.s (ienc a b c (dn s))), .c (iT (ience a b c (dn s)))]))] rfl (by (repeat' (first | exact trivial | exact rfl | exact ienc0 a b c (dn s) | exact fun _ => ienc0 a b c (dn s) | refine And.intro ?_ ?_))) ?_
  refine ⟨fun h => ?_, fun h => ?_⟩
  · have hn : ¬ idok a b c s := fun hd => by
      simp [hd.2.1, hd.2.2, polB] at h
    refine rn [] rfl (by repeat' (first | exact trivial | exact rfl | refine And.intro ?_ ?_)) ?_
    rw [idec, if_neg (fun h => hn h.2), idece, if_pos hg, if_neg hn]
    exact ret0 tysOk rfl (by repeat' (first | exact trivial | exact rfl | refine And.intro ?_ ?_)) rfl
  · have hd : idok a b c s := by
      refine ⟨hz, ?_⟩
      simp [polB] at h
      exact ⟨h.1, bt_inj h.2⟩
    refine rn [] rfl (by repeat' (first | exact trivial | exact rfl | refine And.intro ?_ ?_)) ?_
    rw [idec, if_pos ⟨hg, hd⟩, idece, if_pos hg, if_pos hd]
    exact ret0 tysOk rfl (by repeat' (first | exact trivial | exact rfl | refine And.intro ?_ ?_)) rfl
end Cw
