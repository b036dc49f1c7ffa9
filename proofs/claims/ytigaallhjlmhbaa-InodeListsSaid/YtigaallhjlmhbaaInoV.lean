/- The walks of the program's package inode, by reckoning: Check, num, Encode. -/
import Derived.Test.YtigaallhjlmhbaaVcGo
import Derived.Test.YtigaallhjlmhbaaInoW
namespace Cw
open Go Vc
open Go.Proofs
set_option maxRecDepth 100000
def inoT (n : Ino) : TV := .agg [.i .i64 n.k, .i .i64 n.l, .i .i64 n.z, .i .i64 n.p, .i .i64 n.g, .i .i64 (n.d 0), .i .i64 (n.d 1), .i .i64 (n.d 2), .i .i64 (n.d 3), .i .i64 (n.d 4), .i .i64 (n.d 5), .i .i64 (n.d 6), .i .i64 (n.d 7), .i .i64 n.m]
theorem blocks_h (a b c : Int) (L : List Int) (hL : L.length ≤ 64) (h0 : 0 < L.length) {H : HL} {nx k : Nat} {bw : Bool} {T : TypeId} {xs : List Value} {len : Nat} (hk : lookH H k = some (bw, .own T 1 len xs)) (hx : xs = L.map (Value.int .i64)) :
    FnH Try.prog 66 [geoT a b c, .c (.nm k)] H nx ⟨.t (.c (.b (L.all (okb a b c)))), [], [], []⟩ := by
  subst hx
  refine ⟨fun _ _ e w M => ?_⟩
  obtain ⟨⟨hown, hfp⟩, hlt⟩ := M.ob k bw _ hk
  have hl : L.length = len := by have := hown.1; simpa using this
  subst hl
  rcases hown.2 with ⟨_, h2⟩ | ⟨g, cap, cur, hv, h3⟩
  · omega
  · have hc := hown.cells (g := g) (by rw [hv]; rfl)
    have hg : g < w.heap.size := hlt g ((hfp g).2 (by rw [hv]; rfl))
    have := iblocks_any a b c L hL g cap w hg fun k h => by
      have := hc k (.int .i64 (L[k]'h)) (by simp [h])
      rw [lit_add] at this
      simpa using this
    simp only [List.map_cons, List.map_nil, TV.den, CV.den, hv]
    refine Calls.mono this ?_
    rintro en w' ⟨rfl, hb⟩
    exact ⟨e, rfl, Mv.of_below hb⟩
theorem icheck0 (a b c : Int) (n : Ino) : Fn0 Try.prog 33 [geoT a b c, inoT n] (.t (.c (iT (ichk a b c n)))) := by
  have eb : (decide (n.g < 0) || decide (65535 < n.g) || decide (n.l < 0) || decide (255 < n.l) || decide (n.z < 0) || decide (2560 < n.z)) = ibad n := by simp [ibad, Bool.or_assoc]
  refine fn0 (fn := Try.f33) 96 rfl rfl rfl rfl rfl fun w => ?_
  refine rn [(9, .ret (.t (.c (iT (gcheck a b c)))))] rfl ?_ ?_
  · exact ⟨check0 a b c, trivial⟩
  refine ⟨fun h => ?_, fun h => ?_⟩
  · have hg := gc_true h
    refine rn [] rfl trivial ?_
    refine ret0 tysOk rfl ⟨?_, trivial⟩ rfl
    simp [ichk, gcheck, hg]
  have hg := gc_false h
  clear h
  have hi : ichk a b c n = if iok a b c n = true then 0 else 60 := by rw [ichk, if_pos hg]
  refine rn [] rfl (by repeat' (first | exact trivial | exact rfl | refine And.intro ?_ ?_)) ?_
  refine ⟨fun h0 => ?_, fun h0 => ?_⟩
  · have hk : n.k = 0 := by simpa using h0
    refine rn [] rfl (by repeat' (first | exact trivial | exact rfl | refine And.intro ?_ ?_)) ?_
    refine ⟨fun h1 => ?_, fun h1 => ?_⟩
    · refine rn [] rfl trivial ?_
      refine ret0 tysOk rfl ⟨?_, trivial⟩ rfl
      rw [eb] at h1
      have : iok a b c n = false := by cases hb : ibad n <;> simp_all [iok, ibare, ids, polB] <;> omega
      rw [hi, this]; rfl
    · refine rn [] rfl trivial ?_
      refine ret0 tysOk rfl ⟨?_, trivial⟩ rfl
      rw [eb] at h1
      have : iok a b c n = true := by cases hb : ibad n <;> simp_all [iok, ibare, ids, polB]
      rw [hi, this]; rfl
  have hk : n.k ≠ 0 := by simpa using h0
  clear h0
  refine rn [] rfl trivial ?_
  refine ⟨fun h0 => ?_, fun h0 => ?_⟩
  · have hk2 : n.k = 2 := by simpa using h0
    clear h0
    have hi2 : iok a b c n = (!(ibad n || !idir a b c n) && iblk a b c n) := by simp [iok, hk2, Bool.and_assoc]
    have e2 : ∀ {x}, (ibad n || !idir a b c n) = x → (decide (n.g < 0) || decide (65535 < n.g) || decide (n.l < 0) || decide (255 < n.l) || decide (n.z < 0) || decide (2560 < n.z) || n.z.tmod 64 != 0 || decide (n.p < 1) || decide (ginodes a b c < n.p) || (0 : Int) != 0) = x := by
      rintro x rfl
      rw [eb]
      have hz : (n.z.tmod 64 != 0) = !decide (n.z % 64 = 0) := by
        have : n.z.tmod 64 = 0 ↔ n.z % 64 = 0 := by
          rw [← Int.dvd_iff_tmod_eq_zero, Int.dvd_iff_emod_eq_zero]
        cases h : decide (n.z % 64 = 0) <;> simp_all
      have q1 : decide (n.p < 1) = !decide (1 ≤ n.p) := by rw [← decide_not]; exact decide_eq_decide.2 (by omega)
      have q2 : decide (ginodes a b c < n.p) = !decide (n.p ≤ ginodes a b c) := by rw [← decide_not]; exact decide_eq_decide.2 (by omega)
      rw [hz, q1, q2]
      simp [idir, Bool.or_assoc]
    cases hd : (ibad n || !idir a b c n)
    · refine rn [(73, .ret (.t (.c (iT (ginodes a b c))))), (85, .dec false), (92, .spec ⟨.t (.c (.b (iblk a b c n))), [], [], []⟩)] rfl ?_ ?_
      · repeat' (first | exact trivial | exact rfl | exact e2 hd | refine And.intro ?_ ?_)
        all_goals first | (exact blocks_h a b c (ids n ++ [n.m]) (by simp [ids]) (by simp [ids]) rfl rfl) | decide | exact fun _ => inodes0 a b c | exact fun _ => by decide
      · refine ⟨fun h1 => ?_, fun h1 => ?_⟩
        · refine rn [] rfl trivial ?_
          refine ret0 tysOk rfl ⟨?_, trivial⟩ rfl
          rw [hi, hi2, hd]; simp_all
        · refine rn [] rfl trivial ?_
          refine ret0 tysOk rfl ⟨?_, trivial⟩ rfl
          rw [hi, hi2, hd]; simp_all
    · refine rn [(73, .ret (.t (.c (iT (ginodes a b c))))), (85, .dec true), (95, .dec true)] rfl ?_ ?_
      · repeat' (first | exact trivial | exact rfl | exact e2 hd | refine And.intro ?_ ?_)
        all_goals first | decide | exact fun _ => inodes0 a b c | exact fun _ => by decide
      · refine ret0 tysOk rfl ⟨?_, trivial⟩ rfl
        rw [hi, hi2, hd]; rfl
  have hk2 : n.k ≠ 2 := by simpa using h0
  clear h0
  refine rn [] rfl trivial ?_
  refine ⟨fun h0 => ?_, fun h0 => ?_⟩
  · have hk1 : n.k = 1 := by simpa using h0
    clear h0
    have hi2 : iok a b c n = (!(ibad n || n.p != 0) && iblk a b c n) := by simp [iok, hk1, Bool.and_assoc, bne]
    have e2 : ∀ {x}, (ibad n || n.p != 0) = x → (decide (n.g < 0) || decide (65535 < n.g) || decide (n.l < 0) || decide (255 < n.l) || decide (n.z < 0) || decide (2560 < n.z) || n.p != 0) = x := by
      rintro x rfl
      rw [eb]
    cases hd : (ibad n || n.p != 0)
    · refine rn [(85, .dec false), (92, .spec ⟨.t (.c (.b (iblk a b c n))), [], [], []⟩)] rfl ?_ ?_
      · repeat' (first | exact trivial | exact rfl | exact e2 hd | refine And.intro ?_ ?_)
        all_goals first | (exact blocks_h a b c (ids n ++ [n.m]) (by simp [ids]) (by simp [ids]) rfl rfl) | decide | exact fun _ => by decide
      · refine ⟨fun h1 => ?_, fun h1 => ?_⟩
        · refine rn [] rfl trivial ?_
          refine ret0 tysOk rfl ⟨?_, trivial⟩ rfl
          rw [hi, hi2, hd]; simp_all
        · refine rn [] rfl trivial ?_
          refine ret0 tysOk rfl ⟨?_, trivial⟩ rfl
          rw [hi, hi2, hd]; simp_all
    · refine rn [(85, .dec true), (95, .dec true)] rfl ?_ ?_
      · repeat' (first | exact trivial | exact rfl | exact e2 hd | refine And.intro ?_ ?_)
        all_goals first | decide | exact fun _ => by decide
      · refine ret0 tysOk rfl ⟨?_, trivial⟩ rfl
        rw [hi, hi2, hd]; rfl
  · have hk1 : n.k ≠ 1 := by simpa using h0
    have hi2 : iok a b c n = false := by simp [iok, hk, hk1, hk2]
    refine rn [(95, .dec true)] rfl (by repeat' (first | exact trivial | exact rfl | refine And.intro ?_ ?_)) ?_
    refine ret0 tysOk rfl ⟨?_, trivial⟩ rfl
    rw [hi, hi2]; rfl

theorem inum0 (o b n : Int) : Fn0 Try.prog 62 [.c (iT o), .c (iT b), .c (iT n)] (.t (patT (putoff o b n) (putb o b n))) := by
  refine fn0 (fn := Try.f62) 17 rfl rfl rfl rfl rfl fun w => ?_
  refine rn [(13, .ret (.tup [patT (putoff o b n) (putb o b n), .c (iT (pute o b n))]))] rfl (by (repeat' (first | exact trivial | exact rfl | exact put0 o b n | exact fun _ => put0 o b n | refine And.intro ?_ ?_))) ?_
  exact ret0 tysOk rfl ⟨rfl, rfl, trivial⟩ rfl
end Cw
