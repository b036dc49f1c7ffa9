/- Slices of integers lent, kept and spoilt; whether a number is among some. -/
import Derived.Test.YtjnbdhgkoolhnaaGreatSrtH
namespace Cw
open Go Vc
open Go.Proofs
set_option maxRecDepth 100000
/-- A part of a row of one's own, from its beginning on. -/
theorem SlR.sub {H : HL} {k : Nat} {b : Bool} {T : TypeId} {n s m : Nat} {xs ys : List Value} (hk : lookH H k = some (b, .own T s n xs)) (hm : m ≤ n) (hy : xs.take (m * s) = ys) : SlR H (.c (.sub k 0 0 m)) m s ys := by
  subst hy
  intro e w M
  obtain ⟨⟨hown, hfp⟩, hlt⟩ := M.ob k b _ hk
  have hl : (xs.take (m * s)).length = m * s := by
    rw [List.length_take, hown.1]
    exact Nat.min_eq_left (Nat.mul_le_mul_right s hm)
  rcases hown.2 with ⟨hv, hz⟩ | ⟨g, cap, cur, hv, _, hb, hn, hcm, hs, ht⟩
  · have : m = 0 := by omega
    subst this
    refine ⟨none, 0, by simp [TV.den, CV.den, hv], ⟨by simp, Nat.le_refl _, by decide, fun _ => rfl, fun j u hu => by simp at hu⟩, fun a ha => by cases ha⟩
  · refine ⟨some ⟨g, 0, none⟩, cap, ?_, ⟨hl, by omega, hcm, fun h => (by cases h), fun j u hu => ⟨_, rfl, ?_⟩⟩, fun a ha _ => ?_⟩
    · simp only [TV.den, CV.den, hv]
      split <;> simp [lit_add]
    · refine hown.cells (g := g) (by rw [hv]; rfl) j u ?_
      rw [List.getElem?_take] at hu
      split at hu
      · exact hu
      · cases hu
    · cases ha
      exact (Array.getElem?_eq_some_iff.1 hb).1
theorem ivs_one (l : List Int) : ∀ u ∈ ivs l, u.oneCell' = true := by
  intro u hu
  simp only [ivs, List.mem_map] at hu
  obtain ⟨x, _, rfl⟩ := hu
  rfl
theorem ivs_append (a b : List Int) : ivs (a ++ b) = ivs a ++ ivs b := by simp [ivs]
theorem ivs_take (a : List Int) (n : Nat) : ivs (a.take n) = (ivs a).take n := by simp [ivs]
/-- The row behind a part that was lent. -/
theorem slrest {H : HL} {k : Nat} {b : Bool} {n : Nat} {xs : List Value} (hk : lookH H k = some (b, .own 3 1 n xs)) : ∀ e w, MemOk H e w → Mem (fun _ => False) [(0, some (false, .own 3 1 n xs))] (e.ren [(0, k)]) w := fun e w M => mem_one hk M (by repeat' (first | exact trivial | exact rfl | refine And.intro ?_ ?_))
/-- One row of its own, told by a part, and a slice. -/
theorem slown {H : HL} {k : Nat} {b : Bool} {T : TypeId} {n m s2 n2 : Nat} {v2 : TV} {xs xs2 : List Value} (hk : lookH H k = some (b, .own T 1 n xs)) (hb : SlR H v2 n2 s2 xs2) :
    ∀ e w, MemOk H e w → ∃ e', Mem (fun _ => False) [(0, some (false, .own T 1 n xs)), (1, some (false, .rd s2 n2 xs2))] e' w ∧ (CV.sub k 0 0 m).den e = (CV.sub 0 0 0 m).den e' ∧ v2.den e = (TV.c (.nm 1)).den e' := by
  intro e w M
  obtain ⟨A2, c2, b1, b2, b3⟩ := hb e w M
  obtain ⟨⟨hown, hfp⟩, hlt⟩ := M.ob k b _ hk
  refine ⟨⟨e.blk, fun q => if q = 0 then e.val k else .slice A2 n2 c2, fun q g => if q = 0 then e.fp k g else ∃ a, A2 = some a ∧ 0 < xs2.length ∧ g = a.block, fun q => by
      show (if q = 0 then e.val k else .slice A2 n2 c2).oneCell' = true
      split
      · exact e.one k
      · rfl⟩, ⟨fun q b' o h => ?_, fun q o m' c q' h => ?_⟩, rfl, b1⟩
  · rw [lookH_cons] at h
    split at h
    · rename_i hn
      cases h
      subst hn
      exact ⟨⟨hown, hfp⟩, fun g hg => ⟨hlt g hg, fun h => by cases h⟩⟩
    · rw [lookH_cons] at h
      split at h
      · rename_i hn
        cases h
        subst hn
        exact ⟨⟨A2, c2, rfl, b2, fun a ha h0 => ⟨a, ha, h0, rfl⟩⟩, fun g ⟨a, ha, h0, hg⟩ => ⟨hg ▸ b3 a ha h0, fun h => by cases h⟩⟩
      · cases h
  · rw [lookH_cons] at h
    split at h
    · cases h
    · rw [lookH_cons] at h
      split at h
      · cases h
      · cases h
end Cw
namespace Cw
open Go Vc
open Go.Proofs
set_option maxRecDepth 100000
theorem mem_take_succ {l : List Int} {x : Int} {k : Nat} (hk : k < l.length) (h1 : x ∉ l.take k) (h2 : l[k] ≠ x) : x ∉ l.take (k + 1) := by
  rw [List.take_succ_eq_append_getElem hk]
  simp only [List.mem_append, List.mem_singleton, not_or]
  exact ⟨h1, fun e => h2 e.symm⟩
def ix (x : Int) : List Int → Nat
  | [] => 0
  | y :: l => if y = x then 0 else ix x l + 1
theorem ix_at {x : Int} : ∀ {l : List Int} {k : Nat}, x ∉ l.take k → l[k]? = some x → ix x l = k
  | [], k, _, h => by simp at h
  | y :: l, 0, _, h => by
    have : y = x := by simpa using h
    simp [ix, this]
  | y :: l, k + 1, h1, h2 => by
    have h3 : x ≠ y ∧ x ∉ l.take k := by simpa [List.take_succ_cons] using h1
    have h4 : y ≠ x := fun e => h3.1 e.symm
    rw [ix, if_neg h4, ix_at h3.2 (by simpa using h2)]
def ixI (x : Int) (l : List Int) : Int := if x ∈ l then (ix x l : Nat) else -1
theorem index_h {v : TV} {l : List Int} {x : Int} {H : HL} {nx : Nat} (hs : SlR H v l.length 1 (ivs l)) (z : l.length ≤ 100000000000000) :
    FnH Tryz.prog 120 [v, .c (iT x)] H nx ⟨.t (.c (iT (ixI x l))), [], [], []⟩ := by
  refine fnR (fn := Tryz.f120) 19 rfl rfl rfl (args' := [.c (.nm 0), .c (iT x)]) (H' := [(0, some (false, .rd 1 l.length (ivs l)))]) (nx' := 1) (fun e w M => ?_) rfl rfl rfl rfl fun w => ?_
  · obtain ⟨e', M', q1⟩ := slr1 hs e w M
    exact ⟨e', M', by simp [q1]; rfl⟩
  refine rn [] rfl (by repeat' (first | exact trivial | exact rfl | refine And.intro ?_ ?_)) ?_
  refine At.loop (X := (k : Nat) ×' (k ≤ l.length ∧ x ∉ l.take k)) 1 (fun k => l.length - k.1)
    (fun k => [(0, .t (.c (.nm 0))), (1, .t (.c (iT x))), (7, .t (.c (iT (l.length : Nat)))), (8, .t (.c (iT (k.1 : Nat))))])
    (fun _ => [(0, some (false, .rd 1 l.length (ivs l)))]) ⟨0, by omega, by simp⟩ [] (fun k => wf rfl rfl) (by repeat' (first | exact trivial | exact rfl | refine And.intro ?_ ?_)) (by repeat' (first | exact trivial | exact rfl | refine And.intro ?_ ?_)) rfl fun k => ?_
  obtain ⟨k, hk1, hk2⟩ := k
  have w2 : IntKind.i64.wrap ((k : Int) + 1) = ((k + 1 : Nat) : Int) := by rw [wrap_sm (by omega) (by omega)]; omega
  refine rn [] rfl (by repeat' (first | exact trivial | exact rfl | refine And.intro ?_ ?_)) ?_
  refine ⟨fun h => ?_, fun h => ?_⟩
  · have hlt : k < l.length := by have : (k : Int) < (l.length : Int) := of_decide_eq_true h; omega
    have e1 : (ivs l)[(k : Int).toNat * 1]? = some (.int .i64 l[k]) := by simpa using ivs_at hlt
    have b0 : (0 : Int) ≤ (k : Int) := by omega
    have b1 : (k : Int) < (l.length : Int) := by omega
    refine rn [(15, .ld [iT l[k]])] rfl (by (repeat' (first | exact trivial | exact rfl | exact e1 | exact fun _ => e1 | first | exact b0 | exact b1 | decide | refine And.intro ?_ ?_))) ?_
    refine ⟨fun h => ?_, fun h => ?_⟩
    · have he : x = l[k] := by simpa using h
      have hin : x ∈ l := he ▸ List.getElem_mem hlt
      have hi : ixI x l = (k : Int) := by rw [ixI, if_pos hin, ix_at hk2 (by rw [List.getElem?_eq_getElem hlt, he])]
      refine rn [] rfl (by repeat' (first | exact trivial | exact rfl | refine And.intro ?_ ?_)) (roundRet ?_)
      rw [hi]
      exact ret0 tysOk rfl (by repeat' (first | exact trivial | exact rfl | refine And.intro ?_ ?_)) rfl
    · have hne : l[k] ≠ x := by
        have : ¬ x = l[k] := by simpa using h
        exact fun e => this e.symm
      refine rn [] rfl (by repeat' (first | exact trivial | exact rfl | refine And.intro ?_ ?_)) ?_
      exact roundEnd ⟨k + 1, by omega, mem_take_succ hlt hk2 hne⟩ [] (by show l.length - (k + 1) < l.length - k; omega) (by (repeat' (first | exact trivial | exact rfl | exact w2 | exact fun _ => w2 | refine And.intro ?_ ?_))) (by repeat' (first | exact trivial | exact rfl | refine And.intro ?_ ?_)) rfl
  · have hlt : k = l.length := by have : ¬ (k : Int) < (l.length : Int) := of_decide_eq_false h; omega
    rw [hlt, List.take_length] at hk2
    refine rn [] rfl (by repeat' (first | exact trivial | exact rfl | refine And.intro ?_ ?_)) (roundExit rfl ?_)
    refine rnA [] rfl (by repeat' (first | exact trivial | exact rfl | refine And.intro ?_ ?_)) ?_
    rw [ixI, if_neg hk2]
    exact ret0 tysOk rfl (by repeat' (first | exact trivial | exact rfl | refine And.intro ?_ ?_)) rfl
theorem contains_h {v : TV} {l : List Int} {x : Int} {H : HL} {nx : Nat} (hs : SlR H v l.length 1 (ivs l)) (z : l.length ≤ 100000000000000) :
    FnH Tryz.prog 76 [v, .c (iT x)] H nx ⟨.t (.c (.b (decide (x ∈ l)))), [], [], []⟩ := by
  refine fnR (fn := Tryz.f76) 9 rfl rfl rfl (args' := [.c (.nm 0), .c (iT x)]) (H' := [(0, some (false, .rd 1 l.length (ivs l)))]) (nx' := 1) (fun e w M => ?_) rfl rfl rfl rfl fun w => ?_
  · obtain ⟨e', M', q1⟩ := slr1 hs e w M
    exact ⟨e', M', by simp [q1]; rfl⟩
  have hd : decide (x ∈ l) = decide (ixI x l ≥ 0) := by
    by_cases h : x ∈ l
    · rw [ixI, if_pos h, decide_eq_true h]; exact (decide_eq_true (by omega)).symm
    · rw [ixI, if_neg h, decide_eq_false h]; exact (decide_eq_false (by omega)).symm
  rw [hd]
  refine rn [(7, .spec ⟨.t (.c (iT (ixI x l))), [], [], []⟩)] rfl (by (repeat' (first | exact trivial | exact rfl | exact index_h (SlR.rd rfl) z | exact fun _ => index_h (SlR.rd rfl) z | refine And.intro ?_ ?_))) ?_
  exact ret0 tysOk rfl (by repeat' (first | exact trivial | exact rfl | refine And.intro ?_ ?_)) rfl
end Cw
namespace Cw
open Go Vc
open Go.Proofs
set_option maxRecDepth 100000
theorem spoil_set {ys : List Int} {k : Nat} (h : k < ys.length) : Vc.setAt (ivs ys) (k * 1) [Value.int .i64 (-99)] = ivs (ys.set k (-99)) := by
  apply List.ext_getElem?
  intro i
  simp only [Vc.setAt, ivs]
  by_cases h1 : i < k
  · rw [List.append_assoc, List.getElem?_append_left (by simp; omega)]
    simp [List.getElem?_take, h1, List.getElem?_set, show k ≠ i by omega]
  · by_cases h2 : i = k
    · subst h2
      rw [List.append_assoc, List.getElem?_append_right (by simp; omega)]
      simp [h, show min i ys.length = i by omega]
    · rw [List.getElem?_append_right (by simp; omega)]
      simp only [List.length_append, List.length_take, List.length_map, List.length_singleton, List.getElem?_drop]
      rw [show min (k * 1) ys.length = k by omega, show k * 1 + 1 + (i - (k + 1)) = i by omega]
      simp [List.getElem?_set, show k ≠ i by omega]
end Cw
namespace Cw
open Go Vc
open Go.Proofs
set_option maxRecDepth 100000
def uq (l : List Int) : List Int := cpt (srt l)
def bnd (held u : List Int) : List Int := u.takeWhile fun r => decide (r ∈ held)
def mis (held u : List Int) : Int := (u.dropWhile fun r => decide (r ∈ held)).headD (-1)
theorem tw_at {p : Int → Bool} : ∀ {u : List Int} {k : Nat}, (u.take k).all p = true → ∀ (h : k < u.length), p u[k] = false → u.takeWhile p = u.take k ∧ u.dropWhile p = u.drop k
  | y :: u, 0, _, _, h2 => by
    have : p y = false := by simpa using h2
    simp [this]
  | y :: u, k + 1, h1, h, h2 => by
    have h3 : p y = true ∧ (u.take k).all p = true := by simpa [List.take_succ_cons] using h1
    have := tw_at h3.2 (by simpa using h) (by simpa using h2)
    simp [h3.1, this.1, this.2]
theorem tw_all {p : Int → Bool} : ∀ {u : List Int}, u.all p = true → u.takeWhile p = u ∧ u.dropWhile p = []
  | [], _ => ⟨rfl, rfl⟩
  | y :: u, h => by
    have h3 : p y = true ∧ u.all p = true := by simpa using h
    have := tw_all h3.2
    simp [h3.1, this.1, this.2]
end Cw
namespace Cw
open Go Vc
open Go.Proofs
set_option maxRecDepth 100000
theorem uq_le (l : List Int) : (uq l).length ≤ l.length := Nat.le_trans (cpt_le _) (Nat.le_of_eq (srt_length l))
theorem bnd_all {held u : List Int} (h : u.all (fun r => decide (r ∈ held)) = true) : bnd held u = u ∧ mis held u = -1 := by
  obtain ⟨h1, h2⟩ := tw_all h
  exact ⟨h1, by unfold mis; rw [h2]; rfl⟩
theorem bnd_at {held u : List Int} {k : Nat} (h1 : (u.take k).all (fun r => decide (r ∈ held)) = true) (hk : k < u.length) (h2 : u[k] ∉ held) : bnd held u = u.take k ∧ mis held u = u[k] := by
  obtain ⟨a, b⟩ := tw_at h1 hk (by simp [h2])
  refine ⟨a, ?_⟩
  unfold mis
  rw [b, List.drop_eq_getElem_cons hk]
  rfl
theorem all_succ {p : Int → Bool} {u : List Int} {k : Nat} (hk : k < u.length) (h : (u.take k).all p = true) (h2 : p u[k] = true) : (u.take (k + 1)).all p = true := by
  rw [List.take_succ_eq_append_getElem hk, List.all_append, h]
  simp [h2]
set_option maxRecDepth 100000 in
set_option maxHeartbeats 1000000 in
theorem wanted_h {v1 v2 : TV} {want held : List Int} {H : HL} {nx : Nat} (h1 : SlR H v1 want.length 1 (ivs want)) (h2 : SlR H v2 held.length 1 (ivs held)) (z1 : want.length ≤ 17592186043904) (z2 : held.length ≤ 100000000000000) :
    FnH Tryz.prog 23 [v1, v2] H nx ⟨.tup [.c (.nm nx), .c (iT (mis held (uq want)))], [(true, .own 3 1 (bnd held (uq want)).length (ivs (bnd held (uq want))))], [], []⟩ := by
  refine fnN (fn := Tryz.f23) 32 rfl rfl rfl (args' := [.c (.nm 0), .c (.nm 1)]) (H' := [(0, some (false, .rd 1 want.length (ivs want))), (1, some (false, .rd 1 held.length (ivs held)))]) (nx' := 2) (fun e w M => ?_) rfl rfl rfl (inR_one nx) rfl fun w => ?_
  · obtain ⟨e', M', q1, q2⟩ := slr2 h1 h2 e w M
    exact ⟨e', M', by simp [q1, q2]⟩
  have hu := uq_le want
  have hul := uq_le want
  have c1 := clone_h (v := .c (.nm 0)) (zs := want) (H := [(0, some (false, .rd 1 want.length (ivs want))), (1, some (false, .rd 1 held.length (ivs held)))]) (nx := 2) (SlR.rd rfl) (by omega)
  have c2 := sort_h (k := 2) (zs := want) (H := (2, some (true, .own 3 1 want.length (ivs want))) :: [(0, some (false, .rd 1 want.length (ivs want))), (1, some (false, .rd 1 held.length (ivs held)))]) (nx := 3) (by omega) rfl
  have c3 := compact_h (k := 2) (zs := srt want) (H := (2, some (true, .own 3 1 (srt want).length (ivs (srt want)))) :: (2, some (true, .own 3 1 want.length (ivs want))) :: [(0, some (false, .rd 1 want.length (ivs want))), (1, some (false, .rd 1 held.length (ivs held)))]) (nx := 3) rfl
  rw [srt_length] at c3
  refine rn [(10, .spec ⟨.t (.c (.nm 2)), [(true, .own 3 1 want.length (ivs want))], [], []⟩), (12, .spec ⟨.tup [], [], [(2, some (.own 3 1 want.length (ivs (srt want))))], []⟩), (14, .spec ⟨.t (.c (.sub 2 0 0 (uq want).length)), [], [(2, some (.own 3 1 want.length (ivs (uq want ++ List.replicate (want.length - (uq want).length) 0))))], []⟩)] rfl ?_ ?_
  · repeat' (first | exact trivial | exact rfl | refine And.intro ?_ ?_)
    all_goals first | exact c1 | exact c2 | exact c3
  clear c1 c2 c3
  refine At.nil 4 3 1 rfl ?_
  generalize uq want = u at *
  refine At.loop (X := (k : Nat) ×' (k ≤ u.length ∧ (u.take k).all (fun r => decide (r ∈ held)) = true)) 4 (fun k => u.length - k.1)
    (fun k => [(1, .t (.c (.nm 1))), (4, .t (.c (.nm 3))), (5, .t (.c (iT (-1)))), (14, .t (.c (.sub 2 0 0 u.length))), (15, .t (.c (iT (u.length : Nat)))), (16, .t (.c (iT (k.1 : Nat))))])
    (fun k => [(1, some (false, .rd 1 held.length (ivs held))), (2, some (true, .own 3 1 want.length (ivs (u ++ List.replicate (want.length - u.length) 0)))), (3, some (true, .own 3 1 k.1 (ivs (u.take k.1))))]) ⟨0, by omega, rfl⟩ [] (fun k => wf rfl rfl) (by repeat' (first | exact trivial | exact rfl | refine And.intro ?_ ?_)) (by repeat' (first | exact trivial | exact rfl | refine And.intro ?_ ?_)) rfl fun k => ?_
  obtain ⟨k, hk1, hk2⟩ := k
  have w2 : IntKind.i64.wrap ((k : Int) + 1) = ((k + 1 : Nat) : Int) := by rw [wrap_sm (by omega) (by omega)]; omega
  refine rn [] rfl (by repeat' (first | exact trivial | exact rfl | refine And.intro ?_ ?_)) ?_
  refine ⟨fun h => ?_, fun h => ?_⟩
  · have hlt : k < u.length := by have : (k : Int) < (u.length : Int) := of_decide_eq_true h; omega
    have e1 : (ivs (u ++ List.replicate (want.length - u.length) 0))[0 + (k : Int).toNat * 1]? = some (.int .i64 u[k]) := by
      have := ivs_at (l := u ++ List.replicate (want.length - u.length) 0) (k := k) (by simp; omega)
      rw [List.getElem_append_left hlt] at this
      simpa using this
    have b0 : (0 : Int) ≤ (k : Int) := by omega
    have b1 : (k : Int) < (u.length : Int) := by omega
    refine rn [(19, .ld [iT u[k]]), (22, .spec ⟨.t (.c (.b (decide (u[k] ∈ held)))), [], [], []⟩)] rfl ?_ ?_
    · (repeat' (first | exact trivial | exact rfl | exact e1 | exact fun _ => e1 | first | exact b0 | exact b1 | decide | exact contains_h (SlR.rd rfl) (by omega) | omega | refine And.intro ?_ ?_))
    refine ⟨fun h => ?_, fun h => ?_⟩
    · have hn : u[k] ∉ held := by simpa using h
      obtain ⟨p1, p2⟩ := bnd_at hk2 hlt hn
      refine rn [] rfl (by repeat' (first | exact trivial | exact rfl | refine And.intro ?_ ?_)) (roundExit rfl ?_)
      rw [p1, p2]
      refine rnA [] rfl (by repeat' (first | exact trivial | exact rfl | refine And.intro ?_ ?_)) ?_
      exact retN tysOk [(nx, 3)] rfl (by simp only [retS, SV.eqs, eqsT, TV.eqs, CV.eqs, ren_one]; repeat' (first | exact trivial | exact rfl | refine And.intro ?_ ?_)) (by simp only [newsH, subH, ren_one]; (repeat' (first | exact trivial | exact rfl | exact trivial | exact fun _ => trivial | first | omega | (simp; omega) | refine And.intro ?_ ?_))) (by simp [injK, keysH, newsH, inL]) rfl
    · have hi : u[k] ∈ held := by simpa using h
      have hm : k + 1 ≤ maxLen := by simp [maxLen]; omega
      have hm2 : (k + 1) * 8 ≤ 140737488355328 := by omega
      refine rn [] rfl (by (repeat' (first | exact trivial | exact rfl | exact trivial | exact fun _ => trivial | first | exact hm | exact hm2 | refine And.intro ?_ ?_))) ?_
      refine roundEnd ⟨k + 1, by omega, all_succ hlt hk2 (decide_eq_true hi)⟩ [(3, 5)] (by show u.length - (k + 1) < u.length - k; omega) (by (repeat' (first | exact trivial | exact rfl | exact w2 | exact fun _ => w2 | refine And.intro ?_ ?_))) ?_ rfl
      repeat' (first | exact trivial | exact rfl | refine And.intro ?_ ?_)
      rw [List.take_succ_eq_append_getElem hlt, ivs_append, app_eq]
      rfl
  · have hlt : k = u.length := by have : ¬ (k : Int) < (u.length : Int) := of_decide_eq_false h; omega
    subst hlt
    rw [List.take_length] at hk2
    obtain ⟨p1, p2⟩ := bnd_all hk2
    refine rn [] rfl (by repeat' (first | exact trivial | exact rfl | refine And.intro ?_ ?_)) (roundExit rfl ?_)
    rw [p1, p2]
    refine rnA [] rfl (by repeat' (first | exact trivial | exact rfl | refine And.intro ?_ ?_)) ?_
    exact retN tysOk [(nx, 3)] rfl (by simp only [retS, SV.eqs, eqsT, TV.eqs, CV.eqs, ren_one]; repeat' (first | exact trivial | exact rfl | refine And.intro ?_ ?_)) (by simp only [newsH, subH, ren_one]; (repeat' (first | exact trivial | exact rfl | exact trivial | exact fun _ => trivial | first | omega | (simp; omega) | simp | refine And.intro ?_ ?_))) (by simp [injK, keysH, newsH, inL]) rfl
end Cw
namespace Cw
open Go
set_option maxRecDepth 100000
theorem srt_pw (l : List Int) : (srt l).Pairwise (· ≤ ·) := by
  have := List.pairwise_mergeSort (le := fun x y : Int => decide (x ≤ y)) (fun a b c h1 h2 => by simp at *; omega) (fun a b => by simp; omega) l
  exact this.imp fun h => by simpa using h
theorem mem_srt {l : List Int} {x : Int} : x ∈ srt l ↔ x ∈ l := List.mem_mergeSort
theorem pw_le {l : List Int} (h : l.Pairwise (· ≤ ·)) {i j : Nat} (hij : i ≤ j) (hj : j < l.length) : l[i] ≤ l[j] := by
  rcases Nat.lt_or_ge i j with h1 | h1
  · exact List.pairwise_iff_getElem.1 h i j (by omega) hj h1
  · have : i = j := by omega
    subst this
    exact Int.le_refl _
theorem at_bang {l : List Int} {j : Nat} (h : j < l.length) : l.toArray[j]! = l[j] := by simp [h]
theorem cpt_pw {l : List Int} (h : l.Pairwise (· ≤ ·)) : (cpt l).Pairwise (· < ·) := by
  unfold cpt Lib.compact Lib.compactUpTo
  rw [List.pairwise_map]
  have h0 : ((List.range l.length).filter (Lib.keeps l.toArray)).Pairwise fun i j => i < j := List.Pairwise.filter _ List.pairwise_lt_range
  refine List.Pairwise.imp_of_mem ?_ h0
  intro i j hi hj hij
  have hi' := List.mem_filter.1 hi
  have hj' := List.mem_filter.1 hj
  have hil := List.mem_range.1 hi'.1
  have hjl := List.mem_range.1 hj'.1
  rw [at_bang hil, at_bang hjl]
  have hk := hj'.2
  have h1 := pw_le h (show i ≤ j - 1 by omega) (by omega)
  have h2 := pw_le h (show j - 1 ≤ j by omega) hjl
  have h3 : l[j - 1] ≠ l[j] := by
    have hk' : Lib.keeps l.toArray j = true := hk
    unfold Lib.keeps at hk'
    rw [at_bang hjl, at_bang (show j - 1 < l.length by omega)] at hk'
    intro e
    have : j ≠ 0 := by omega
    simp [this, e] at hk'
  omega
theorem first_at {l : List Int} {x : Int} : ∀ {j : Nat} (hj : j < l.length), l[j] = x → ∃ i, ∃ h : i < l.length, l[i] = x ∧ ∀ k (hk : k < i), l[k] ≠ x := by
  intro j
  induction j using Nat.strongRecOn with
  | _ j ih =>
    intro hj hx
    by_cases h : ∃ k, ∃ hk : k < j, l[k] = x
    · obtain ⟨k, hk, he⟩ := h
      exact ih k hk (by omega) he
    · exact ⟨j, hj, hx, fun k hk he => h ⟨k, hk, he⟩⟩
theorem mem_cpt {l : List Int} {x : Int} : x ∈ cpt l ↔ x ∈ l := by
  unfold cpt Lib.compact Lib.compactUpTo
  constructor
  · intro h
    obtain ⟨j, hj, rfl⟩ := List.mem_map.1 h
    have hjl := List.mem_range.1 (List.mem_filter.1 hj).1
    rw [at_bang hjl]
    exact List.getElem_mem hjl
  · intro h
    obtain ⟨j, hj, hx⟩ := List.mem_iff_getElem.1 h
    obtain ⟨i, hi, hx, hf⟩ := first_at hj hx
    refine List.mem_map.2 ⟨i, List.mem_filter.2 ⟨List.mem_range.2 hi, ?_⟩, by rw [at_bang hi, hx]⟩
    unfold Lib.keeps
    rcases Nat.eq_zero_or_pos i with h0 | h0
    · subst h0; simp
    · rw [at_bang hi, at_bang (show i - 1 < l.length by omega)]
      have := hf (i - 1) (by omega)
      simp
      right
      rw [hx]
      first | exact this | exact fun e => this e.symm
theorem uq_pw (l : List Int) : (uq l).Pairwise (· < ·) := cpt_pw (srt_pw l)
theorem mem_uq {l : List Int} {x : Int} : x ∈ uq l ↔ x ∈ l := mem_cpt.trans mem_srt
theorem pw_ext : ∀ {a b : List Int}, a.Pairwise (· < ·) → b.Pairwise (· < ·) → (∀ x, x ∈ a ↔ x ∈ b) → a = b
  | [], [], _, _, _ => rfl
  | [], y :: b, _, _, h => absurd ((h y).2 (by simp)) (by simp)
  | x :: a, [], _, _, h => absurd ((h x).1 (by simp)) (by simp)
  | x :: a, y :: b, ha, hb, h => by
    obtain ⟨ha1, ha2⟩ := List.pairwise_cons.1 ha
    obtain ⟨hb1, hb2⟩ := List.pairwise_cons.1 hb
    have hx := (h x).1 (by simp)
    have hy := (h y).2 (by simp)
    have e : x = y := by
      rcases List.mem_cons.1 hx with e | h1
      · exact e
      · rcases List.mem_cons.1 hy with e | h2
        · exact e.symm
        · have := hb1 x h1
          have := ha1 y h2
          omega
    subst e
    rw [pw_ext ha2 hb2 fun z => ?_]
    constructor
    · intro hz
      have hlt := ha1 z hz
      rcases List.mem_cons.1 ((h z).1 (List.mem_cons_of_mem _ hz)) with e | h1
      · omega
      · exact h1
    · intro hz
      have hlt := hb1 z hz
      rcases List.mem_cons.1 ((h z).2 (List.mem_cons_of_mem _ hz)) with e | h1
      · omega
      · exact h1
/-- A number laid into a rising list. -/
theorem ins_pw {all : List Int} {x : Int} {k : Nat} (h : all.Pairwise (· < ·)) (h1 : ∀ y ∈ all.take k, y < x) (h2 : ∀ hk : k < all.length, ¬ all[k] < x) (h3 : all[k]? ≠ some x) : (all.take k ++ x :: all.drop k).Pairwise (· < ·) := by
  have hs : ∀ y ∈ all.drop k, x < y := by
    intro y hy
    obtain ⟨j, hj, rfl⟩ := List.mem_iff_getElem.1 hy
    rw [List.length_drop] at hj
    have hk : k < all.length := by omega
    have a1 := h2 hk
    have a2 : all[k] ≠ x := fun e => h3 (by rw [List.getElem?_eq_getElem hk, e])
    rw [List.getElem_drop]
    rcases Nat.eq_zero_or_pos j with e | e
    · subst e; simp only [Nat.add_zero]; omega
    · have := List.pairwise_iff_getElem.1 h k (k + j) hk (by omega) (by omega)
      omega
  rw [List.pairwise_append]
  refine ⟨h.sublist (List.take_sublist _ _), List.pairwise_cons.2 ⟨hs, h.sublist (List.drop_sublist _ _)⟩, fun a ha b hb => ?_⟩
  have := h1 a ha
  rcases List.mem_cons.1 hb with e | hb
  · omega
  · have := hs b hb
    omega
theorem mem_ins {all : List Int} {x y : Int} {k : Nat} : y ∈ all.take k ++ x :: all.drop k ↔ y ∈ all ∨ y = x := by
  have : y ∈ all ↔ y ∈ all.take k ∨ y ∈ all.drop k := by
    rw [← List.mem_append, List.take_append_drop]
  rw [List.mem_append, List.mem_cons, this]
  constructor
  · rintro (h | h | h) <;> simp [h]
  · rintro ((h | h) | h) <;> simp [h]
theorem mem_take1 {l : List Int} {i : Nat} (h : i < l.length) {y : Int} : y ∈ l.take (i + 1) ↔ y ∈ l.take i ∨ y = l[i] := by
  rw [List.take_succ_eq_append_getElem h, List.mem_append, List.mem_singleton]
end Cw
namespace Cw
open Go Vc
open Go.Proofs
set_option maxRecDepth 100000
/-- A row of one's own is the part of itself that is all of it. -/
theorem own_nm_sub {e : Env} {w : World} {k n s : Nat} {T : TypeId} {xs : List Value} (h : (Ob.own T s n xs).holds e k w) : (CV.nm k).den e = (CV.sub k 0 0 n).den e := by
  rcases h.1.2 with ⟨hv, hz⟩ | ⟨g, cap, cur, hv, _, hb, hn, hcm, hs, ht⟩
  · subst hz; simp [CV.den, hv]
  · simp only [CV.den, hv]
    split <;> simp_all [lit_add]
theorem done_nm_sub {P : Program} {w0 : World} {F : Frm} {fn : Func} {L : LL} {H : HL} {nx nx1 n s : Nat} {b : Bool} {T : TypeId} {x : TV} {xs : List Value} (h : Done F (bodyPost P fn (NewPost w0 nx1 (.tup [.c (.nm nx1), x]) [(b, .own T s n xs)]) .ret) L H nx) :
    Done F (bodyPost P fn (NewPost w0 nx1 (.tup [.c (.sub nx1 0 0 n), x]) [(b, .own T s n xs)]) .ret) L H nx := by
  refine ⟨fun hW e a w S => ?_⟩
  obtain ⟨h1, v, h2, e', h3, h4, h5, h6⟩ := h.h hW e a w S
  refine ⟨h1, v, h2, e', ?_, h4, h5, h6⟩
  rw [h3]
  simp only [SV.den, TV.den, List.map_cons, List.map_nil]
  rw [show (CV.nm nx1).den e' = (CV.sub nx1 0 0 n).den e' from own_nm_sub (h5 0 b _ rfl).1]
theorem cond1 {a b : Nat} {n : Nat} (h : condB [(n, true, decide ((a : Int) < (b : Int)))] = true) : a < b := by
  have : (a : Int) < (b : Int) := by simpa [condB] using h
  omega
end Cw
namespace Cw
open Go Vc
open Go.Proofs
set_option maxRecDepth 100000
theorem sameInts_eq {v1 v2 : TV} {l : List Int} {H : HL} {nx : Nat} (h1 : SlR H v1 l.length 1 (ivs l)) (h2 : SlR H v2 l.length 1 (ivs l)) (z : l.length ≤ 100000000000000) : FnH Tryz.prog 24 [v1, v2] H nx ⟨.t (.c (.b true)), [], [], []⟩ := by
  have := sameInts_h (nx := nx) h1 h2 z
  rwa [decide_eq_true rfl] at this
theorem lworks_h {H : HL} {nx : Nat} : FnH Tryz.prog 5 [] H nx ⟨.t (.c (.b true)), [], [], []⟩ := by
  refine fnR (fn := Tryz.f5) 16 rfl rfl rfl (args' := []) (H' := []) (nx' := 0) (fun e w M => ⟨e, ⟨fun n b o h => (by cases h), fun n o m c q h => (by cases h)⟩, rfl⟩) rfl rfl rfl rfl fun w => ?_
  have hu : uq [5, 2, 3] = [2, 3, 5] := pw_ext (uq_pw _) (by decide) fun x => by rw [mem_uq]; simp; omega
  have c1 := wanted_h (v1 := .c (.nm 0)) (v2 := .c (.nm 1)) (want := [5, 2, 3]) (held := [3, 2]) (H := [(1, some (true, .own 3 1 2 (ivs [3, 2]))), (0, some (true, .own 3 1 3 (ivs [5, 2, 3])))]) (nx := 2) (SlR.own rfl) (SlR.own rfl) (by decide) (by decide)
  rw [hu, show bnd [3, 2] [2, 3, 5] = [2, 3] from by decide, show mis [3, 2] [2, 3, 5] = 5 from by decide] at c1
  have c2 := sameInts_h (v1 := .c (.nm 2)) (v2 := .c (.nm 3)) (l1 := [2, 3]) (l2 := [2, 3]) (H := [(3, some (true, .own 3 1 2 (ivs [2, 3]))), (2, some (true, .own 3 1 2 (ivs [2, 3]))), (1, some (true, .own 3 1 2 (ivs [3, 2]))), (0, some (true, .own 3 1 3 (ivs [5, 2, 3])))]) (nx := 4) (SlR.own rfl) (SlR.own rfl) (by decide)
  rw [decide_eq_true rfl] at c2
  refine rn [(4, .dec true), (5, .dec true), (6, .spec ⟨.tup [.c (.nm 2), .c (iT 5)], [(true, .own 3 1 2 (ivs [2, 3]))], [], []⟩), (10, .dec true), (11, .spec ⟨.t (.c (.b true)), [], [], []⟩)] rfl ?_ ?_
  · (repeat' (first | exact trivial | exact rfl | exact c1 | exact fun _ => c1 | first | exact c2 | decide | refine And.intro ?_ ?_))
  · exact ret0 tysOk rfl (by repeat' (first | exact trivial | exact rfl | refine And.intro ?_ ?_)) rfl
end Cw
