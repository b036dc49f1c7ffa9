/- Slices of integers lent, kept and spoilt; whether a number is among some. -/
import Derived.Test.YtjnbdhgkoolhnaaGreatBook
import Derived.Test.YtjnbdhgkoolhnaaGreatDepR
import Derived.Test.YtjnbdhgkoolhnaaGreatSrtH
import Derived.Test.YtjnbdhgkoolhnaaGreatSoft
import Derived.Test.YtjnbdhgkoolhnaaGreatLrf
namespace Cw
open Go Vc
open Go.Proofs
set_option maxRecDepth 100000
theorem ivs_append (a b : List Int) : ivs (a ++ b) = ivs a ++ ivs b := by simp [ivs]
end Cw
namespace Cw
open Go Vc
open Go.Proofs
set_option maxRecDepth 100000
end Cw
namespace Cw
open Go Vc
open Go.Proofs
set_option maxRecDepth 100000
end Cw
namespace Cw
open Go Vc
open Go.Proofs
set_option maxRecDepth 100000
def uq (l : List Int) : List Int := cpt (srt l)
def bnd (held u : List Int) : List Int := u.takeWhile fun r => decide (r ∈ held)
def mis (held u : List Int) : Int := (u.dropWhile fun r => decide (r ∈ held)).headD (-1)
theorem tw_at {p : Int → Bool} : ∀ {u : List Int} {k : Nat}, (u.take k).all p = true → ∀ (h : k < u.length), p u[k] = false → u.takeWhile p = u.take k ∧ u.dropWhile p = u.drop k
  | y :: u, 0, _, _, h2 => by
    have : p y = false := by simpa using h2
    simp [this]
  | y :: u, k + 1, h1, h, h2 => by
    have h3 : p y = true ∧ (u.take k).all p = true := by simpa [List.take_succ_cons] using h1
    have := tw_at h3.2 (by simpa using h) (by simpa using h2)
    simp [h3.1, this.1, this.2]
theorem tw_all {p : Int → Bool} : ∀ {u : List Int}, u.all p = true → u.takeWhile p = u ∧ u.dropWhile p = []
  | [], _ => ⟨rfl, rfl⟩
  | y :: u, h => by
    have h3 : p y = true ∧ u.all p = true := by simpa using h
    have := tw_all h3.2
    simp [h3.1, this.1, this.2]
end Cw
namespace Cw
open Go Vc
open Go.Proofs
set_option maxRecDepth 100000
theorem uq_le (l : List Int) : (uq l).length ≤ l.length := Nat.le_trans (cpt_le _) (Nat.le_of_eq (srt_length l))
theorem bnd_all {held u : List Int} (h : u.all (fun r => decide (r ∈ held)) = true) : bnd held u = u ∧ mis held u = -1 := by
  obtain ⟨h1, h2⟩ := tw_all h
  exact ⟨h1, by unfold mis; rw [h2]; rfl⟩
theorem bnd_at {held u : List Int} {k : Nat} (h1 : (u.take k).all (fun r => decide (r ∈ held)) = true) (hk : k < u.length) (h2 : u[k] ∉ held) : bnd held u = u.take k ∧ mis held u = u[k] := by
  obtain ⟨a, b⟩ := tw_at h1 hk (by simp [h2])
  refine ⟨a, ?_⟩
  unfold mis
  rw [b, List.drop_eq_getElem_cons hk]
  rfl
theorem all_succ {p : Int → Bool} {u : List Int} {k : Nat} (hk : k < u.length) (h : (u.take k).all p = true) (h2 : p u[k] = true) : (u.take (k + 1)).all p = true := by
  rw [List.take_succ_eq_append_getElem hk, List.all_append, h]
  simp [h2]
set_option maxRecDepth 100000 in
set_option maxHeartbeats 1000000 in
theorem wanted_h {v1 v2 : TV} {want held : List Int} {H : HL} {nx : Nat} (h1 : SlR H v1 want.length 1 (ivs want)) (h2 : SlR H v2 held.length 1 (ivs held)) (z1 : want.length ≤ 17592186043904) (z2 : held.length ≤ 100000000000000) :
    FnH Tryz.prog 23 [v1, v2] H nx ⟨.tup [.c (.nm nx), .c (iT (mis held (uq want)))], [(true, .own 3 1 (bnd held (uq want)).length (ivs (bnd held (uq want))))], [], []⟩ := by
  refine fnN (fn := Tryz.f23) 32 rfl rfl rfl (args' := [.c (.nm 0), .c (.nm 1)]) (H' := [(0, some (false, .rd 1 want.length (ivs want))), (1, some (false, .rd 1 held.length (ivs held)))]) (nx' := 2) (fun e w M => ?_) rfl rfl rfl (inR_one nx) rfl fun w => ?_
  · obtain ⟨e', M', q1, q2⟩ := slr2 h1 h2 e w M
    exact ⟨e', M', by simp [q1, q2]⟩
  have hu := uq_le want
  have hul := uq_le want
  have c1 := clone_h (v := .c (.nm 0)) (zs := want) (H := [(0, some (false, .rd 1 want.length (ivs want))), (1, some (false, .rd 1 held.length (ivs held)))]) (nx := 2) (SlR.rd rfl) (by omega)
  have c2 := sort_h (k := 2) (zs := want) (H := (2, some (true, .own 3 1 want.length (ivs want))) :: [(0, some (false, .rd 1 want.length (ivs want))), (1, some (false, .rd 1 held.length (ivs held)))]) (nx := 3) (by omega) rfl
  have c3 := compact_h (k := 2) (zs := srt want) (H := (2, some (true, .own 3 1 (srt want).length (ivs (srt want)))) :: (2, some (true, .own 3 1 want.length (ivs want))) :: [(0, some (false, .rd 1 want.length (ivs want))), (1, some (false, .rd 1 held.length (ivs held)))]) (nx := 3) rfl
  rw [srt_length] at c3
  refine rn [(10, .spec ⟨.t (.c (.nm 2)), [(true, .own 3 1 want.length (ivs want))], [], []⟩), (12, .spec ⟨.tup [], [], [(2, some (.own 3 1 want.length (ivs (srt want))))], []⟩), (14, .spec ⟨.t (.c (.sub 2 0 0 (uq want).length)), [], [(2, some (.own 3 1 want.length (ivs (uq want ++ List.replicate (want.length - (uq want).length) 0))))], []⟩)] rfl ?_ ?_
  · repeat' (first | exact trivial | exact rfl | refine And.intro ?_ ?_)
    all_goals first | exact c1 | exact c2 | exact c3
  clear c1 c2 c3
  refine At.nil 4 3 1 rfl ?_
  generalize uq want = u at *
  refine At.loop (X := (k : Nat) ×' (k ≤ u.length ∧ (u.take k).all (fun r => decide (r ∈ held)) = true)) 4 (fun k => u.length - k.1)
    (fun k => [(1, .t (.c (.nm 1))), (4, .t (.c (.nm 3))), (5, .t (.c (iT (-1)))), (14, .t (.c (.sub 2 0 0 u.length))), (15, .t (.c (iT (u.length : Nat)))), (16, .t (.c (iT (k.1 : Nat))))])
    (fun k => [(1, some (false, .rd 1 held.length (ivs held))), (2, some (true, .own 3 1 want.length (ivs (u ++ List.replicate (want.length - u.length) 0)))), (3, some (true, .own 3 1 k.1 (ivs (u.take k.1))))]) ⟨0, by omega, rfl⟩ [] (fun k => wf rfl rfl) (by repeat' (first | exact trivial | exact rfl | refine And.intro ?_ ?_)) (by repeat' (first | exact trivial | exact rfl | refine And.intro ?_ ?_)) rfl fun k => ?_
  obtain ⟨k, hk1, hk2⟩ := k
  have w2 : IntKind.i64.wrap ((k : Int) + 1) = ((k + 1 : Nat) : Int) := by rw [wrap_sm (by omega) (by omega)]; omega
  refine rn [] rfl (by repeat' (first | exact trivial | exact rfl | refine And.intro ?_ ?_)) ?_
  refine ⟨fun h => ?_, fun h => ?_⟩
  · have hlt : k < u.length := by have : (k : Int) < (u.length : Int) := of_decide_eq_true h; omega
    have e1 : (ivs (u ++ List.replicate (want.length - u.length) 0))[0 + (k : Int).toNat * 1]? = some (.int .i64 u[k]) := by
      have := ivs_at (l := u ++ List.replicate (want.length - u.length) 0) (k := k) (by simp; omega)
      rw [List.getElem_append_left hlt] at this
      simpa using this
    have b0 : (0 : Int) ≤ (k : Int) := by omega
    have b1 : (k : Int) < (u.length : Int) := by omega
    refine rn [(19, .ld [iT u[k]]), (22, .spec ⟨.t (.c (.b (decide (u[k] ∈ held)))), [], [], []⟩)] rfl ?_ ?_
    · (repeat' (first | exact trivial | exact rfl | exact e1 | exact fun _ => e1 | first | exact b0 | exact b1 | decide | exact contains_h (SlR.rd rfl) (by omega) | omega | refine And.intro ?_ ?_))
    refine ⟨fun h => ?_, fun h => ?_⟩
    · have hn : u[k] ∉ held := by simpa using h
      obtain ⟨p1, p2⟩ := bnd_at hk2 hlt hn
      refine rn [] rfl (by repeat' (first | exact trivial | exact rfl | refine And.intro ?_ ?_)) (roundExit rfl ?_)
      rw [p1, p2]
      refine rnA [] rfl (by repeat' (first | exact trivial | exact rfl | refine And.intro ?_ ?_)) ?_
      exact retN tysOk [(nx, 3)] rfl (by simp only [retS, SV.eqs, eqsT, TV.eqs, CV.eqs, ren_one]; repeat' (first | exact trivial | exact rfl | refine And.intro ?_ ?_)) (by simp only [newsH, subH, ren_one]; (repeat' (first | exact trivial | exact rfl | exact trivial | exact fun _ => trivial | first | omega | (simp; omega) | refine And.intro ?_ ?_))) (by simp [injK, keysH, newsH, inL]) rfl
    · have hi : u[k] ∈ held := by simpa using h
      have hm : k + 1 ≤ maxLen := by simp [maxLen]; omega
      have hm2 : (k + 1) * 8 ≤ 140737488355328 := by omega
      refine rn [] rfl (by (repeat' (first | exact trivial | exact rfl | exact trivial | exact fun _ => trivial | first | exact hm | exact hm2 | refine And.intro ?_ ?_))) ?_
      refine roundEnd ⟨k + 1, by omega, all_succ hlt hk2 (decide_eq_true hi)⟩ [(3, 5)] (by show u.length - (k + 1) < u.length - k; omega) (by (repeat' (first | exact trivial | exact rfl | exact w2 | exact fun _ => w2 | refine And.intro ?_ ?_))) ?_ rfl
      repeat' (first | exact trivial | exact rfl | refine And.intro ?_ ?_)
      rw [List.take_succ_eq_append_getElem hlt, ivs_append, app_eq]
      rfl
  · have hlt : k = u.length := by have : ¬ (k : Int) < (u.length : Int) := of_decide_eq_false h; omega
    subst hlt
    rw [List.take_length] at hk2
    obtain ⟨p1, p2⟩ := bnd_all hk2
    refine rn [] rfl (by repeat' (first | exact trivial | exact rfl | refine And.intro ?_ ?_)) (roundExit rfl ?_)
    rw [p1, p2]
    refine rnA [] rfl (by repeat' (first | exact trivial | exact rfl | refine And.intro ?_ ?_)) ?_
    exact retN tysOk [(nx, 3)] rfl (by simp only [retS, SV.eqs, eqsT, TV.eqs, CV.eqs, ren_one]; repeat' (first | exact trivial | exact rfl | refine And.intro ?_ ?_)) (by simp only [newsH, subH, ren_one]; (repeat' (first | exact trivial | exact rfl | exact trivial | exact fun _ => trivial | first | omega | (simp; omega) | simp | refine And.intro ?_ ?_))) (by simp [injK, keysH, newsH, inL]) rfl
end Cw
namespace Cw
open Go
set_option maxRecDepth 100000
theorem srt_pw (l : List Int) : (srt l).Pairwise (· ≤ ·) := by
  have := List.pairwise_mergeSort (le := fun x y : Int => decide (x ≤ y)) (fun a b c h1 h2 => by simp at *; omega) (fun a b => by simp; omega) l
  exact this.imp fun h => by simpa using h
theorem mem_srt {l : List Int} {x : Int} : x ∈ srt l ↔ x ∈ l := List.mem_mergeSort
theorem pw_le {l : List Int} (h : l.Pairwise (· ≤ ·)) {i j : Nat} (hij : i ≤ j) (hj : j < l.length) : l[i] ≤ l[j] := by
  rcases Nat.lt_or_ge i j with h1 | h1
  · exact List.pairwise_iff_getElem.1 h i j (by omega) hj h1
  · have : i = j := by omega
    subst this
    exact Int.le_refl _
theorem at_bang {l : List Int} {j : Nat} (h : j < l.length) : l.toArray[j]! = l[j] := by simp [h]
theorem cpt_pw {l : List Int} (h : l.Pairwise (· ≤ ·)) : (cpt l).Pairwise (· < ·) := by
  unfold cpt Lib.compact Lib.compactUpTo
  rw [List.pairwise_map]
  have h0 : ((List.range l.length).filter (Lib.keeps l.toArray)).Pairwise fun i j => i < j := List.Pairwise.filter _ List.pairwise_lt_range
  refine List.Pairwise.imp_of_mem ?_ h0
  intro i j hi hj hij
  have hi' := List.mem_filter.1 hi
  have hj' := List.mem_filter.1 hj
  have hil := List.mem_range.1 hi'.1
  have hjl := List.mem_range.1 hj'.1
  rw [at_bang hil, at_bang hjl]
  have hk := hj'.2
  have h1 := pw_le h (show i ≤ j - 1 by omega) (by omega)
  have h2 := pw_le h (show j - 1 ≤ j by omega) hjl
  have h3 : l[j - 1] ≠ l[j] := by
    have hk' : Lib.keeps l.toArray j = true := hk
    unfold Lib.keeps at hk'
    rw [at_bang hjl, at_bang (show j - 1 < l.length by omega)] at hk'
    intro e
    have : j ≠ 0 := by omega
    simp [this, e] at hk'
  omega
theorem first_at {l : List Int} {x : Int} : ∀ {j : Nat} (hj : j < l.length), l[j] = x → ∃ i, ∃ h : i < l.length, l[i] = x ∧ ∀ k (hk : k < i), l[k] ≠ x := by
  intro j
  induction j using Nat.strongRecOn with
  | _ j ih =>
    intro hj hx
    by_cases h : ∃ k, ∃ hk : k < j, l[k] = x
    · obtain ⟨k, hk, he⟩ := h
      exact ih k hk (by omega) he
    · exact ⟨j, hj, hx, fun k hk he => h ⟨k, hk, he⟩⟩
theorem mem_cpt {l : List Int} {x : Int} : x ∈ cpt l ↔ x ∈ l := by
  unfold cpt Lib.compact Lib.compactUpTo
  constructor
  · intro h
    obtain ⟨j, hj, rfl⟩ := List.mem_map.1 h
    have hjl := List.mem_range.1 (List.mem_filter.1 hj).1
    rw [at_bang hjl]
    exact List.getElem_mem hjl
  · intro h
    obtain ⟨j, hj, hx⟩ := List.mem_iff_getElem.1 h
    obtain ⟨i, hi, hx, hf⟩ := first_at hj hx
    refine List.mem_map.2 ⟨i, List.mem_filter.2 ⟨List.mem_range.2 hi, ?_⟩, by rw [at_bang hi, hx]⟩
    unfold Lib.keeps
    rcases Nat.eq_zero_or_pos i with h0 | h0
    · subst h0; simp
    · rw [at_bang hi, at_bang (show i - 1 < l.length by omega)]
      have := hf (i - 1) (by omega)
      simp
      right
      rw [hx]
      first | exact this | exact fun e => this e.symm
theorem uq_pw (l : List Int) : (uq l).Pairwise (· < ·) := cpt_pw (srt_pw l)
theorem mem_uq {l : List Int} {x : Int} : x ∈ uq l ↔ x ∈ l := mem_cpt.trans mem_srt
theorem pw_ext : ∀ {a b : List Int}, a.Pairwise (· < ·) → b.Pairwise (· < ·) → (∀ x, x ∈ a ↔ x ∈ b) → a = b
  | [], [], _, _, _ => rfl
  | [], y :: b, _, _, h => absurd ((h y).2 (by simp)) (by simp)
  | x :: a, [], _, _, h => absurd ((h x).1 (by simp)) (by simp)
  | x :: a, y :: b, ha, hb, h => by
    obtain ⟨ha1, ha2⟩ := List.pairwise_cons.1 ha
    obtain ⟨hb1, hb2⟩ := List.pairwise_cons.1 hb
    have hx := (h x).1 (by simp)
    have hy := (h y).2 (by simp)
    have e : x = y := by
      rcases List.mem_cons.1 hx with e | h1
      · exact e
      · rcases List.mem_cons.1 hy with e | h2
        · exact e.symm
        · have := hb1 x h1
          have := ha1 y h2
          omega
    subst e
    rw [pw_ext ha2 hb2 fun z => ?_]
    constructor
    · intro hz
      have hlt := ha1 z hz
      rcases List.mem_cons.1 ((h z).1 (List.mem_cons_of_mem _ hz)) with e | h1
      · omega
      · exact h1
    · intro hz
      have hlt := hb1 z hz
      rcases List.mem_cons.1 ((h z).2 (List.mem_cons_of_mem _ hz)) with e | h1
      · omega
      · exact h1
end Cw
namespace Cw
open Go Vc
open Go.Proofs
set_option maxRecDepth 100000
end Cw
namespace Cw
open Go Vc
open Go.Proofs
set_option maxRecDepth 100000
theorem sameInts_eq {v1 v2 : TV} {l : List Int} {H : HL} {nx : Nat} (h1 : SlR H v1 l.length 1 (ivs l)) (h2 : SlR H v2 l.length 1 (ivs l)) (z : l.length ≤ 100000000000000) : FnH Tryz.prog 24 [v1, v2] H nx ⟨.t (.c (.b true)), [], [], []⟩ := by
  have := sameInts_h (nx := nx) h1 h2 z
  rwa [decide_eq_true rfl] at this
theorem lworks_h {H : HL} {nx : Nat} : FnH Tryz.prog 5 [] H nx ⟨.t (.c (.b true)), [], [], []⟩ := by
  refine fnR (fn := Tryz.f5) 16 rfl rfl rfl (args' := []) (H' := []) (nx' := 0) (fun e w M => ⟨e, ⟨fun n b o h => (by cases h), fun n o m c q h => (by cases h)⟩, rfl⟩) rfl rfl rfl rfl fun w => ?_
  have hu : uq [5, 2, 3] = [2, 3, 5] := pw_ext (uq_pw _) (by decide) fun x => by rw [mem_uq]; simp; omega
  have c1 := wanted_h (v1 := .c (.nm 0)) (v2 := .c (.nm 1)) (want := [5, 2, 3]) (held := [3, 2]) (H := [(1, some (true, .own 3 1 2 (ivs [3, 2]))), (0, some (true, .own 3 1 3 (ivs [5, 2, 3])))]) (nx := 2) (SlR.own rfl) (SlR.own rfl) (by decide) (by decide)
  rw [hu, show bnd [3, 2] [2, 3, 5] = [2, 3] from by decide, show mis [3, 2] [2, 3, 5] = 5 from by decide] at c1
  have c2 := sameInts_h (v1 := .c (.nm 2)) (v2 := .c (.nm 3)) (l1 := [2, 3]) (l2 := [2, 3]) (H := [(3, some (true, .own 3 1 2 (ivs [2, 3]))), (2, some (true, .own 3 1 2 (ivs [2, 3]))), (1, some (true, .own 3 1 2 (ivs [3, 2]))), (0, some (true, .own 3 1 3 (ivs [5, 2, 3])))]) (nx := 4) (SlR.own rfl) (SlR.own rfl) (by decide)
  rw [decide_eq_true rfl] at c2
  refine rn [(4, .dec true), (5, .dec true), (6, .spec ⟨.tup [.c (.nm 2), .c (iT 5)], [(true, .own 3 1 2 (ivs [2, 3]))], [], []⟩), (10, .dec true), (11, .spec ⟨.t (.c (.b true)), [], [], []⟩)] rfl ?_ ?_
  · (repeat' (first | exact trivial | exact rfl | exact c1 | exact fun _ => c1 | first | exact c2 | decide | refine And.intro ?_ ?_))
  · exact ret0 tysOk rfl (by repeat' (first | exact trivial | exact rfl | refine And.intro ?_ ?_)) rfl
end Cw
namespace Cw
open Go Vc
open Go.Proofs
set_option maxRecDepth 100000
section
variable {H : HL} {nx d m r b k bk bc br bd bs q : Nat} {b1 b2 b3 : Bool} {S : List ByteArray} {W : List (Int × Wr)} {last node : Int} {R : List Ch} {fly : List (Int × Int)}
theorem rof0 (hd : lookH H d = some (b1, .cells [.nsl] 135)) (at' s : Int) : FnH Tryz.prog 95 [.c (.p d 0), .c (iT at'), .c (iT s)] H nx ⟨.t (.c .nsl), [], [], []⟩ := by
  refine fnR (fn := Tryz.f95) 61 rfl rfl rfl (args' := [.c (.p 0 0), .c (iT at'), .c (iT s)]) (H' := [(0, some (false, .cells [.nsl] 135))]) (nx' := 1) (fun e w M => ⟨_, mem_rd (fun _ => d) (H' := [(0, some (false, .cells [.nsl] 135))]) ⟨⟨b1, hd⟩, trivial⟩ M, rfl⟩) rfl rfl rfl rfl fun w => ?_
  refine rn [] rfl (by repeat' (first | exact trivial | exact rfl | refine And.intro ?_ ?_)) ?_
  refine At.unroll ?_
  refine rn [(15, .dec false)] rfl (by (repeat' (first | exact trivial | exact rfl | exact trivial | exact fun _ => trivial | rfl | refine And.intro ?_ ?_))) (nextExit rfl ?_)
  refine rnA [] rfl (by repeat' (first | exact trivial | exact rfl | refine And.intro ?_ ?_)) ?_
  exact ret0 tysOk rfl (by repeat' (first | exact trivial | exact rfl | refine And.intro ?_ ?_)) rfl
theorem rpatch0 (hd : lookH H d = some (b1, .cells [.nsl] 135)) (s : ByteArray) : FnH Tryz.prog 127 [.c (.p d 0), .c (.s s), .c .nsl] H nx ⟨.t (.c (.s s)), [], [], []⟩ := by
  refine fnR (fn := Tryz.f127) 29 rfl rfl rfl (args' := [.c (.p 0 0), .c (.s s), .c .nsl]) (H' := [(0, some (false, .cells [.nsl] 135))]) (nx' := 1) (fun e w M => ⟨_, mem_rd (fun _ => d) (H' := [(0, some (false, .cells [.nsl] 135))]) ⟨⟨b1, hd⟩, trivial⟩ M, rfl⟩) rfl rfl rfl rfl fun w => ?_
  refine rn [] rfl (by repeat' (first | exact trivial | exact rfl | refine And.intro ?_ ?_)) ?_
  refine At.unroll ?_
  refine rn [(11, .dec false)] rfl (by (repeat' (first | exact trivial | exact rfl | exact trivial | exact fun _ => trivial | rfl | refine And.intro ?_ ?_))) (nextExit rfl ?_)
  refine rnA [] rfl (by repeat' (first | exact trivial | exact rfl | refine And.intro ?_ ?_)) ?_
  exact ret0 tysOk rfl (by repeat' (first | exact trivial | exact rfl | refine And.intro ?_ ?_)) rfl
theorem rview0 (hd : lookH H d = some (b1, .cells [.nsl] 135)) (at' : Int) (s : ByteArray) (hs : s.size = 64) : FnH Tryz.prog 88 [.c (.p d 0), .c (iT at'), .c (.s s)] H nx ⟨.tup [.c (.s s), .c (iT 0)], [], [], []⟩ := by
  refine fnR (fn := Tryz.f88) 17 rfl rfl rfl (args' := [.c (.p 0 0), .c (iT at'), .c (.s s)]) (H' := [(0, some (false, .cells [.nsl] 135))]) (nx' := 1) (fun e w M => ⟨_, mem_rd (fun _ => d) (H' := [(0, some (false, .cells [.nsl] 135))]) ⟨⟨b1, hd⟩, trivial⟩ M, rfl⟩) rfl rfl rfl rfl fun w => ?_
  have h1 : (((s.size : Nat) : Int) != 64) = false := by rw [hs]; rfl
  refine rn [(10, .dec false), (15, .spec ⟨.t (.c .nsl), [], [], []⟩), (16, .spec ⟨.t (.c (.s s)), [], [], []⟩)] rfl (by (repeat' (first | exact trivial | exact rfl | exact h1 | exact fun _ => h1 | first | exact rof0 (d := 0) rfl _ _ | exact rpatch0 (d := 0) rfl _ | exact h1 | decide | refine And.intro ?_ ?_))) ?_
  exact ret0 tysOk rfl (by repeat' (first | exact trivial | exact rfl | refine And.intro ?_ ?_)) rfl
theorem rleft0 (hd : lookH H d = some (b1, .cells [.nsl] 135)) : FnH Tryz.prog 50 [.c (.p d 0), .c .nsl] H nx ⟨.t (.c (iT 0)), [], [], []⟩ := by
  refine fnR (fn := Tryz.f50) 58 rfl rfl rfl (args' := [.c (.p 0 0), .c .nsl]) (H' := [(0, some (false, .cells [.nsl] 135))]) (nx' := 1) (fun e w M => ⟨_, mem_rd (fun _ => d) (H' := [(0, some (false, .cells [.nsl] 135))]) ⟨⟨b1, hd⟩, trivial⟩ M, rfl⟩) rfl rfl rfl rfl fun w => ?_
  refine rn [] rfl (by repeat' (first | exact trivial | exact rfl | refine And.intro ?_ ?_)) ?_
  refine At.unroll ?_
  refine rn [(15, .dec false)] rfl (by (repeat' (first | exact trivial | exact rfl | exact trivial | exact fun _ => trivial | rfl | refine And.intro ?_ ?_))) (nextExit rfl ?_)
  refine rnA [] rfl (by repeat' (first | exact trivial | exact rfl | refine And.intro ?_ ?_)) ?_
  exact ret0 tysOk rfl (by repeat' (first | exact trivial | exact rfl | refine And.intro ?_ ?_)) rfl
theorem rsect0 (hd : lookH H d = some (b1, .cells [.nsl] 135)) : FnH Tryz.prog 52 [.c (.p d 0)] H nx ⟨.t (.c .nsl), [], [], []⟩ := by
  refine fnR (fn := Tryz.f52) 89 rfl rfl rfl (args' := [.c (.p 0 0)]) (H' := [(0, some (false, .cells [.nsl] 135))]) (nx' := 1) (fun e w M => ⟨_, mem_rd (fun _ => d) (H' := [(0, some (false, .cells [.nsl] 135))]) ⟨⟨b1, hd⟩, trivial⟩ M, rfl⟩) rfl rfl rfl rfl fun w => ?_
  refine rn [] rfl (by repeat' (first | exact trivial | exact rfl | refine And.intro ?_ ?_)) ?_
  refine At.unroll ?_
  refine rn [(14, .dec false)] rfl (by (repeat' (first | exact trivial | exact rfl | exact trivial | exact fun _ => trivial | rfl | refine And.intro ?_ ?_))) (nextExit rfl ?_)
  refine rnA [] rfl (by repeat' (first | exact trivial | exact rfl | refine And.intro ?_ ?_)) ?_
  exact ret0 tysOk rfl (by repeat' (first | exact trivial | exact rfl | refine And.intro ?_ ?_)) rfl
/-- The document's side: its number, its changes' and its disk's. -/
def kO (bk bc br : Nat) : List (Bool × Ob) := [(true, .cells [.p 2 0, iT 0, iT 0, .p 1 0, .nsl] 103), (true, .cells [.nsl] 135), (false, .pin 2 br), (false, .pin 0 bk), (false, .pin 1 bc)]
def kP (bk bc br : Nat) : AbP := absP (kO bk bc br) (.p 0 0)
theorem k_pins (bk bc br : Nat) : Pins (kP bk bc br) (ptr bk) := pins_abs (k := 3) rfl
def kX (br : Nat) : AbP := exP fun p : Nat × Nat => kP p.1 p.2 br
theorem nilKx {H : HL} (hd : lookH H d = some (b1, .ab (kX br))) {Lc : LL} {o : Oper} {x y : Operand} (hop : o.op = .binOp .eql 41 x y 41) (hx : ev Lc x = some (.c (.nm d))) (hy : ev Lc y = some (.c .np)) : Spec Tryz.prog Lc H nx o ⟨.t (.c (.b false)), [], [], []⟩ :=
  spec_nil tysOk hop hx hy rfl rfl hd (fun v F w ⟨p, h⟩ => ⟨p.1, k_pins p.1 p.2 br v F w h⟩)
set_option maxRecDepth 100000 in
set_option maxHeartbeats 4000000 in
/-- A new side. -/
theorem ksNew (hd : lookH H d = some (true, .ab (rdP S W last br))) :
    FnH Tryz.prog 40 [.c (.nm d), .c (iT 0), .c (iT 0)] H nx ⟨.tup [.c (.nm nx), .c (iT 0)], [(true, .ab (kX br))], [(d, some (.ab (rdP S W last br)))], []⟩ := by
  refine fnAs (fn := Tryz.f40) 29 rfl rfl rfl (args' := [.c (.nm 0), .c (iT 0), .c (iT 0)]) [(d, rdP S W last br, rdP S W last br)] [] ⟨⟨hd, ptr br, rd_pins _ _ _ _, rd_pins _ _ _ _⟩, trivial⟩ trivial (by simp) rfl rfl rfl rfl (v' := .tup [.c (.nm 1), .c (iT 0)]) (news' := [(true, .ab (kX br))]) rfl rfl rfl rfl rfl fun w Wh => ?_
  refine At.num br ?_
  refine At.alias 0 0 1 rfl (rd_pins _ _ _ _) rfl rfl ?_
  refine rn [(21, .dec false)] rfl (by (repeat' (first | exact trivial | exact rfl | exact trivial | exact fun _ => trivial | decide | refine And.intro ?_ ?_))) ?_
  refine Done.pin 2 rfl fun c => ?_
  refine Done.pin 3 rfl fun b => ?_
  refine Done.foldR 6 (.p 3 0) [(0, 3), (1, 2), (2, 1), (3, 5), (4, 4)] (kO b c br) (.p 0 0) rfl (by repeat' (first | exact trivial | exact rfl | refine And.intro ?_ ?_)) (by repeat' (first | exact trivial | exact rfl | refine And.intro ?_ ?_)) rfl rfl (fun _ => rfl) ?_
  refine Done.weak 6 (φ' := kX br) rfl (exP_stable fun _ => absP_stable _ _) (fun v F w h => ⟨(b, c), h⟩) ?_
  exact retM tysOk [(0, 0), (1, 6)] rfl (by repeat' (first | exact trivial | exact rfl | refine And.intro ?_ ?_)) (by repeat' (first | exact trivial | exact rfl | refine And.intro ?_ ?_)) rfl rfl
set_option maxRecDepth 100000 in
set_option maxHeartbeats 4000000 in
/-- A sector is read. -/
theorem ksRead (hk : lookH H k = some (true, .ab (kP bk bc br))) (hd : lookH H d = some (true, .ab (rdP S W last br))) (hkd : k ≠ d) {at' : Int} {t : ByteArray} (he : rdE S.length at' = 0) (ht : rdT S at' = t) (hz : t.size = 64) :
    FnH Tryz.prog 48 [.c (.nm k), .c (iT at')] H nx ⟨.tup [.c (.s t), .c (iT 0)], [], [(k, some (.ab (kP bk bc br))), (d, some (.ab (rdP S W last br)))], []⟩ := by
  refine fnAs (fn := Tryz.f48) 29 rfl rfl rfl (args' := [.c (.nm 0), .c (iT at')]) [(k, kP bk bc br, kP bk bc br), (d, rdP S W last br, rdP S W last br)] [] ⟨⟨hk, ptr bk, k_pins _ _ _, k_pins _ _ _⟩, ⟨hd, ptr br, rd_pins _ _ _ _, rd_pins _ _ _ _⟩, trivial⟩ trivial (by simp [hkd]) rfl rfl rfl rfl (v' := .tup [.c (.s t), .c (iT 0)]) (news' := []) rfl rfl rfl rfl rfl fun w Wh => ?_
  refine At.unfoldTo 0 (L1 := (0, .t (.c (.p 2 0))) :: [(1, .t (.c (iT at')))]) (H1 := [(2, some (true, .cells [.p 4 0, iT 0, iT 0, .p 3 0, .nsl] 103)), (3, some (true, .cells [.nsl] 135)), (4, some (false, .pin 4 br)), (5, some (false, .pin 2 bk)), (6, some (false, .pin 3 bc)), (0, none), (0, some (true, .ab (kP bk bc br))), (1, some (true, .ab (rdP S W last br)))]) (nx1 := 7) rfl rfl rfl rfl rfl rfl ?_
  have hr := fun (H : HL) (nx : Nat) (h1 : lookH H 1 = some (true, .ab (rdP S W last br))) (h6 : lookH H 4 = some (false, .pin 4 br)) => fnh_al1 h1 (rd_pins _ _ _ _) h6 (rreadA (nx := nx) h1 at')
  simp only [ht, he] at hr
  refine rn [(14, .spec ⟨.tup [.c (.s t), .c (iT 0)], [], [(1, some (.ab (rdP S W last br)))], []⟩), (18, .dec false), (26, .spec ⟨.tup [.c (.s t), .c (iT 0)], [], [], []⟩)] rfl (by (repeat' (first | exact trivial | exact rfl | exact trivial | exact fun _ => trivial | first | exact hr _ _ rfl rfl | exact rview0 (d := 3) rfl _ _ hz | rfl | decide | refine And.intro ?_ ?_))) ?_
  refine Done.fold [(0, 2), (1, 3), (2, 4), (3, 5), (4, 6)] (kO bk bc br) (.p 0 0) (by repeat' (first | exact trivial | exact rfl | refine And.intro ?_ ?_)) rfl rfl (fun _ => rfl) ?_
  exact retM tysOk [(0, 7), (1, 1)] rfl (by repeat' (first | exact trivial | exact rfl | refine And.intro ?_ ?_)) (by repeat' (first | exact trivial | exact rfl | refine And.intro ?_ ?_)) rfl rfl
theorem r_ptr2 {i : Nat} {O : List (Bool × Ob)} {j : Nat} (hm : lookH H m = some (b1, .pin m bd)) (hO : O[j]? = some (b2, .pin i bd)) : ∀ e e1 w, MemOk H e w → MemOk (newsH 0 O) e1 w → (TV.c (.p m 0)).den e = CV.den e1 (.p i 0) := by
  intro e e1 w M M1
  have h1 : e.blk m = bd := (M.ob m b1 _ hm).1.2
  have h2 : e1.blk i = bd := (M1.ob j b2 (.pin i bd) (by rw [lookH_newsH, if_pos (Nat.zero_le _), Nat.sub_zero]; exact hO)).1.2
  show Value.pointer (some ⟨e.blk m, 0, none⟩) = .pointer (some ⟨e1.blk i, 0, none⟩)
  rw [h1, h2]
theorem ksLeft (hr : lookH H r = some (b1, .ab (kP bk bc br))) (hm : lookH H m = some (b2, .pin m bc)) :
    FnH Tryz.prog 50 [.c (.p m 0), .c .nsl] H nx ⟨.t (.c (iT 0)), [], [], []⟩ :=
  fnh_in (nx := nx) (u := .c (.p m 0)) (bs := [.c .nsl]) (O := kO bk bc br) (x := .p 0 0) (y := .p 1 0) (v' := .t (.c (iT 0))) (news' := []) hr rfl rfl rfl rfl rfl (r_ptr2 (j := 4) hm rfl) (rleft0 (b1 := true) (d := 1) rfl)
theorem ksSect (hr : lookH H r = some (b1, .ab (kP bk bc br))) (hm : lookH H m = some (b2, .pin m bc)) :
    FnH Tryz.prog 52 [.c (.p m 0)] H nx ⟨.t (.c .nsl), [], [], []⟩ :=
  fnh_in (nx := nx) (u := .c (.p m 0)) (bs := []) (O := kO bk bc br) (x := .p 0 0) (y := .p 1 0) (v' := .t (.c .nsl)) (news' := []) hr rfl rfl rfl rfl rfl (r_ptr2 (j := 4) hm rfl) (rsect0 (b1 := true) (d := 1) rfl)
end
end Cw
namespace Cw
open Go Vc
open Go.Proofs
set_option maxRecDepth 100000
section
variable {H : HL} {nx d m r b k bk bc br bd bs q : Nat} {b1 b2 b3 : Bool} {S : List ByteArray} {W : List (Int × Wr)} {last node : Int} {fly : List (Int × Int)}
theorem pt_nil {t : ByteArray} (h : t.size = 64) : pt t [] = t ∧ pte t [] = 0 := by
  have e : pte t [] = 0 := by rw [pte, if_neg (by omega), if_neg (by simp)]; rfl
  refine ⟨?_, e⟩
  rw [pt, if_pos e]
  rfl
theorem sfRead (hs : lookH H r = some (true, .ab (sfB [] fly node b bd bk))) (hd : lookH H d = some (true, .ab (dP S W last bk))) (hsd : r ≠ d) {at' : Int} {t : ByteArray} (he : rdE S.length at' = 0) (ht : rdT S at' = t) (hz : t.size = 64) :
    FnH Tryz.prog 47 [.c (.nm r), .c (iT at')] H nx ⟨.tup [.c (.s t), .c (iT 0)], [], [(r, some (.ab (sfB [] fly node b bd bk))), (d, some (.ab (dP S W last bk)))], []⟩ :=
  fnh_ex2 hs (fun _ => absP_stable _ _) fun x => softReadG look_eq ((look_ne hsd).trans hd) hsd x.2 he ht (by omega) (pt_nil hz)
theorem sfLeft0 {V : DV} (hd : lookH H d = some (b1, .cells [.nm m, iT last] 141)) (hl : lookH H m = some (b2, .own 145 6 V.length (dpc V))) :
    FnH Tryz.prog 49 [.c (.p d 0), .c .nsl] H nx ⟨.t (.c (iT (V.length : Nat))), [], [], []⟩ := by
  refine fnR (fn := Tryz.f49) 33 rfl rfl rfl (args' := [.c (.p 0 0), .c .nsl]) (H' := hDp V last) (nx' := 2) (fun e w M => ⟨_, mem_rd (r2p d m) (memDp hd hl) M, rfl⟩) rfl rfl rfl rfl fun w => ?_
  show At _ _ _ _ _ _ [(0, some (false, .cells [.nm 1, iT last] 141)), (1, some (false, .own 145 6 V.length (dpc V)))] 2
  refine rn [(10, .dec true)] rfl (by (repeat' (first | exact trivial | exact rfl | exact trivial | exact fun _ => trivial | rfl | refine And.intro ?_ ?_))) ?_
  exact ret0 tysOk rfl (by repeat' (first | exact trivial | exact rfl | refine And.intro ?_ ?_)) rfl
theorem dnm_ptr {φ : AbP} {O : List (Bool × Ob)} {j : Nat} (hd : lookH H d = some (b1, .ab φ)) (hp : Pins φ (ptr b)) (hO : O[j]? = some (b2, .pin 0 b)) : ∀ e e1 w, MemOk H e w → MemOk (newsH 0 O) e1 w → (TV.c (.nm d)).den e = CV.den e1 (.p 0 0) := by
  intro e e1 w M M1
  have h1 := hp _ _ _ (M.ob d b1 _ hd).1.1
  have h2 : e1.blk 0 = b := (M1.ob j b2 (.pin 0 b) (by rw [lookH_newsH, if_pos (Nat.zero_le _), Nat.sub_zero]; exact hO)).1.2
  show e.val d = .pointer (some ⟨e1.blk 0, 0, none⟩)
  rw [h1, h2]
  rfl
theorem dm_ptr {φ : AbP} {O : List (Bool × Ob)} {j : Nat} (hm : lookH H m = some (b1, .pin m bd)) (hO : O[j]? = some (true, .ab φ)) (hp : Pins φ (ptr bd)) : ∀ e e1 w, MemOk H e w → MemOk (newsH 0 O) e1 w → (TV.c (.p m 0)).den e = CV.den e1 (.nm j) := by
  intro e e1 w M M1
  have h1 : e.blk m = bd := (M.ob m b1 _ hm).1.2
  have h2 := hp _ _ _ (M1.ob j true (.ab φ) (by rw [lookH_newsH, if_pos (Nat.zero_le _), Nat.sub_zero]; exact hO)).1.1
  show Value.pointer (some ⟨e.blk m, 0, none⟩) = e1.val j
  rw [h1, h2]
  rfl
theorem sfLeft1 {V : DV} {W : WW} {R : List Ch} (hd : lookH H d = some (b1, .ab (depP V R.length b))) (h : DR V W R) :
    FnH Tryz.prog 49 [.c (.nm d), .c .nsl] H nx ⟨.t (.c (iT ((und R).length : Nat))), [], [], []⟩ := by
  have := fnh_in (nx := nx) (u := .c (.nm d)) (bs := [.c .nsl]) (O := depO V R.length b) (x := .p 0 0) (y := .p 0 0) (v' := .t (.c (iT (V.length : Nat)))) (news' := []) hd rfl rfl rfl rfl rfl (dnm_ptr (j := 2) hd (dep_pins _ _ _) rfl) (sfLeft0 (d := 0) (m := 1) rfl rfl)
  rw [h.len] at this
  exact this
theorem sfSect1 {V : DV} {W : WW} {R : List Ch} (hd : lookH H d = some (true, .ab (depP V R.length b))) (hq : lookH H q = some (b1, .ab (frzP W))) (hdq : d ≠ q) (h : DR V W R) :
    FnH Tryz.prog 51 [.c (.nm d)] H nx ⟨.t (.c (.nm nx)), [(true, .own 3 1 (secs (und R)).length (ivs (secs (und R))))], [], []⟩ := by
  have := fnh_shutQ0 (nx := nx) (bs := []) (O := depO V R.length b) (x := .p 0 0) (v' := .t (.c (.nm 0))) (news' := [(true, .own 3 1 (secs (chs V)).length (ivs (secs (chs V))))]) hd hq hdq rfl rfl rfl rfl rfl (sectorsU (d := 0) (l := 1) (q := 3) rfl rfl rfl h.sub h.ok)
  rw [h.eq] at this
  exact this
theorem sfLeft (hr : lookH H r = some (true, .ab (sfB [] fly node b bd bk))) (hm : lookH H m = some (b1, .pin m bd)) (hrm : r ≠ m) :
    FnH Tryz.prog 49 [.c (.p m 0), .c .nsl] H nx ⟨.t (.c (iT 0)), [], [], []⟩ :=
  fnh_ex2 hr (fun _ => absP_stable _ _) fun x => fnh_in (nx := nx) (u := .c (.p m 0)) (bs := [.c .nsl]) (O := sfO x.1.1 x.1.2 0 fly node b bd bk) (x := .p 0 0) (y := .nm 1) (v' := .t (.c (iT 0))) (news' := []) look_eq rfl rfl rfl rfl rfl (dm_ptr (j := 1) ((look_ne hrm).trans hm) rfl (dep_pins _ _ _)) (sfLeft1 (b1 := true) (V := x.1.1) (b := bd) (R := []) rfl x.2)
theorem secs_und : secs (und []) = [] := by
  rw [List.eq_nil_iff_forall_not_mem]
  intro k hk
  obtain ⟨⟨c, hc, _⟩, _⟩ := secs_mem.1 hk
  simp [und] at hc
theorem sfSect (hr : lookH H r = some (true, .ab (sfB [] fly node b bd bk))) (hm : lookH H m = some (b1, .pin m bd)) (hrm : r ≠ m) :
    FnH Tryz.prog 51 [.c (.p m 0)] H nx ⟨.t (.c (.nm nx)), [(true, .own 3 1 0 (ivs []))], [], []⟩ :=
  fnh_ex2 hr (fun _ => absP_stable _ _) fun x => fnh_in (nx := nx) (u := .c (.p m 0)) (bs := []) (O := sfO x.1.1 x.1.2 0 fly node b bd bk) (x := .p 0 0) (y := .nm 1) (v' := .t (.c (.nm 0))) (news' := [(true, .own 3 1 0 (ivs []))]) look_eq rfl rfl rfl rfl rfl (dm_ptr (j := 1) ((look_ne hrm).trans hm) rfl (dep_pins _ _ _)) (by have h0 := sfSect1 (nx := (sfO x.1.1 x.1.2 0 fly node b bd bk).length) (H := newsH 0 (sfO x.1.1 x.1.2 0 fly node b bd bk)) (b1 := true) (V := x.1.1) (W := x.1.2) (b := bd) (d := 1) (q := 2) (R := []) rfl rfl (by decide) x.2; rw [secs_und] at h0; exact h0)
/-- The changes of a side that is shut: their number. -/
theorem spec_sfC {L : LL} {o : Oper} {T : TypeId} {I : Ty} {x : Operand} {R : List Ch} (hop : o.op = .load T x) (hI : Vc.look T tys = some I) (hsz : I.size = 1) (hmk : ∀ v, mkV I [.raw v] = some (.c (.raw v)))
    (hx : ev L x = some (.c (.p q 0))) (hq : lookH H q = some (b2, .pin q b)) (hm : lookH H m = some (b3, .pin m bd)) (hr : lookH H r = some (b1, .ab (sfB R fly node b bd bk))) : Spec Tryz.prog L H nx o ⟨.t (.c (.p m 0)), [], [], []⟩ := by
  refine ⟨fun F => step_pure fun e a w S' => ?_⟩
  have hT := tysOk _ _ hI
  obtain ⟨⟨y, e1, hv, hO, _⟩, _⟩ := (S'.ob r b1 _ hr).1
  have hblk := (hO 0 _ _ rfl).1.2
  have hp : e1.blk 0 = b := (hO 5 _ _ rfl).1.2
  have hdv : e1.val 1 = ptr bd := dep_pins _ _ _ _ _ _ (hO 1 _ _ rfl).1.1
  have hb : e.blk q = b := (S'.ob q b2 _ hq).1.2
  have hbm : e.blk m = bd := (S'.ob m b3 _ hm).1.2
  rw [hp] at hblk
  have hev : a.eval x = .pointer (some ⟨b, 0, none⟩) := by
    rw [ev_ok S' hx]
    simp only [TV.den, CV.den, hb]
  have hrun := run_loadVar (P := Tryz.prog) (w := w) hT ⟨b, 0, none⟩ e (l := [.raw (ptr bd)]) (by rw [hsz]; rfl) (hmk _) fun j u hu => by
    cases j with
    | zero =>
      rw [lit_add, cell_of_row w b (0 + 0) _ _ (0, 0) hblk]
      simp [CV.den] at hu
      rw [← hu, ← hdv]
      rfl
    | succ j => simp at hu
  simp only [execOp, hop, hev, Instr.loadAt, Instr.sureAddr, Sem.run_bind, Sem.run_pure, Result.andThen_ok, hrun, SV.den, TV.den, CV.den, hbm]
  rfl
theorem spec_ksC {L : LL} {o : Oper} {T : TypeId} {I : Ty} {x : Operand} (hop : o.op = .load T x) (hI : Vc.look T tys = some I) (hsz : I.size = 1) (hmk : ∀ v, mkV I [.raw v] = some (.c (.raw v)))
    (hx : ev L x = some (.c (.p q 3))) (hq : lookH H q = some (b2, .pin q bk)) (hm : lookH H m = some (b3, .pin m bc)) (hr : lookH H r = some (b1, .ab (kP bk bc br))) : Spec Tryz.prog L H nx o ⟨.t (.c (.p m 0)), [], [], []⟩ := by
  refine ⟨fun F => step_pure fun e a w S' => ?_⟩
  have hT := tysOk _ _ hI
  obtain ⟨⟨e1, hv, hO, _⟩, _⟩ := (S'.ob r b1 _ hr).1
  have hblk := (hO 0 _ _ rfl).1.2
  have hp : e1.blk 0 = bk := (hO 3 _ _ rfl).1.2
  have hpc : e1.blk 1 = bc := (hO 4 _ _ rfl).1.2
  have hb : e.blk q = bk := (S'.ob q b2 _ hq).1.2
  have hbm : e.blk m = bc := (S'.ob m b3 _ hm).1.2
  rw [hp] at hblk
  have hev : a.eval x = .pointer (some ⟨bk, 3, none⟩) := by
    rw [ev_ok S' hx]
    simp only [TV.den, CV.den, hb]
  have hrun := run_loadVar (P := Tryz.prog) (w := w) hT ⟨bk, 3, none⟩ e (l := [.raw (ptr bc)]) (by rw [hsz]; rfl) (hmk _) fun j u hu => by
    cases j with
    | zero =>
      show w.cell? ⟨bk, 3, none⟩ = some u
      rw [cell_of_row w bk 3 _ _ (0, 0) hblk]
      simp [CV.den] at hu
      rw [← hu]
      show some (Value.pointer (some ⟨e1.blk 1, 0, none⟩)) = _
      rw [hpc]
      rfl
    | succ j => simp at hu
  simp only [execOp, hop, hev, Instr.loadAt, Instr.sureAddr, Sem.run_bind, Sem.run_pure, Result.andThen_ok, hrun, SV.den, TV.den, CV.den, hbm]
  rfl
/-- How long the document's sectors are: a thing that is shut, read by its number. -/
theorem spec_rdLen {L : LL} {o : Oper} {T : TypeId} {I : Ty} {x : Operand} (hop : o.op = .load T x) (hI : Vc.look T tys = some I) (hsz : I.size = 1) (hmk : ∀ v, mkV I [.raw v] = some (.c (.raw v)))
    (hx : ev L x = some (.c (.p q 0))) (hq : lookH H q = some (b2, .pin q b)) (hd : lookH H d = some (b1, .ab (rdP S W last b))) : Spec Tryz.prog L H nx o ⟨.t (.c (.nm nx)), [(false, .rd 0 S.length [])], [], []⟩ := by
  refine ⟨fun F => ?_⟩
  have hT := tysOk _ _ hI
  intro hlow e a w S' K Q hK
  obtain ⟨⟨e1, hv, hO, _⟩, _⟩ := (S'.ob d b1 _ hd).1
  have hblk := (hO 0 _ _ rfl).1.2
  have hp : e1.blk 0 = b := (hO 3 _ _ rfl).1.2
  have hown := (hO 1 _ _ rfl).1.1
  have hb : e.blk q = b := (S'.ob q b2 _ hq).1.2
  rw [hp] at hblk
  have hev : a.eval x = .pointer (some ⟨b, 0, none⟩) := by
    rw [ev_ok S' hx]
    simp only [TV.den, CV.den, hb]
  obtain ⟨A, c, hs, h1, h2, h3⟩ : ∃ A c, e1.val 1 = .slice A S.length c ∧ S.length ≤ c ∧ c ≤ maxLen ∧ (A = none → c = 0) := by
    rcases hown.2 with ⟨h, h0⟩ | ⟨g, cap, cur, h, _, _, h1, h2, _⟩
    · exact ⟨none, 0, by rw [h, h0], by omega, by decide, fun _ => rfl⟩
    · exact ⟨_, cap, h, h1, h2, fun h => by cases h⟩
  have hrun := run_loadVar (P := Tryz.prog) (w := w) hT ⟨b, 0, none⟩ e (l := [.raw (e1.val 1)]) (by rw [hsz]; rfl) (hmk _) fun j u hu => by
    cases j with
    | zero =>
      rw [lit_add, cell_of_row w b (0 + 0) _ _ (0, 0) hblk]
      simp [CV.den] at hu
      rw [← hu]
      rfl
    | succ j => simp at hu
  let e' := e.put3 nx 0 (e1.val 1) (fun _ => False)
  have hv' : e'.val nx = e1.val 1 := Env.put3_val e (e1.one 1)
  refine wp_value (v := (SV.t (.c (.nm nx))).den e') (w' := w) ?_ (hK e' _ (.old ⟨fun n hn => Env.put3_same e (by simp only [List.length_cons, List.length_nil] at hn; omega), rfl, rfl, rfl, Nat.le_refl _, fun g hg _ => rfl, fun k b o hk => ?_, fun j k hj hk hne => ?_, fun n o ho => (by cases ho)⟩))
  · simp only [execOp, hop, hev, Instr.loadAt, Instr.sureAddr, Sem.run_bind, Sem.run_pure, Result.andThen_ok, hrun, SV.den, TV.den, CV.den, hv']
  · cases k with
    | zero =>
      cases hk
      have hfp : e'.fp nx = fun _ => False := Env.put3_fp e
      refine ⟨⟨A, c, by rw [Nat.add_zero, hv', hs], ⟨by simp, h1, h2, h3, fun j u hu => by simp at hu⟩, fun a _ h => by simp at h⟩, fun g hg => ?_⟩
      rw [Nat.add_zero, hfp] at hg
      exact hg.elim
    | succ k => simp at hk
  · simp only [List.length_cons, List.length_nil] at hj hk
    omega
end
/-- The numbers of a side's things: the program's disk, side and changes; the document's; the side itself. -/
structure SdN where
  b : Nat
  bs : Nat
  bd : Nat
  br : Nat
  bk : Nat
  bc : Nat
  bx : Nat
def sideO (N : SdN) (S : List ByteArray) : List (Bool × Ob) :=
  [(true, .cells [.p 5 0, .p 6 0, .p 7 0, .p 8 0] 43), (true, .ab (dP S [] 0 N.b)), (true, .ab (sfB [] [] 0 N.bs N.bd N.b)), (true, .ab (rdP S [] 0 N.br)), (true, .ab (kP N.bk N.bc N.br)),
   (false, .pin 5 N.b), (false, .pin 6 N.bs), (false, .pin 7 N.br), (false, .pin 8 N.bk), (false, .pin 9 N.bd), (false, .pin 10 N.bc), (false, .pin 0 N.bx)]
def sideP (N : SdN) (S : List ByteArray) : AbP := absP (sideO N S) (.p 0 0)
theorem side_pins (N : SdN) (S : List ByteArray) : Pins (sideP N S) (ptr N.bx) := pins_abs (k := 11) rfl
theorem side_st (N : SdN) (S : List ByteArray) : stable (sideP N S) := absP_stable _ _
/-- A side of n sectors. -/
def sideY (N : SdN) (n : Nat) : AbP := exP fun S : { S : List ByteArray // DOk n S [] 0 } => sideP N S.1
theorem sideY_pins (N : SdN) (n : Nat) : Pins (sideY N n) (ptr N.bx) := fun v F w ⟨S, h⟩ => side_pins N S.1 v F w h
theorem sideY_st (N : SdN) (n : Nat) : stable (sideY N n) := exP_stable fun _ => absP_stable _ _
def sideX (n : Nat) : AbP := exP fun N : SdN => sideY N n
section
variable {H : HL} {nx x n : Nat} {N : SdN} {S : List ByteArray}
set_option maxRecDepth 100000 in
set_option maxHeartbeats 8000000 in
theorem sdsame_h (hx : lookH H x = some (true, .ab (sideP N S))) (hD : DOk n S [] 0) (hn : n ≤ 100) :
    FnH Tryz.prog 9 [.c (.nm x)] H nx ⟨.t (.c (.b true)), [], [(x, some (.ab (sideP N S)))], []⟩ := by
  refine fnA (fn := Tryz.f9) 82 rfl rfl rfl hx (ptr N.bx) (side_pins _ _) (side_pins _ _) rfl rfl rfl (v' := .t (.c (.b true))) (news' := []) rfl rfl rfl rfl fun w Wr => ?_
  obtain ⟨b, bs, bd, br, bk, bc, bx⟩ := N
  have hl := hD.len
  have hz := hD.sz
  refine At.unfoldTo 0 (L1 := (0, .t (.c (.p 1 0))) :: []) (H1 := [(1, some (true, .cells [.p 6 0, .p 7 0, .p 8 0, .p 9 0] 43)), (2, some (true, .ab (dP S [] 0 b))), (3, some (true, .ab (sfB [] [] 0 bs bd b))), (4, some (true, .ab (rdP S [] 0 br))), (5, some (true, .ab (kP bk bc br))), (6, some (false, .pin 6 b)), (7, some (false, .pin 7 bs)), (8, some (false, .pin 8 br)), (9, some (false, .pin 9 bk)), (10, some (false, .pin 10 bd)), (11, some (false, .pin 11 bc)), (12, some (false, .pin 1 bx)), (0, none), (0, some (true, .ab (sideP ⟨b, bs, bd, br, bk, bc, bx⟩ S)))]) (nx1 := 13) rfl rfl rfl rfl rfl rfl ?_
  refine rn [] rfl (by repeat' (first | exact trivial | exact rfl | refine And.intro ?_ ?_)) ?_
  refine At.loop (X := (i : Nat) ×' (i ≤ n)) 13 (fun s => n - s.1)
    (fun s => [(0, .t (.c (.p 1 0))), (3, .t (.c (iT (s.1 : Nat))))])
    (fun s => [(1, some (true, .cells [.p 6 0, .p 7 0, .p 8 0, .p 9 0] 43)), (2, some (true, .ab (dP (S) [] 0 b))), (3, some (true, .ab (sfB [] [] 0 bs bd b))), (4, some (true, .ab (rdP (S) [] 0 br))), (5, some (true, .ab (kP bk bc br))), (6, some (false, .pin 6 b)), (7, some (false, .pin 7 bs)), (8, some (false, .pin 8 br)), (9, some (false, .pin 9 bk)), (10, some (false, .pin 10 bd)), (11, some (false, .pin 11 bc)), (12, some (false, .pin 1 bx))]) ⟨0, by omega⟩ [] (fun s => wf rfl rfl) (by repeat' (first | exact trivial | exact rfl | refine And.intro ?_ ?_)) (by repeat' (first | exact trivial | exact rfl | refine And.intro ?_ ?_)) rfl fun s => ?_
  obtain ⟨i, hi⟩ := s
  have w2 : IntKind.i64.wrap ((i : Int) + 1) = ((i + 1 : Nat) : Int) := by rw [wrap_sm (by omega) (by omega)]; omega
  refine rn [(15, .spec ⟨.t (.c (.nm 13)), [(false, .rd 0 S.length [])], [], []⟩)] rfl (by (repeat' (first | exact trivial | exact rfl | exact trivial | exact fun _ => trivial | first | exact spec_rdLen (d := 4) rfl rfl rfl (fun _ => rfl) rfl rfl rfl | decide | refine And.intro ?_ ?_))) ?_
  refine ⟨fun h => ?_, fun h => ?_⟩
  · have hlt : i < n := by have : (i : Int) < (S.length : Int) := of_decide_eq_true h; omega
    clear h
    have he : rdE S.length (i : Nat) = 0 := if_pos (inS_iff.2 (by omega))
    have hiS : i < S.length := by omega
    have hi0 : inS S.length (i : Nat) = true := inS_iff.2 (by omega)
    have ht : rdT S (i : Nat) = S[i] := by
      rw [rdT, if_pos hi0, List.getD_eq_getElem?_getD, Int.toNat_natCast, List.getElem?_eq_getElem hiS]; rfl
    have h64 : S[i].size = 64 := hz _ (List.getElem_mem _)
    generalize S[i] = t at *
    have g1 : (t.toList != t.toList) = false := by simp
    refine rn [(26, .spec ⟨.tup [.c (.s t), .c (iT 0)], [], [(3, some (.ab (sfB [] [] 0 bs bd b))), (2, some (.ab (dP S [] 0 b)))], []⟩), (35, .spec ⟨.tup [.c (.s t), .c (iT 0)], [], [(5, some (.ab (kP bk bc br))), (4, some (.ab (rdP S [] 0 br)))], []⟩), (41, .dec false), (45, .dec false)] rfl
      (by (repeat' (first | exact trivial | exact rfl | exact trivial | exact fun _ => trivial | first | exact fnh_al1 (d := 3) rfl (sfB_pins _ _ _ _ _ _) rfl (sfRead rfl rfl (by decide) he ht h64) | exact fnh_al1 (d := 5) rfl (k_pins _ _ _) rfl (ksRead rfl rfl (by decide) he ht h64) | exact g1 | rfl | decide | refine And.intro ?_ ?_))) ?_
    exact roundEnd ⟨i + 1, by omega⟩ [] (by show n - (i + 1) < n - i; omega) (by (repeat' (first | exact trivial | exact rfl | exact w2 | exact fun _ => w2 | refine And.intro ?_ ?_))) (by repeat' (first | exact trivial | exact rfl | refine And.intro ?_ ?_)) rfl
  · refine rn [] rfl (by repeat' (first | exact trivial | exact rfl | refine And.intro ?_ ?_)) (roundExit rfl ?_)
    refine rnA [(52, .spec ⟨.t (.c (.p 10 0)), [], [], []⟩), (53, .spec ⟨.t (.c (iT 0)), [], [], []⟩), (60, .spec ⟨.t (.c (.p 11 0)), [], [], []⟩), (61, .spec ⟨.t (.c (iT 0)), [], [], []⟩), (63, .dec true), (70, .spec ⟨.t (.c (.p 10 0)), [], [], []⟩), (71, .spec ⟨.t (.c (.nm 14)), [(true, .own 3 1 0 (ivs []))], [], []⟩), (78, .spec ⟨.t (.c (.p 11 0)), [], [], []⟩), (79, .spec ⟨.t (.c .nsl), [], [], []⟩), (80, .spec ⟨.t (.c (.b true)), [], [], []⟩), (30052, .dec true), (30053, .dec true), (30060, .dec true), (30061, .dec true), (30070, .dec true), (30071, .dec true), (30078, .dec true), (30079, .dec true)] rfl
      (by (repeat' (first | exact trivial | exact rfl | exact trivial | exact fun _ => trivial | first | exact spec_sfC (r := 3) rfl rfl rfl (fun _ => rfl) rfl rfl rfl rfl | exact spec_ksC (r := 5) rfl rfl rfl (fun _ => rfl) rfl rfl rfl rfl | exact sfLeft (r := 3) rfl rfl (by decide) | exact ksLeft (r := 5) rfl rfl | exact sfSect (r := 3) rfl rfl (by decide) | exact ksSect (r := 5) rfl rfl | exact sameInts_h (l1 := []) (l2 := []) (SlR.own rfl) SlR.nil (by decide) | rfl | decide | refine And.intro ?_ ?_))) ?_
    refine Done.fold [(0, 1), (1, 2), (2, 3), (3, 4), (4, 5), (5, 6), (6, 7), (7, 8), (8, 9), (9, 10), (10, 11), (11, 12)] (sideO ⟨b, bs, bd, br, bk, bc, bx⟩ S) (.p 0 0) (by repeat' (first | exact trivial | exact rfl | refine And.intro ?_ ?_)) rfl rfl (fun _ => rfl) ?_
    exact retM tysOk [(0, 15)] rfl (by repeat' (first | exact trivial | exact rfl | refine And.intro ?_ ?_)) (by repeat' (first | exact trivial | exact rfl | refine And.intro ?_ ?_)) rfl rfl
end
end Cw
namespace Cw
open Go Vc
open Go.Proofs
set_option maxRecDepth 100000
structure PAct where
  kind : Int
  node : Int
  ep : Int
  reg : Int
  text : ByteArray
def pac (a : PAct) : List Value := [.int .i64 a.kind, .int .i64 a.node, .int .i64 a.ep, .int .i64 a.reg, .string a.text]
def pacells (l : List PAct) : List Value := fcs pac l
theorem pacells_len (l : List PAct) : (pacells l).length = l.length * 5 := fcs_length (f := pac) (c := 5) (fun _ => rfl) l
theorem pacells_rd {l : List PAct} {i : Nat} (h : i < l.length) : Vc.rowAt (pacells l) ((i : Int).toNat * 5) [iT l[i].kind, iT l[i].node, iT l[i].ep, iT l[i].reg, .s l[i].text] :=
  have g := fun (j : Nat) (u : Value) (hu : (pac l[i])[j]? = some u) => fcs_at (f := pac) (c := 5) (fun _ => rfl) h hu
  ⟨g 0 _ rfl, g 1 _ rfl, g 2 _ rfl, g 3 _ rfl, g 4 _ rfl, trivial⟩
theorem emodP (x : Int) {n : Nat} (h : 0 < n) : ∃ a : Nat, a < n ∧ x % (n : Int) = (a : Int) := by
  have h1 := Int.emod_nonneg x (show (n : Int) ≠ 0 by omega)
  have h2 := Int.emod_lt_of_pos x (show (0 : Int) < (n : Int) by omega)
  exact ⟨(x % (n : Int)).toNat, by omega, by omega⟩
section
variable {n : Nat} {S : List ByteArray} {W : List (Int × Wr)} {last : Int}
theorem DOk.cl (h : DOk n S W last) (a bb c node ep r : Int) : DOk n (clS S a bb c node ep r) W last := by
  unfold clS
  split
  · exact h
  · split
    · exact h
    · split
      · exact h
      · exact h.tn ..
theorem DOk.aw (h : DOk n S W last) (a bb c node ep r o : Int) : DOk n (awS S a bb c node ep r o) W last := by
  unfold awS
  split
  · exact h
  · split
    · exact h
    · exact h.tn ..
theorem DOk.sz2 (a bb c node ep : Int) (L : List Ls) : ∀ (rs : List Int) {S : List ByteArray}, DOk n S W last → DOk n (szR a bb c node ep L rs S).2 W last
  | [], S, h => h
  | r :: rs, S, h => by
    rw [szR]
    split
    · exact h.tn ..
    · exact DOk.sz2 a bb c node ep L rs (h.tn ..)
end
section
variable {H : HL} {nx x n : Nat} {N : SdN} {S : List ByteArray}
set_option maxRecDepth 100000 in
set_option maxHeartbeats 16000000 in
theorem pstep_h (hx : lookH H x = some (true, .ab (sideP N S))) (hD : DOk n S [] 0) (hn : n ≤ 100) (a bb c : Int) (y : PAct) (ht : y.text.size ≤ maxLen) :
    FnH Tryz.prog 8 [.c (.nm x), geoT a bb c, .agg [iT y.kind, iT y.node, iT y.ep, iT y.reg, .s y.text]] H nx ⟨.t (.c (.b true)), [], [(x, some (.ab (sideY N n)))], []⟩ := by
  refine fnA (fn := Tryz.f8) 211 rfl rfl rfl hx (ptr N.bx) (side_pins _ _) (sideY_pins _ _) rfl rfl rfl (v' := .t (.c (.b true))) (news' := []) rfl rfl rfl rfl fun w Wr => ?_
  obtain ⟨b, bs, bd, br, bk, bc, bx⟩ := N
  have am7 := among0 y.kind 7 (by decide) (by decide)
  obtain ⟨kd, hkd, hke⟩ := emodP y.kind (n := 7) (by decide)
  rw [show ((7 : Nat) : Int) = 7 from rfl] at hke
  rw [hke] at am7
  clear hke
  obtain ⟨yk, yn, ye, yr, yt⟩ := y
  simp only at ht am7 ⊢
  have hl := hD.len
  refine At.unfoldTo 0 (L1 := (0, .t (.c (.p 1 0))) :: [(1, .t (geoT a bb c)), (2, .t (.agg [iT yk, iT yn, iT ye, iT yr, .s yt]))]) (H1 := [(1, some (true, .cells [.p 6 0, .p 7 0, .p 8 0, .p 9 0] 43)), (2, some (true, .ab (dP S [] 0 b))), (3, some (true, .ab (sfB [] [] 0 bs bd b))), (4, some (true, .ab (rdP S [] 0 br))), (5, some (true, .ab (kP bk bc br))), (6, some (false, .pin 6 b)), (7, some (false, .pin 7 bs)), (8, some (false, .pin 8 br)), (9, some (false, .pin 9 bk)), (10, some (false, .pin 10 bd)), (11, some (false, .pin 11 bc)), (12, some (false, .pin 1 bx)), (0, none), (0, some (true, .ab (sideP ⟨b, bs, bd, br, bk, bc, bx⟩ S)))]) (nx1 := 13) rfl rfl rfl rfl rfl rfl ?_
  rcases kd with _ | _ | _ | _ | _ | _ | _ | kd
  · -- claimed
    have hP := fun (H : HL) (nx : Nat) (h : lookH H 2 = some (true, .ab (dP S [] 0 b))) => claim_h (nx := nx) (a := a) (bb := bb) (c := c) h hD yn ye yr
    have hR := fun (H : HL) (nx : Nat) (h : lookH H 4 = some (true, .ab (rdP S [] 0 br))) => rclaim_h (nx := nx) (a := a) (bb := bb) (c := c) h hD yn ye yr
    have hD' := hD.cl a bb c yn ye yr
    generalize clE S a bb c yn ye yr = e at *
    generalize clS S a bb c yn ye yr = S' at *
    have x1 : (e == e) = true := beq_self_eq_true _
    refine rn [(18, .ret (.t (.c (iT ((0 : Nat) : Int))))), (19, .dec true), (32, .spec ⟨.t (.c (iT e)), [], [(2, some (.ab (dP S' [] 0 b)))], []⟩), (44, .spec ⟨.t (.c (iT e)), [], [(4, some (.ab (rdP S' [] 0 br)))], []⟩), (30032, .dec true), (30044, .dec true)] rfl (by (repeat' (first | exact trivial | exact rfl | exact trivial | exact fun _ => trivial | first | exact am7 | exact fnh_al1 (d := 2) rfl (disk_pins _ _ _ _) rfl (hP _ _ rfl) | exact fnh_al1 (d := 4) rfl (rd_pins _ _ _ _) rfl (hR _ _ rfl) | exact x1 | rfl | decide | refine And.intro ?_ ?_))) ?_
    refine Done.fold [(0, 1), (1, 2), (2, 3), (3, 4), (4, 5), (5, 6), (6, 7), (7, 8), (8, 9), (9, 10), (10, 11), (11, 12)] (sideO ⟨b, bs, bd, br, bk, bc, bx⟩ S') (.p 0 0) (by repeat' (first | exact trivial | exact rfl | refine And.intro ?_ ?_)) rfl rfl (fun _ => rfl) ?_
    refine Done.weak 15 (φ' := sideY ⟨b, bs, bd, br, bk, bc, bx⟩ n) rfl (sideY_st _ _) (fun v F w h => ⟨⟨_, hD'⟩, h⟩) ?_
    exact retM tysOk [(0, 15)] rfl (by (repeat' (first | exact trivial | exact rfl | exact x1 | exact fun _ => x1 | exact x1 | refine And.intro ?_ ?_))) (by repeat' (first | exact trivial | exact rfl | refine And.intro ?_ ?_)) rfl rfl
  · -- passed
    have hP := fun (H : HL) (nx : Nat) (h : lookH H 2 = some (true, .ab (dP S [] 0 b))) => pass_h (nx := nx) (a := a) (bb := bb) (c := c) h hD yn ye yr
    have hR := fun (H : HL) (nx : Nat) (h : lookH H 4 = some (true, .ab (rdP S [] 0 br))) => rpass_h (nx := nx) (a := a) (bb := bb) (c := c) h hD yn ye yr
    have hD' := hD.aw a bb c yn ye yr (oth yn)
    generalize awE S a bb c yn ye yr (oth yn) = e at *
    generalize awS S a bb c yn ye yr (oth yn) = S' at *
    have x1 : (e == e) = true := beq_self_eq_true _
    refine rn [(18, .ret (.t (.c (iT ((1 : Nat) : Int))))), (19, .dec false), (46, .dec true), (59, .spec ⟨.t (.c (iT e)), [], [(2, some (.ab (dP S' [] 0 b)))], []⟩), (71, .spec ⟨.t (.c (iT e)), [], [(4, some (.ab (rdP S' [] 0 br)))], []⟩), (30059, .dec true), (30071, .dec true)] rfl (by (repeat' (first | exact trivial | exact rfl | exact trivial | exact fun _ => trivial | first | exact am7 | exact fnh_al1 (d := 2) rfl (disk_pins _ _ _ _) rfl (hP _ _ rfl) | exact fnh_al1 (d := 4) rfl (rd_pins _ _ _ _) rfl (hR _ _ rfl) | exact x1 | rfl | decide | refine And.intro ?_ ?_))) ?_
    refine Done.fold [(0, 1), (1, 2), (2, 3), (3, 4), (4, 5), (5, 6), (6, 7), (7, 8), (8, 9), (9, 10), (10, 11), (11, 12)] (sideO ⟨b, bs, bd, br, bk, bc, bx⟩ S') (.p 0 0) (by repeat' (first | exact trivial | exact rfl | refine And.intro ?_ ?_)) rfl rfl (fun _ => rfl) ?_
    refine Done.weak 15 (φ' := sideY ⟨b, bs, bd, br, bk, bc, bx⟩ n) rfl (sideY_st _ _) (fun v F w h => ⟨⟨_, hD'⟩, h⟩) ?_
    exact retM tysOk [(0, 15)] rfl (by (repeat' (first | exact trivial | exact rfl | exact x1 | exact fun _ => x1 | exact x1 | refine And.intro ?_ ?_))) (by repeat' (first | exact trivial | exact rfl | refine And.intro ?_ ?_)) rfl rfl
  · -- seized
    by_cases he : snE S a bb c yn = 0
    · obtain ⟨⟨e, S'⟩, hs⟩ : ∃ r, szR a bb c yn ye (tbL S a bb c) (hdL S a bb c (2 - yn)) S = r := ⟨_, rfl⟩
      have hD' := hD.sz2 a bb c yn ye (tbL S a bb c) (hdL S a bb c (2 - yn))
      rw [hs] at hD'
      simp only at hD'
      by_cases h0 : e = 0
      · subst h0
        have hol : (hdL S a bb c (2 - yn)).length ≤ 100000000000000 := by
          have h1 := held_le (tbL S a bb c) (2 - yn) (tbL S a bb c).length
          have h2 := tbL_le S a bb c
          have h3 : (hdL S a bb c (2 - yn)).length = (held (tbL S a bb c) (2 - yn) (tbL S a bb c).length).length := rfl
          omega
        have hP := fun (H : HL) (nx : Nat) (h : lookH H 2 = some (true, .ab (dP S [] 0 b))) => seizeO (nx := nx) (a := a) (bb := bb) (c := c) h hD yn ye he hs
        have hR := fun (H : HL) (nx : Nat) (h : lookH H 4 = some (true, .ab (rdP S [] 0 br))) => rseizeO (nx := nx) (a := a) (bb := bb) (c := c) h hD yn ye he hs
        generalize hdL S a bb c (2 - yn) = out at *
        have x1 : ((0 : Int) == 0) = true := rfl
        refine rn [(18, .ret (.t (.c (iT ((2 : Nat) : Int))))), (19, .dec false), (46, .dec false), (73, .dec true), (85, .spec ⟨.tup [.c (.nm 15), .c (iT 0)], [(true, .own 3 1 out.length (ivs out))], [(2, some (.ab (dP S' [] 0 b)))], []⟩), (98, .spec ⟨.tup [.c (.nm 16), .c (iT 0)], [(true, .own 3 1 out.length (ivs out))], [(4, some (.ab (rdP S' [] 0 br)))], []⟩), (103, .spec ⟨.t (.c (.b true)), [], [], []⟩), (104, .dec true), (30085, .dec true), (30098, .dec true)] rfl (by (repeat' (first | exact trivial | exact rfl | exact trivial | exact fun _ => trivial | first | exact am7 | exact fnh_al1 (d := 2) rfl (disk_pins _ _ _ _) rfl (hP _ _ rfl) | exact fnh_al1 (d := 4) rfl (rd_pins _ _ _ _) rfl (hR _ _ rfl) | exact sameInts_eq (SlR.own rfl) (SlR.own rfl) hol | exact x1 | rfl | decide | refine And.intro ?_ ?_))) ?_
        refine Done.fold [(0, 1), (1, 2), (2, 3), (3, 4), (4, 5), (5, 6), (6, 7), (7, 8), (8, 9), (9, 10), (10, 11), (11, 12)] (sideO ⟨b, bs, bd, br, bk, bc, bx⟩ S') (.p 0 0) (by repeat' (first | exact trivial | exact rfl | refine And.intro ?_ ?_)) rfl rfl (fun _ => rfl) ?_
        refine Done.weak 17 (φ' := sideY ⟨b, bs, bd, br, bk, bc, bx⟩ n) rfl (sideY_st _ _) (fun v F w h => ⟨⟨_, hD'⟩, h⟩) ?_
        exact retM tysOk [(0, 17)] rfl (by (repeat' (first | exact trivial | exact rfl | exact x1 | exact fun _ => x1 | exact x1 | refine And.intro ?_ ?_))) (by repeat' (first | exact trivial | exact rfl | refine And.intro ?_ ?_)) rfl rfl
      · have x1 : (e == e) = true := beq_self_eq_true _
        have hP := fun (H : HL) (nx : Nat) (h : lookH H 2 = some (true, .ab (dP S [] 0 b))) => seizeX (nx := nx) (a := a) (bb := bb) (c := c) h hD yn ye he hs h0
        have hR := fun (H : HL) (nx : Nat) (h : lookH H 4 = some (true, .ab (rdP S [] 0 br))) => rseizeX (nx := nx) (a := a) (bb := bb) (c := c) h hD yn ye he hs h0
        refine rn [(18, .ret (.t (.c (iT ((2 : Nat) : Int))))), (19, .dec false), (46, .dec false), (73, .dec true), (85, .spec ⟨.tup [.c .nsl, .c (iT e)], [], [(2, some (.ab (dP S' [] 0 b)))], []⟩), (98, .spec ⟨.tup [.c .nsl, .c (iT e)], [], [(4, some (.ab (rdP S' [] 0 br)))], []⟩), (103, .spec ⟨.t (.c (.b true)), [], [], []⟩), (104, .dec true), (30085, .dec true), (30098, .dec true)] rfl (by (repeat' (first | exact trivial | exact rfl | exact trivial | exact fun _ => trivial | first | exact am7 | exact fnh_al1 (d := 2) rfl (disk_pins _ _ _ _) rfl (hP _ _ rfl) | exact fnh_al1 (d := 4) rfl (rd_pins _ _ _ _) rfl (hR _ _ rfl) | exact sameInts_eq (l := []) SlR.nil SlR.nil (by decide) | exact x1 | rfl | decide | refine And.intro ?_ ?_))) ?_
        refine Done.fold [(0, 1), (1, 2), (2, 3), (3, 4), (4, 5), (5, 6), (6, 7), (7, 8), (8, 9), (9, 10), (10, 11), (11, 12)] (sideO ⟨b, bs, bd, br, bk, bc, bx⟩ S') (.p 0 0) (by repeat' (first | exact trivial | exact rfl | refine And.intro ?_ ?_)) rfl rfl (fun _ => rfl) ?_
        refine Done.weak 15 (φ' := sideY ⟨b, bs, bd, br, bk, bc, bx⟩ n) rfl (sideY_st _ _) (fun v F w h => ⟨⟨_, hD'⟩, h⟩) ?_
        exact retM tysOk [(0, 15)] rfl (by (repeat' (first | exact trivial | exact rfl | exact x1 | exact fun _ => x1 | exact x1 | refine And.intro ?_ ?_))) (by repeat' (first | exact trivial | exact rfl | refine And.intro ?_ ?_)) rfl rfl
    · have hD' := hD
      obtain ⟨e, hee⟩ : ∃ e, snE S a bb c yn = e := ⟨_, rfl⟩
      rw [hee] at he
      have hP := fun (H : HL) (nx : Nat) (h : lookH H 2 = some (true, .ab (dP S [] 0 b))) => seizeE (nx := nx) (a := a) (bb := bb) (c := c) h hD yn ye hee he
      have hR := fun (H : HL) (nx : Nat) (h : lookH H 4 = some (true, .ab (rdP S [] 0 br))) => rseizeE (nx := nx) (a := a) (bb := bb) (c := c) h hD yn ye hee he
      have x1 : (e == e) = true := beq_self_eq_true _
      refine rn [(18, .ret (.t (.c (iT ((2 : Nat) : Int))))), (19, .dec false), (46, .dec false), (73, .dec true), (85, .spec ⟨.tup [.c .nsl, .c (iT e)], [], [(2, some (.ab (dP S [] 0 b)))], []⟩), (98, .spec ⟨.tup [.c .nsl, .c (iT e)], [], [(4, some (.ab (rdP S [] 0 br)))], []⟩), (103, .spec ⟨.t (.c (.b true)), [], [], []⟩), (104, .dec true), (30085, .dec true), (30098, .dec true)] rfl (by (repeat' (first | exact trivial | exact rfl | exact trivial | exact fun _ => trivial | first | exact am7 | exact fnh_al1 (d := 2) rfl (disk_pins _ _ _ _) rfl (hP _ _ rfl) | exact fnh_al1 (d := 4) rfl (rd_pins _ _ _ _) rfl (hR _ _ rfl) | exact sameInts_eq (l := []) SlR.nil SlR.nil (by decide) | exact x1 | rfl | decide | refine And.intro ?_ ?_))) ?_
      refine Done.fold [(0, 1), (1, 2), (2, 3), (3, 4), (4, 5), (5, 6), (6, 7), (7, 8), (8, 9), (9, 10), (10, 11), (11, 12)] (sideO ⟨b, bs, bd, br, bk, bc, bx⟩ S) (.p 0 0) (by repeat' (first | exact trivial | exact rfl | refine And.intro ?_ ?_)) rfl rfl (fun _ => rfl) ?_
      refine Done.weak 15 (φ' := sideY ⟨b, bs, bd, br, bk, bc, bx⟩ n) rfl (sideY_st _ _) (fun v F w h => ⟨⟨_, hD'⟩, h⟩) ?_
      exact retM tysOk [(0, 15)] rfl (by (repeat' (first | exact trivial | exact rfl | exact x1 | exact fun _ => x1 | exact x1 | refine And.intro ?_ ?_))) (by repeat' (first | exact trivial | exact rfl | refine And.intro ?_ ?_)) rfl rfl
  · -- raised
    have hP := fun (H : HL) (nx : Nat) (h : lookH H 2 = some (true, .ab (dP S [] 0 b))) => raiseD (nx := nx) h hD yn ye
    have hR := fun (H : HL) (nx : Nat) (h : lookH H 4 = some (true, .ab (rdP S [] 0 br))) => rraiseA (nx := nx) h (by have := hD.two; omega) hD.sz yn ye
    have hD' := hD.rs yn ye
    generalize rsE S yn ye = e at *
    generalize rsS S yn ye = S' at *
    have x1 : (e == e) = true := beq_self_eq_true _
    refine rn [(18, .ret (.t (.c (iT ((3 : Nat) : Int))))), (19, .dec false), (46, .dec false), (73, .dec false), (109, .dec true), (119, .spec ⟨.t (.c (iT e)), [], [(2, some (.ab (dP S' [] 0 b)))], []⟩), (128, .spec ⟨.t (.c (iT e)), [], [(4, some (.ab (rdP S' [] 0 br)))], []⟩), (30119, .dec true), (30128, .dec true)] rfl (by (repeat' (first | exact trivial | exact rfl | exact trivial | exact fun _ => trivial | first | exact am7 | exact fnh_al1 (d := 2) rfl (disk_pins _ _ _ _) rfl (hP _ _ rfl) | exact fnh_al1 (d := 4) rfl (rd_pins _ _ _ _) rfl (hR _ _ rfl) | exact x1 | rfl | decide | refine And.intro ?_ ?_))) ?_
    refine Done.fold [(0, 1), (1, 2), (2, 3), (3, 4), (4, 5), (5, 6), (6, 7), (7, 8), (8, 9), (9, 10), (10, 11), (11, 12)] (sideO ⟨b, bs, bd, br, bk, bc, bx⟩ S') (.p 0 0) (by repeat' (first | exact trivial | exact rfl | refine And.intro ?_ ?_)) rfl rfl (fun _ => rfl) ?_
    refine Done.weak 15 (φ' := sideY ⟨b, bs, bd, br, bk, bc, bx⟩ n) rfl (sideY_st _ _) (fun v F w h => ⟨⟨_, hD'⟩, h⟩) ?_
    exact retM tysOk [(0, 15)] rfl (by (repeat' (first | exact trivial | exact rfl | exact x1 | exact fun _ => x1 | exact x1 | refine And.intro ?_ ?_))) (by repeat' (first | exact trivial | exact rfl | refine And.intro ?_ ?_)) rfl rfl
  · -- held
    have hD' := hD
    by_cases he : snE S a bb c yn = 0
    · have hol : (hdL S a bb c (yn + 1)).length ≤ 100000000000000 := by
        have h1 := held_le (tbL S a bb c) (yn + 1) (tbL S a bb c).length
        have h2 := tbL_le S a bb c
        have h3 : (hdL S a bb c (yn + 1)).length = (held (tbL S a bb c) (yn + 1) (tbL S a bb c).length).length := rfl
        omega
      have hP := fun (H : HL) (nx : Nat) (h : lookH H 2 = some (true, .ab (dP S [] 0 b))) => lheldO (nx := nx) (a := a) (bb := bb) (c := c) h hD he
      have hR := fun (H : HL) (nx : Nat) (h : lookH H 4 = some (true, .ab (rdP S [] 0 br))) => rlheldO (nx := nx) (a := a) (bb := bb) (c := c) h hD he
      generalize hdL S a bb c (yn + 1) = out at *
      have x1 : ((0 : Int) == 0) = true := rfl
      refine rn [(18, .ret (.t (.c (iT ((4 : Nat) : Int))))), (19, .dec false), (46, .dec false), (73, .dec false), (109, .dec false), (130, .dec true), (140, .spec ⟨.tup [.c (.nm 15), .c (iT 0)], [(true, .own 3 1 out.length (ivs out))], [(2, some (.ab (dP S [] 0 b)))], []⟩), (151, .spec ⟨.tup [.c (.nm 16), .c (iT 0)], [(true, .own 3 1 out.length (ivs out))], [(4, some (.ab (rdP S [] 0 br)))], []⟩), (156, .spec ⟨.t (.c (.b true)), [], [], []⟩), (157, .dec true), (30140, .dec true), (30151, .dec true)] rfl (by (repeat' (first | exact trivial | exact rfl | exact trivial | exact fun _ => trivial | first | exact am7 | exact fnh_al1 (d := 2) rfl (disk_pins _ _ _ _) rfl (hP _ _ rfl) | exact fnh_al1 (d := 4) rfl (rd_pins _ _ _ _) rfl (hR _ _ rfl) | exact sameInts_eq (SlR.own rfl) (SlR.own rfl) hol | exact x1 | rfl | decide | refine And.intro ?_ ?_))) ?_
      refine Done.fold [(0, 1), (1, 2), (2, 3), (3, 4), (4, 5), (5, 6), (6, 7), (7, 8), (8, 9), (9, 10), (10, 11), (11, 12)] (sideO ⟨b, bs, bd, br, bk, bc, bx⟩ S) (.p 0 0) (by repeat' (first | exact trivial | exact rfl | refine And.intro ?_ ?_)) rfl rfl (fun _ => rfl) ?_
      refine Done.weak 17 (φ' := sideY ⟨b, bs, bd, br, bk, bc, bx⟩ n) rfl (sideY_st _ _) (fun v F w h => ⟨⟨_, hD'⟩, h⟩) ?_
      exact retM tysOk [(0, 17)] rfl (by (repeat' (first | exact trivial | exact rfl | exact x1 | exact fun _ => x1 | exact x1 | refine And.intro ?_ ?_))) (by repeat' (first | exact trivial | exact rfl | refine And.intro ?_ ?_)) rfl rfl
    · obtain ⟨e, hee⟩ : ∃ e, snE S a bb c yn = e := ⟨_, rfl⟩
      rw [hee] at he
      have hP := fun (H : HL) (nx : Nat) (h : lookH H 2 = some (true, .ab (dP S [] 0 b))) => lheldE (nx := nx) (a := a) (bb := bb) (c := c) h hD hee he
      have hR := fun (H : HL) (nx : Nat) (h : lookH H 4 = some (true, .ab (rdP S [] 0 br))) => rlheldE (nx := nx) (a := a) (bb := bb) (c := c) h hD hee he
      have x1 : (e == e) = true := beq_self_eq_true _
      refine rn [(18, .ret (.t (.c (iT ((4 : Nat) : Int))))), (19, .dec false), (46, .dec false), (73, .dec false), (109, .dec false), (130, .dec true), (140, .spec ⟨.tup [.c .nsl, .c (iT e)], [], [(2, some (.ab (dP S [] 0 b)))], []⟩), (151, .spec ⟨.tup [.c .nsl, .c (iT e)], [], [(4, some (.ab (rdP S [] 0 br)))], []⟩), (156, .spec ⟨.t (.c (.b true)), [], [], []⟩), (157, .dec true), (30140, .dec true), (30151, .dec true)] rfl (by (repeat' (first | exact trivial | exact rfl | exact trivial | exact fun _ => trivial | first | exact am7 | exact fnh_al1 (d := 2) rfl (disk_pins _ _ _ _) rfl (hP _ _ rfl) | exact fnh_al1 (d := 4) rfl (rd_pins _ _ _ _) rfl (hR _ _ rfl) | exact sameInts_eq (l := []) SlR.nil SlR.nil (by decide) | exact x1 | rfl | decide | refine And.intro ?_ ?_))) ?_
      refine Done.fold [(0, 1), (1, 2), (2, 3), (3, 4), (4, 5), (5, 6), (6, 7), (7, 8), (8, 9), (9, 10), (10, 11), (11, 12)] (sideO ⟨b, bs, bd, br, bk, bc, bx⟩ S) (.p 0 0) (by repeat' (first | exact trivial | exact rfl | refine And.intro ?_ ?_)) rfl rfl (fun _ => rfl) ?_
      refine Done.weak 15 (φ' := sideY ⟨b, bs, bd, br, bk, bc, bx⟩ n) rfl (sideY_st _ _) (fun v F w h => ⟨⟨_, hD'⟩, h⟩) ?_
      exact retM tysOk [(0, 15)] rfl (by (repeat' (first | exact trivial | exact rfl | exact x1 | exact fun _ => x1 | exact x1 | refine And.intro ?_ ?_))) (by repeat' (first | exact trivial | exact rfl | refine And.intro ?_ ?_)) rfl rfl
  · -- a text is laid
    have hft := fit0 yt ht
    generalize fit yt = t at *
    have hP := fun (H : HL) (nx : Nat) (h : lookH H 2 = some (true, .ab (dP S [] 0 b))) => layA (nx := nx) h yr t
    have hR := fun (H : HL) (nx : Nat) (h : lookH H 4 = some (true, .ab (rdP S [] 0 br))) => rlayA (nx := nx) h yr t
    have hD' := hD.lay yr t
    generalize wrE S.length yr t = e at *
    generalize layS S yr t = S' at *
    have x1 : (e == e) = true := beq_self_eq_true _
    refine rn [(18, .ret (.t (.c (iT ((5 : Nat) : Int))))), (19, .dec false), (46, .dec false), (73, .dec false), (109, .dec false), (130, .dec false), (164, .ret (.t (.c (iT ((5 : Nat) : Int))))), (165, .dec false), (193, .ret (.t (.c (.s t)))), (201, .spec ⟨.t (.c (iT e)), [], [(2, some (.ab (dP S' [] 0 b)))], []⟩), (209, .spec ⟨.t (.c (iT e)), [], [(4, some (.ab (rdP S' [] 0 br)))], []⟩), (30201, .dec true), (30209, .dec true)] rfl (by (repeat' (first | exact trivial | exact rfl | exact trivial | exact fun _ => trivial | first | exact am7 | exact fnh_al1 (d := 2) rfl (disk_pins _ _ _ _) rfl (hP _ _ rfl) | exact fnh_al1 (d := 4) rfl (rd_pins _ _ _ _) rfl (hR _ _ rfl) | exact hft | exact x1 | rfl | decide | refine And.intro ?_ ?_))) ?_
    refine Done.fold [(0, 1), (1, 2), (2, 3), (3, 4), (4, 5), (5, 6), (6, 7), (7, 8), (8, 9), (9, 10), (10, 11), (11, 12)] (sideO ⟨b, bs, bd, br, bk, bc, bx⟩ S') (.p 0 0) (by repeat' (first | exact trivial | exact rfl | refine And.intro ?_ ?_)) rfl rfl (fun _ => rfl) ?_
    refine Done.weak 15 (φ' := sideY ⟨b, bs, bd, br, bk, bc, bx⟩ n) rfl (sideY_st _ _) (fun v F w h => ⟨⟨_, hD'⟩, h⟩) ?_
    exact retM tysOk [(0, 15)] rfl (by (repeat' (first | exact trivial | exact rfl | exact x1 | exact fun _ => x1 | exact x1 | refine And.intro ?_ ?_))) (by repeat' (first | exact trivial | exact rfl | refine And.intro ?_ ?_)) rfl rfl
  · -- let go
    have hP := fun (H : HL) (nx : Nat) (h : lookH H 2 = some (true, .ab (dP S [] 0 b))) => lfree_h (nx := nx) (a := a) (bb := bb) (c := c) h hD yn ye yr
    have hR := fun (H : HL) (nx : Nat) (h : lookH H 4 = some (true, .ab (rdP S [] 0 br))) => rfree_h (nx := nx) (a := a) (bb := bb) (c := c) h hD yn ye yr
    have hD' := hD.aw a bb c yn ye yr 0
    generalize awE S a bb c yn ye yr 0 = e at *
    generalize awS S a bb c yn ye yr 0 = S' at *
    have x1 : (e == e) = true := beq_self_eq_true _
    refine rn [(18, .ret (.t (.c (iT ((6 : Nat) : Int))))), (19, .dec false), (46, .dec false), (73, .dec false), (109, .dec false), (130, .dec false), (164, .ret (.t (.c (iT ((6 : Nat) : Int))))), (165, .dec true), (177, .spec ⟨.t (.c (iT e)), [], [(2, some (.ab (dP S' [] 0 b)))], []⟩), (189, .spec ⟨.t (.c (iT e)), [], [(4, some (.ab (rdP S' [] 0 br)))], []⟩), (30177, .dec true), (30189, .dec true)] rfl (by (repeat' (first | exact trivial | exact rfl | exact trivial | exact fun _ => trivial | first | exact am7 | exact fnh_al1 (d := 2) rfl (disk_pins _ _ _ _) rfl (hP _ _ rfl) | exact fnh_al1 (d := 4) rfl (rd_pins _ _ _ _) rfl (hR _ _ rfl) |  exact x1 | rfl | decide | refine And.intro ?_ ?_))) ?_
    refine Done.fold [(0, 1), (1, 2), (2, 3), (3, 4), (4, 5), (5, 6), (6, 7), (7, 8), (8, 9), (9, 10), (10, 11), (11, 12)] (sideO ⟨b, bs, bd, br, bk, bc, bx⟩ S') (.p 0 0) (by repeat' (first | exact trivial | exact rfl | refine And.intro ?_ ?_)) rfl rfl (fun _ => rfl) ?_
    refine Done.weak 15 (φ' := sideY ⟨b, bs, bd, br, bk, bc, bx⟩ n) rfl (sideY_st _ _) (fun v F w h => ⟨⟨_, hD'⟩, h⟩) ?_
    exact retM tysOk [(0, 15)] rfl (by (repeat' (first | exact trivial | exact rfl | exact x1 | exact fun _ => x1 | exact x1 | refine And.intro ?_ ?_))) (by repeat' (first | exact trivial | exact rfl | refine And.intro ?_ ?_)) rfl rfl
  · omega
end
end Cw
namespace Cw
open Go Vc
open Go.Proofs
set_option maxRecDepth 100000
set_option maxRecDepth 100000 in
set_option maxHeartbeats 16000000 in
theorem beside_h {v : TV} {l : List ByteArray} {H : HL} {nx : Nat} (hs : SlR H v l.length 1 (svs l)) (h2 : 2 ≤ l.length) (hn : l.length ≤ 100) (hz : ∀ s ∈ l, s.size ≤ maxLen) :
    FnH Tryz.prog 7 [.c (iT (l.length : Nat)), v] H nx ⟨.t (.c (.nm nx)), [(true, .ab (sideX l.length))], [], []⟩ := by
  refine fnM (fn := Tryz.f7) 94 rfl rfl rfl (args' := [.c (iT (l.length : Nat)), .c (.nm 0)]) (H' := [(0, some (false, .rd 1 l.length (svs l)))]) (nx' := 1) [] (fun e w M => ?_) rfl rfl rfl (fun e w M u hu => by cases hu) (fun u hu => by cases hu) (by simp) (v' := .t (.c (.nm 0))) (news' := [(true, .ab (sideX l.length))]) rfl rfl rfl rfl rfl fun w Wr => ?_
  · obtain ⟨e', M', q1⟩ := slr1 hs e w M
    have hp : (fun g => ∃ u ∈ ([] : List (Nat × AbP)), e.fp u.1 g) = fun _ => False := by funext g; simp
    rw [hp]
    exact ⟨e', M', by simp [q1]; rfl⟩
  obtain ⟨n, hln⟩ : ∃ n, l.length = n := ⟨_, rfl⟩
  rw [hln]
  have hnd := fun (H : HL) (nx : Nat) => newA (H := H) (nx := nx) (n := n) (by omega) (by omega)
  have hnr := fun (H : HL) (nx : Nat) => rnewA (H := H) (nx := nx) (n := n) (by omega) (by omega)
  refine rn [(14, .spec ⟨.tup [.c (.nm 1), .c (iT 0)], [(true, .ab (dX (S0 n) [] 0))], [], []⟩), (19, .spec ⟨.tup [.c (.nm 2), .c (iT 0)], [(true, .ab (rdX (S0 n) [] 0))], [], []⟩), (24, .dec false), (28, .dec false), (30, .spec ⟨.t (.c (.b false)), [], [], []⟩), (32, .dec false), (34, .spec ⟨.t (.c (.b false)), [], [], []⟩), (35, .dec false)] rfl
    (by (repeat' (first | exact trivial | exact rfl | exact trivial | exact fun _ => trivial | first | exact hnd _ _ | exact hnr _ _ | exact nilD rfl rfl rfl rfl | exact spec_nil tysOk rfl rfl rfl rfl rfl rfl (rdX_nn _ _ _) | rfl | decide | refine And.intro ?_ ?_))) ?_
  refine At.ex (φ := dP (S0 n) [] 0) 1 rfl (dP_st _ _ _) fun b => ?_
  refine At.ex (φ := rdP (S0 n) [] 0) 2 rfl (rd_st _ _ _) fun br => ?_
  refine At.loop (X := (i : Nat) ×' (S : List ByteArray) ×' (i ≤ n ∧ DOk n S [] 0)) 3 (fun x => n - x.1)
    (fun x => [(0, .t (.c (iT (n : Nat)))), (1, .t (.c (.nm 0))), (5, .t (.c (.nm 1))), (7, .t (.c (.nm 2))), (9, .t (.c (iT (x.1 : Nat))))])
    (fun x => [(0, some (false, .rd 1 n (svs l))), (1, some (true, .ab (dP x.2.1 [] 0 b))), (2, some (true, .ab (rdP x.2.1 [] 0 br)))]) ⟨0, S0 n, by omega, DOk.new (by omega)⟩ [] (fun x => wf rfl rfl) (by repeat' (first | exact trivial | exact rfl | refine And.intro ?_ ?_)) (by repeat' (first | exact trivial | exact rfl | refine And.intro ?_ ?_)) rfl fun x => ?_
  obtain ⟨i, S, hi, hD⟩ := x
  have w3 : IntKind.i64.wrap ((i : Int) + 1) = ((i + 1 : Nat) : Int) := by rw [wrap_sm (by omega) (by omega)]; omega
  cases hc : decide ((i : Int) < (n : Nat)) && decide ((i : Int) < (n : Nat)) with
  | true =>
    have hlt : i < n := by have := of_decide_eq_true (Bool.and_eq_true_iff.1 hc).1; omega
    have hll : i < l.length := by omega
    have e1 : (svs l)[(i : Int).toNat * 1]? = some (.string l[i]) := by rw [Int.toNat_natCast, Nat.mul_one]; exact svs_at hll
    have b0 : (0 : Int) ≤ (i : Int) := by omega
    have b1 : (i : Int) < (n : Int) := by omega
    have hft := fit0 l[i] (by have := hz _ (List.getElem_mem hll); simpa [maxLen] using this)
    have h64 : (fit l[i]).size = 64 := fit_size _
    generalize l[i] = s at *
    generalize fit s = t at *
    have hSl := hD.len
    have hw : wrE S.length (i : Nat) t = 0 := by
      rw [wrE, if_pos (inS_iff.2 (by omega)), if_pos h64]
    have hP := fun (H : HL) (nx : Nat) (h : lookH H 1 = some (true, .ab (dP S [] 0 b))) => layA (nx := nx) h (i : Nat) t
    have hR := fun (H : HL) (nx : Nat) (h : lookH H 2 = some (true, .ab (rdP S [] 0 br))) => rlayA (nx := nx) h (i : Nat) t
    have hD' := hD.lay (i : Nat) t
    rw [hw] at hP hR
    generalize layS S (i : Nat) t = S' at *
    refine rn [(44, .dec true), (52, .ld [.s s]), (53, .ret (.t (.c (.s t)))), (54, .spec ⟨.t (.c (iT 0)), [], [(1, some (.ab (dP S' [] 0 b)))], []⟩), (55, .dec false), (61, .ld [.s s]), (62, .ret (.t (.c (.s t)))), (63, .spec ⟨.t (.c (iT 0)), [], [(2, some (.ab (rdP S' [] 0 br)))], []⟩)] rfl
      (by (repeat' (first | exact trivial | exact rfl | exact trivial | exact fun _ => trivial | first | exact hc | exact e1 | exact ⟨e1, trivial⟩ | exact b0 | exact b1 | exact hft | exact hP _ _ rfl | exact hR _ _ rfl | rfl | decide | refine And.intro ?_ ?_))) ?_
    exact roundEnd ⟨i + 1, S', by omega, hD'⟩ [] (by show n - (i + 1) < n - i; omega) (by (repeat' (first | exact trivial | exact rfl | exact w3 | exact fun _ => w3 | refine And.intro ?_ ?_))) (by repeat' (first | exact trivial | exact rfl | refine And.intro ?_ ?_)) rfl
  | false =>
    refine rn [(44, .dec false)] rfl (by (repeat' (first | exact trivial | exact rfl | exact trivial | exact fun _ => trivial | exact hc | refine And.intro ?_ ?_))) (roundExit rfl ?_)
    obtain ⟨z, hzf⟩ : ∃ z : Bool, z = false := ⟨_, rfl⟩
    have hsn := fun (H : HL) (nx : Nat) (h : lookH H 1 = some (true, .ab (dP S [] 0 b))) => softNewG (nx := nx) (node := 0) h (.inl rfl)
    have hkn := fun (H : HL) (nx : Nat) (h : lookH H 2 = some (true, .ab (rdP S [] 0 br))) => ksNew (nx := nx) h
    refine rnA [(66, .spec ⟨.tup [.c (.nm 3), .c (iT 0)], [(true, .ab (sfX 0 b))], [(1, some (.ab (dP S [] 0 b)))], []⟩), (71, .spec ⟨.tup [.c (.nm 4), .c (iT 0)], [(true, .ab (kX br))], [(2, some (.ab (rdP S [] 0 br)))], []⟩), (76, .dec false), (80, .dec false), (82, .spec ⟨.t (.c (.b false)), [], [], []⟩), (84, .dec false), (86, .spec ⟨.t (.c (.b z)), [], [], []⟩)] rfl
      (by (repeat' (first | exact trivial | exact rfl | exact trivial | exact fun _ => trivial | first | exact hsn _ _ rfl | exact hkn _ _ rfl | exact nilSf rfl rfl rfl rfl | (rw [hzf]; exact nilKx rfl rfl rfl rfl) | rfl | decide | refine And.intro ?_ ?_))) ?_
    refine ⟨fun h => ?_, fun _ => ?_⟩
    · exact absurd (show z = true from h) (by rw [hzf]; decide)
    · refine At.ex (φ := fun p : Nat × Nat => sfB [] [] 0 p.1 p.2 b) 3 rfl (fun _ => sfB_st _ _ _ _ _ _) fun ⟨bs, bd⟩ => ?_
      refine At.ex (φ := fun p : Nat × Nat => kP p.1 p.2 br) 4 rfl (fun _ => absP_stable _ _) fun ⟨bk, bc⟩ => ?_
      refine At.num b ?_
      refine At.alias 5 1 5 rfl (disk_pins _ _ _ _) rfl rfl ?_
      refine At.num bs ?_
      refine At.alias 10 3 6 rfl (sfB_pins _ _ _ _ _ _) rfl rfl ?_
      refine At.num br ?_
      refine At.alias 7 2 7 rfl (rd_pins _ _ _ _) rfl rfl ?_
      refine At.num bk ?_
      refine At.alias 11 4 8 rfl (k_pins _ _ _) rfl rfl ?_
      refine At.num bd ?_
      refine At.num bc ?_
      refine rn [] rfl (by repeat' (first | exact trivial | exact rfl | refine And.intro ?_ ?_)) ?_
      refine Done.pin 11 rfl fun bx => ?_
      refine Done.foldR 4 (.p 11 0) [(0, 11), (1, 1), (2, 3), (3, 2), (4, 4), (5, 5), (6, 6), (7, 7), (8, 8), (9, 9), (10, 10), (11, 12)] (sideO ⟨b, bs, bd, br, bk, bc, bx⟩ S) (.p 0 0) rfl (by repeat' (first | exact trivial | exact rfl | refine And.intro ?_ ?_)) (by repeat' (first | exact trivial | exact rfl | refine And.intro ?_ ?_)) rfl rfl (fun _ => rfl) ?_
      refine Done.weak 13 (φ' := sideX n) rfl (exP_stable fun _ => sideY_st _ _) (fun v F w h => ⟨⟨b, bs, bd, br, bk, bc, bx⟩, ⟨S, hD⟩, h⟩) ?_
      exact retM tysOk [(0, 13)] rfl (by repeat' (first | exact trivial | exact rfl | refine And.intro ?_ ?_)) (by repeat' (first | exact trivial | exact rfl | refine And.intro ?_ ?_)) rfl rfl
end Cw
