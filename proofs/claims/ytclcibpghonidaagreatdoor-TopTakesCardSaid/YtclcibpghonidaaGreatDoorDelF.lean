/- slices.IndexFunc, slices.DeleteFunc of numbers, by reckoning: the function is told by a name. -/
import Derived.Test.YtclcibpghonidaaGreatDoorFnV
import Derived.Test.YtclcibpghonidaaGreatDoorVcFld
import Derived.Test.YtclcibpghonidaaGreatDoorSlV
namespace Cw
open Go Vc
open Go.Proofs
set_option maxRecDepth 100000
/-- A function of numbers. -/
def fnI (ok : Int → Prop) (pd : Int → Bool) : AbP := fnP Tryz.prog (fun x => Value.int .i64 x) ok pd
/-- The place of the first that is so. -/
def ixF (pd : Int → Bool) (xs : List Int) : Int := if xs.findIdx pd < xs.length then (xs.findIdx pd : Nat) else -1
def r2 (l f : Nat) (n : Nat) : Nat := if n = 0 then l else f
section
variable {H : HL} {nx l f : Nat} {b1 b2 : Bool} {xs : List Int} {ok : Int → Prop} {pd : Int → Bool}
theorem memF (hl : lookH H l = some (b1, .own 3 1 xs.length (ivs xs))) (hf : lookH H f = some (b2, .ab (fnI ok pd))) :
    rdsOk (r2 l f) H [(0, some (false, .own 3 1 xs.length (ivs xs))), (1, some (false, .ab (fnI ok pd)))] := ⟨⟨b1, hl⟩, ⟨b2, hf⟩, trivial⟩
set_option maxRecDepth 100000 in
set_option maxHeartbeats 1000000 in
theorem indexF_h (hl : lookH H l = some (b1, .own 3 1 xs.length (ivs xs))) (hf : lookH H f = some (b2, .ab (fnI ok pd))) (hok : ∀ x ∈ xs, ok x) (z : xs.length ≤ 100000000000000) :
    FnH Tryz.prog 74 [.c (.nm l), .c (.nm f)] H nx ⟨.t (.c (iT (ixF pd xs))), [], [], []⟩ := by
  refine fnR (fn := Tryz.f74) 19 rfl rfl rfl (args' := [.c (.nm 0), .c (.nm 1)]) (H' := [(0, some (false, .own 3 1 xs.length (ivs xs))), (1, some (false, .ab (fnI ok pd)))]) (nx' := 2) (fun e w M => ⟨_, mem_rd (r2 l f) (memF hl hf) M, rfl⟩) rfl rfl rfl rfl fun w => ?_
  refine rn [] rfl (by repeat' (first | exact trivial | exact rfl | refine And.intro ?_ ?_)) ?_
  refine At.loop (X := (k : Nat) ×' (k ≤ xs.length ∧ k ≤ xs.findIdx pd)) 2 (fun k => xs.length - k.1)
    (fun k => [(0, .t (.c (.nm 0))), (1, .t (.c (.nm 1))), (7, .t (.c (iT (xs.length : Nat)))), (8, .t (.c (iT (k.1 : Nat))))])
    (fun _ => [(0, some (false, .own 3 1 xs.length (ivs xs))), (1, some (false, .ab (fnI ok pd)))]) ⟨0, by omega, by omega⟩ [] (fun k => wf rfl rfl) (by repeat' (first | exact trivial | exact rfl | refine And.intro ?_ ?_)) (by repeat' (first | exact trivial | exact rfl | refine And.intro ?_ ?_)) rfl fun k => ?_
  obtain ⟨k, hk1, hk2⟩ := k
  have w2 : IntKind.i64.wrap ((k : Int) + 1) = ((k + 1 : Nat) : Int) := by rw [wrap_sm (by omega) (by omega)]; omega
  refine rn [] rfl (by repeat' (first | exact trivial | exact rfl | refine And.intro ?_ ?_)) ?_
  refine ⟨fun h => ?_, fun h => ?_⟩
  · have hlt : k < xs.length := by have : (k : Int) < (xs.length : Int) := of_decide_eq_true h; omega
    have e1 : (ivs xs)[(k : Int).toNat * 1]? = some (.int .i64 xs[k]) := by simpa using ivs_at hlt
    have b0 : (0 : Int) ≤ (k : Int) := by omega
    have b1 : (k : Int) < (xs.length : Int) := by omega
    refine rn [(15, .ld [iT xs[k]]), (16, .spec ⟨.t (.c (.b (pd xs[k]))), [], [], []⟩)] rfl (by (repeat' (first | exact trivial | exact rfl | exact e1 | exact fun _ => e1 | first | exact spec_fn (xs[k]) rfl rfl rfl rfl (fun _ => rfl) (hok _ (List.getElem_mem _)) | exact b0 | exact b1 | decide | refine And.intro ?_ ?_))) ?_
    refine ⟨fun h => ?_, fun h => ?_⟩
    · have h' : pd xs[k] = true := h
      have e2 : xs.findIdx pd = k := (List.findIdx_eq hlt).2 ⟨h', fun j hj => by have := List.not_of_lt_findIdx (p := pd) (xs := xs) (i := j) (by omega); simpa using this⟩
      have e3 : ixF pd xs = (k : Int) := by rw [ixF, e2, if_pos hlt]
      refine rn [] rfl (by repeat' (first | exact trivial | exact rfl | refine And.intro ?_ ?_)) (roundRet ?_)
      rw [e3]
      exact ret0 tysOk rfl (by repeat' (first | exact trivial | exact rfl | refine And.intro ?_ ?_)) rfl
    · have h' : pd xs[k] = false := h
      have hne : k + 1 ≤ xs.findIdx pd := by
        rcases Nat.lt_or_eq_of_le hk2 with h | h
        · omega
        · have := List.findIdx_getElem (p := pd) (xs := xs) (w := by omega)
          simp only [← h] at this
          rw [h'] at this
          cases this
      refine rn [] rfl (by repeat' (first | exact trivial | exact rfl | refine And.intro ?_ ?_)) ?_
      refine roundEnd ⟨k + 1, by omega, hne⟩ [] (by show xs.length - (k + 1) < xs.length - k; omega) (by (repeat' (first | exact trivial | exact rfl | exact w2 | exact fun _ => w2 | refine And.intro ?_ ?_))) (by repeat' (first | exact trivial | exact rfl | refine And.intro ?_ ?_)) rfl
  · have hlt : k = xs.length := by have : ¬ (k : Int) < (xs.length : Int) := of_decide_eq_false h; omega
    have e3 : ixF pd xs = -1 := by rw [ixF, if_neg (by omega)]
    refine rn [] rfl (by repeat' (first | exact trivial | exact rfl | refine And.intro ?_ ?_)) (roundExit rfl ?_)
    refine rnA [] rfl (by repeat' (first | exact trivial | exact rfl | refine And.intro ?_ ?_)) ?_
    rw [e3]
    exact ret0 tysOk rfl (by repeat' (first | exact trivial | exact rfl | refine And.intro ?_ ?_)) rfl
end
theorem set_ivs {S : List Int} {k : Nat} {x : Int} (h : k < S.length) : Vc.setAt (ivs S) (k * 1) [Value.int .i64 x] = ivs (S.set k x) := by
  apply List.ext_getElem?
  intro i
  simp only [Vc.setAt, ivs]
  by_cases h1 : i < k
  · rw [List.append_assoc, List.getElem?_append_left (by simp; omega)]
    simp [List.getElem?_take, h1, List.getElem?_set, show k ≠ i by omega]
  · by_cases h2 : i = k
    · subst h2
      rw [List.append_assoc, List.getElem?_append_right (by simp; omega)]
      simp [h, show min i S.length = i by omega]
    · rw [List.getElem?_append_right (by simp; omega)]
      simp only [List.length_append, List.length_take, List.length_map, List.length_singleton, List.getElem?_drop]
      rw [show min (k * 1) S.length = k by omega, show k * 1 + 1 + (i - (k + 1)) = i by omega]
      simp [List.getElem?_set, show k ≠ i by omega]
def zr (R : List Int) (i : Nat) : List Int := R.take i ++ List.replicate (R.length - i) 0
theorem zr_at {R : List Int} {i : Nat} (h : i ≤ R.length) : Vc.setAt (ivs R) i (List.replicate (R.length - i) (Value.int .i64 0)) = ivs (zr R i) := by
  have h2 : R.length ≤ i + (R.length - i) := by omega
  simp [Vc.setAt, ivs, zr, h2]
section
variable {xs : List Int} {ok : Int → Prop} {pd : Int → Bool}
set_option maxRecDepth 100000 in
set_option maxHeartbeats 4000000 in
theorem deleteF_w (hok : ∀ x ∈ xs, ok x) (z : xs.length ≤ 100000000000000) (w : World) (W : Nat → Prop) :
    At Tryz.prog ⟨w, W, 42⟩ (bodyPost Tryz.prog Tryz.f37 (MPost w W (.t (.c (.nm 0))) [(true, .own 3 1 (xs.filter fun x => !pd x).length (ivs (xs.filter fun x => !pd x)))])) (Tryz.f37.body.get rfl) [] (argsL 0 ([TV.c (.nm 0), .c (.nm 1)].map .t)) [(0, some (true, .own 3 1 xs.length (ivs xs))), (1, some (false, .ab (fnI ok pd)))] 2 := by
  have hix := fun (H : HL) (h0 : lookH H 0 = some (true, .own 3 1 xs.length (ivs xs))) (h1 : lookH H 1 = some (false, .ab (fnI ok pd))) (nx : Nat) => indexF_h (nx := nx) h0 h1 hok z
  by_cases hf : xs.findIdx pd < xs.length
  · have e1 : ixF pd xs = ((xs.findIdx pd : Nat) : Int) := if_pos hf
    rw [e1] at hix
    have hpre : xs.take (xs.findIdx pd) = (xs.take (xs.findIdx pd + 1)).filter fun x => !pd x := by
      rw [List.take_succ_eq_append_getElem hf, List.filter_append]
      have h2 : pd xs[xs.findIdx pd] = true := List.findIdx_getElem
      have h3 : (xs.take (xs.findIdx pd)).filter (fun x => !pd x) = xs.take (xs.findIdx pd) := by
        refine List.filter_eq_self.2 fun x hx => ?_
        obtain ⟨j, hj, rfl⟩ := List.mem_iff_getElem.1 hx
        rw [List.getElem_take]
        rw [List.length_take] at hj
        have := List.not_of_lt_findIdx (p := pd) (xs := xs) (i := j) (by omega)
        simpa using this
      rw [h3]
      simp [h2]
    generalize xs.findIdx pd = i0 at *
    have w1 : IntKind.i64.wrap ((i0 : Int) + 1) = ((i0 + 1 : Nat) : Int) := by rw [wrap_sm (by omega) (by omega)]; omega
    have hne : ((i0 : Int) == -1) = false := by simp
    refine rn [(10, .spec ⟨.t (.c (iT (i0 : Nat))), [], [], []⟩), (12, .dec false)] rfl (by (repeat' (first | exact trivial | exact rfl | exact hix _ rfl rfl _ | exact fun _ => hix _ rfl rfl _ | exact hne | refine And.intro ?_ ?_))) ?_
    refine At.loop (X := (i : Nat) ×' (j : Nat) ×' (R : List Int) ×' (i < j ∧ j ≤ xs.length ∧ R.length = xs.length ∧ R.take i = ((xs.take j).filter fun x => !pd x) ∧ R.drop j = xs.drop j)) 2 (fun k => xs.length - k.2.1)
      (fun k => [(0, .t (.c (.nm 0))), (1, .t (.c (.nm 1))), (5, .t (.c (iT (k.1 : Nat)))), (6, .t (.c (iT (k.2.1 : Nat))))])
      (fun k => [(0, some (true, .own 3 1 xs.length (ivs k.2.2.1))), (1, some (false, .ab (fnI ok pd)))]) ⟨i0, i0 + 1, xs, by omega, by omega, rfl, hpre, rfl⟩ [] (fun k => wf rfl rfl) (by (repeat' (first | exact trivial | exact rfl | exact w1 | exact fun _ => w1 | refine And.intro ?_ ?_))) (by repeat' (first | exact trivial | exact rfl | refine And.intro ?_ ?_)) rfl fun k => ?_
    obtain ⟨i, j, R, h1, h2, h3, h4, h5⟩ := k
    have w2 : IntKind.i64.wrap ((j : Int) + 1) = ((j + 1 : Nat) : Int) := by rw [wrap_sm (by omega) (by omega)]; omega
    have w3 : IntKind.i64.wrap ((i : Int) + 1) = ((i + 1 : Nat) : Int) := by rw [wrap_sm (by omega) (by omega)]; omega
    refine rn [] rfl (by repeat' (first | exact trivial | exact rfl | refine And.intro ?_ ?_)) ?_
    refine ⟨fun h => ?_, fun h => ?_⟩
    · have hlt : j < xs.length := by have : (j : Int) < (xs.length : Int) := of_decide_eq_true h; omega
      have hR : R[j]? = some xs[j] := by
        have h6 := congrArg (fun l => l[0]?) h5
        simpa [List.getElem?_drop, hlt] using h6
      have e1 : (ivs R)[(j : Int).toNat * 1]? = some (.int .i64 xs[j]) := by simp [ivs, hR]
      have b0 : (0 : Int) ≤ (j : Int) := by omega
      have b1 : (j : Int) < (xs.length : Int) := by omega
      refine rn [(25, .ld [iT xs[j]]), (28, .spec ⟨.t (.c (.b (pd xs[j]))), [], [], []⟩)] rfl (by (repeat' (first | exact trivial | exact rfl | exact e1 | exact fun _ => e1 | first | exact spec_fn (xs[j]) rfl rfl rfl rfl (fun _ => rfl) (hok _ (List.getElem_mem _)) | exact b0 | exact b1 | decide | refine And.intro ?_ ?_))) ?_
      refine ⟨fun h => ?_, fun h => ?_⟩
      · have h' : pd xs[j] = false := by simpa using h
        have c0 : (0 : Int) ≤ (i : Int) := by omega
        have c1 : (i : Int) < (xs.length : Int) := by omega
        have c3 : i < R.length := by omega
        have c2 : (i : Int).toNat * 1 + 1 ≤ (ivs R).length := by simp [ivs, h3]; omega
        refine rn [] rfl (by (repeat' (first | exact trivial | exact rfl | exact trivial | exact fun _ => trivial | first | exact c0 | exact c1 | exact c2 | decide | refine And.intro ?_ ?_))) ?_
        refine roundEnd ⟨i + 1, j + 1, R.set i xs[j], by omega, by omega, by simp [h3], ?_, ?_⟩ [] (by show xs.length - (j + 1) < xs.length - j; omega) (by (repeat' (first | exact trivial | exact rfl | exact w2 | exact fun _ => w2 | first | exact w2 | exact w3 | refine And.intro ?_ ?_))) (by (repeat' (first | exact trivial | exact rfl | exact trivial | exact fun _ => trivial | exact set_ivs c3 | refine And.intro ?_ ?_))) rfl
        · rw [List.take_succ_eq_append_getElem hlt, List.filter_append, ← h4, List.take_succ_eq_append_getElem (by simp; omega)]
          simp [h', List.take_set_of_le]
        · rw [List.drop_set_of_lt (by omega)]
          have h6 := congrArg List.tail h5
          simpa using h6
      · have h' : pd xs[j] = true := by simpa using h
        refine rn [] rfl (by repeat' (first | exact trivial | exact rfl | refine And.intro ?_ ?_)) ?_
        refine roundEnd ⟨i, j + 1, R, by omega, by omega, h3, ?_, ?_⟩ [] (by show xs.length - (j + 1) < xs.length - j; omega) (by (repeat' (first | exact trivial | exact rfl | exact w2 | exact fun _ => w2 | refine And.intro ?_ ?_))) (by repeat' (first | exact trivial | exact rfl | refine And.intro ?_ ?_)) rfl
        · rw [List.take_succ_eq_append_getElem hlt, List.filter_append, ← h4]
          simp [h']
        · have h6 := congrArg List.tail h5
          simpa using h6
    · have hlt : j = xs.length := by have : ¬ (j : Int) < (xs.length : Int) := of_decide_eq_false h; omega
      refine rn [] rfl (by repeat' (first | exact trivial | exact rfl | refine And.intro ?_ ?_)) (roundExit rfl ?_)
      rw [hlt, List.take_length] at h4
      have c0 : (0 : Int) ≤ (i : Int) := by omega
      have c1 : (i : Int) ≤ (xs.length : Int) := by omega
      have d1 : (i : Int).toNat * 1 = (i : Int).toNat := Nat.mul_one _
      have d2 : (i : Int).toNat + (xs.length - (i : Int).toNat) = xs.length := by omega
      have d3 : 0 < xs.length - (i : Int).toNat := by omega
      have d4 : Vc.setAt (ivs R) (i : Int).toNat (List.replicate (xs.length - (i : Int).toNat) (Value.int .i64 0)) = ivs (zr R i) := by
        rw [Int.toNat_natCast, ← h3]
        exact zr_at (by omega)
      refine rnA [(9999, .spec ⟨.t (.c (.raw (.tuple #[]))), [], [(0, some (.own 3 1 xs.length (ivs (zr R i))))], []⟩)] rfl (by (repeat' (first | exact trivial | exact rfl | exact trivial | exact fun _ => trivial | first | exact spec_clear tysOk rfl rfl rfl rfl rfl rfl rfl rfl rfl rfl d1 d2 d3 d4 | exact c0 | exact c1 | decide | refine And.intro ?_ ?_))) ?_
      have hlen : (xs.filter fun x => !pd x).length = i := by rw [← h4, List.length_take]; omega
      have hlen' : (i : Int).toNat = (xs.filter fun x => !pd x).length := by rw [hlen]; rfl
      refine Done.head 4 0 rfl rfl (by show (i : Int).toNat ≤ xs.length; omega) (by omega) (ys := ivs (xs.filter fun x => !pd x)) (by
        show (ivs (zr R i)).take ((i : Int).toNat * 1) = _
        rw [← h4, Int.toNat_natCast, Nat.mul_one]
        have : R.length ≥ i := by omega
        simp [ivs, zr, List.take_append_of_le_length, List.take_take, List.length_take, this]) ?_
      exact retM tysOk [(0, 2)] rfl (by repeat' (first | exact trivial | exact rfl | refine And.intro ?_ ?_)) (by (repeat' (first | exact trivial | exact rfl | exact hlen' | exact fun _ => hlen' | refine And.intro ?_ ?_))) rfl rfl
  · have e1 : ixF pd xs = -1 := if_neg hf
    rw [e1] at hix
    have e2 : (xs.filter fun x => !pd x) = xs := by
      refine List.filter_eq_self.2 fun x hx => ?_
      obtain ⟨j, hj, rfl⟩ := List.mem_iff_getElem.1 hx
      have := List.not_of_lt_findIdx (p := pd) (xs := xs) (i := j) (by omega)
      simpa using this
    rw [e2]
    refine rn [(10, .spec ⟨.t (.c (iT (-1))), [], [], []⟩), (12, .dec true)] rfl (by (repeat' (first | exact trivial | exact rfl | exact hix _ rfl rfl _ | exact fun _ => hix _ rfl rfl _ | first | rfl | decide | refine And.intro ?_ ?_))) ?_
    exact retM tysOk [(0, 0)] rfl (by repeat' (first | exact trivial | exact rfl | refine And.intro ?_ ?_)) (by repeat' (first | exact trivial | exact rfl | refine And.intro ?_ ?_)) rfl rfl
end
/-- Those of a row of one's own that a closure does not name. -/
theorem deleteF_h {H Hc : HL} {nx nc g l : Nat} {caps : List (Nat × Nat)} {xs : List Int} {pd : Int → Bool} (ok : Int → Prop) (hg : fnB Tryz.prog g = true) (hW : wfH nc Hc = true) (hcn : wfL nc [(0, .t (.c (.fn (.func g) caps)))] = true)
    (hc : ∀ x, ok x → FnH Tryz.prog g (.c (iT x) :: capsV caps) Hc nc ⟨.t (.c (.b (pd x))), [], [], []⟩) (hl : lookH H l = some (true, .own 3 1 xs.length (ivs xs))) (hs : capsOk l H Hc) (hok : ∀ x ∈ xs, ok x) (z : xs.length ≤ 100000000000000) :
    FnH Tryz.prog 37 [.c (.nm l), .c (.fn (.func g) caps)] H nx ⟨.t (.c (.nm nx)), [(true, .own 3 1 (xs.filter fun x => !pd x).length (ivs (xs.filter fun x => !pd x)))], [(l, none)], []⟩ := by
  refine fnK (fn := Tryz.f37) 42 rfl rfl rfl [l] (args' := [.c (.nm 0), .c (.nm 1)]) (H' := [(0, some (true, .own 3 1 xs.length (ivs xs))), (1, some (false, .ab (fnI ok pd)))]) (nx' := 2) (v' := .t (.c (.nm 0))) (news' := [(true, .own 3 1 (xs.filter fun x => !pd x).length (ivs (xs.filter fun x => !pd x)))])
    (fun e w M => mem_fn (av := fun x => .c (iT x)) (fun _ _ => rfl) (fun _ => rfl) hg hW hcn hc hl hs M) rfl rfl rfl rfl rfl rfl rfl rfl (deleteF_w hok z)
end Cw
