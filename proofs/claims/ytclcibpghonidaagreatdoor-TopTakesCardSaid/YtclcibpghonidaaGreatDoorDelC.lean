/- A part of an own row of things is cleared. No program in sight. -/
import Derived.Test.YtclcibpghonidaaGreatDoorFnV
import Derived.Test.YtclcibpghonidaaGreatDoorDep
namespace Vc
open Go Go.RowKit
theorem zeroCells_len (z : Array Value) (n : Nat) : (Builtin.zeroCells z n).toList.length = n * z.size := by simp [Builtin.zeroCells]
theorem zeroCells_one {z : Array Value} {n : Nat} (h0 : 0 < z.size) (h : ∀ v ∈ z.toList, v.oneCell' = true) : ∀ v ∈ (Builtin.zeroCells z n).toList, v.oneCell' = true := by
  intro v hv
  simp only [Builtin.zeroCells, Array.toList_map, List.mem_map] at hv
  obtain ⟨i, _, rfl⟩ := hv
  have hlt : i % z.size < z.size := Nat.mod_lt _ h0
  rw [getElem!_pos z _ hlt]
  exact h _ (by simp)
theorem spec_clearN {P : Program} {L : LL} {H : HL} {nx d : Nat} {tys : List (Nat × Ty)} (hty : TysOk P tys) {o : Oper} {T el U : TypeId} {x : Operand} {n k off len : Nat} {s : Nat} {xs ys : List Value} {I J : Ty} {zv : Value} (hop : o.op = .call { callee := .builtin .clear, args := #[x], argTypes := #[T] })
    (hx : ev L x = some (.c (.sub d off k len))) (hT : look T tys = some I) (hI : I.d = .slice el) (hJ : look el tys = some J) (hJz : zVal J.d.agg (J.zero.map (CV.den e0)) = zv) (hzs : zv.cells.size = s) (hs0 : 0 < s) (hz1 : ∀ v ∈ zv.cells.toList, v.oneCell' = true)
    (hd : lookH H d = some (true, .own U s n xs)) (hoff : off = k * s) (hl : k + len = n) (hpos : 0 < len) (hy : setAt xs (k * s) (Builtin.zeroCells zv.cells len).toList = ys) :
    Spec P L H nx o ⟨.t (.c (.raw (.tuple #[]))), [], [(d, some (.own U s n ys))], []⟩ := by
  subst hoff
  refine ⟨fun F _ e a w S K Q hK => ?_⟩
  obtain ⟨dt, hdt, hId⟩ := (hty _ _ hT).und
  rw [hI] at hId
  simp only [TyD.is] at hId
  subst hId
  have hzv := (hty _ _ hJ).run_zeroV
  rw [hJz] at hzv
  obtain ⟨⟨hown, hfp⟩, _⟩ := S.ob d true _ hd
  have hxl := hown.1
  rcases hown.2 with ⟨_, h0⟩ | ⟨g, cap, cur, hval, h1, hblk, h3, h4, h5, h6⟩
  · omega
  have hmul : k * s + len * s = n * s := by rw [← Nat.add_mul, hl]
  have hcap : n * s ≤ cap * s := Nat.mul_le_mul_right _ h3
  have hx' : a.eval x = .slice (some ⟨g, k * s, none⟩) len (cap - k) := by
    have hc : ¬ cap = k := by omega
    refine (ev_ok S hx).trans ?_
    simp only [TV.den, CV.den, hval, if_neg hc, Option.map_some, lit_add, Nat.zero_add]
  have hzl := zeroCells_len zv.cells len
  rw [hzs] at hzl
  have hst := run_storeCells_at (P := P) g (k * s) U (Builtin.zeroCells zv.cells len).toList 0 cur w hblk (by rw [hzl]; omega) (zeroCells_one (by omega) hz1)
  simp only [Nat.add_zero] at hst
  obtain ⟨m, rfl⟩ : ∃ m, len = m + 1 := ⟨len - 1, by omega⟩
  generalize hzz : (Builtin.zeroCells zv.cells (m + 1)).toList = zz at *
  have hrun : (Builtin.clear_ #[T] o.type #[.slice (some ⟨g, k * s, none⟩) (m + 1) (cap - k)]).run P w = .ok (.tuple #[]) (w.setRow g (cur.toList.take (k * s) ++ zz ++ cur.toList.drop (k * s + zz.length)).toArray) := by
    simp [Builtin.clear_, run_underlying hdt, hzv, hzz, hst]
  have hfp' : ∀ q, e.fp d q ↔ q = g := fun q => by
    rw [hfp q, hval]
    exact ⟨fun h => (Option.some.inj h).symm, fun h => h ▸ rfl⟩
  suffices hMv : Mv nx ⟨.t (.c (.raw (.tuple #[]))), [], [(d, some (.own U s n ys))], []⟩ e e w (w.setRow g (cur.toList.take (k * s) ++ zz ++ cur.toList.drop (k * s + zz.length)).toArray) by
    refine wp_value (v := .tuple #[]) ?_ (hK e _ hMv)
    simp [execOp, hop, resolve, invoke, builtin, hx', hrun]
  have hsz : cur.toList.length = cap * s := by simpa using h5
  · refine .old ⟨fun _ _ => ⟨rfl, rfl, rfl⟩, rfl, rfl, rfl, by simp, fun q hq hno => ?_, fun k b o hk => (by simp at hk), fun j k hj hk => (by simp at hj), fun m' o hm => ?_⟩
    · exact setRow_other w g q _ fun he => hno d (some (.own U s n ys)) (by simp) ((hfp' q).2 he)
    · simp at hm
      obtain ⟨rfl, rfl⟩ := hm
      refine ⟨⟨?_, .inr ⟨g, cap, _, hval, h1, setRow_heap w _ _ _ _ _ hblk, h3, h4, ?_, ?_⟩⟩, hfp⟩
      · rw [← hy, setAt_length (by omega)]; exact hxl
      · simp only [List.size_toArray, List.length_append, List.length_take, List.length_drop]; omega
      · have := take_setAt (c := cur.toList) (vs := zz) (m := n * s) (j := k * s) (by omega) (by omega)
        rw [h6, hy] at this
        simpa using this
end Vc
namespace Cw
open Go Vc
open Go.Proofs
set_option maxRecDepth 100000
abbrev DV := List (Ch × Option Addr × Nat)
def depA (x : Ch × Option Addr × Nat) : Value := .agg (depC x).toArray
/-- A function of changes. -/
def fnD (ok : Ch × Option Addr × Nat → Prop) (pd : Ch × Option Addr × Nat → Bool) : AbP := fnP Tryz.prog depA ok pd
def ixD (pd : Ch × Option Addr × Nat → Bool) (xs : DV) : Int := if xs.findIdx pd < xs.length then (xs.findIdx pd : Nat) else -1
theorem set_fcsN {α : Type} {f : α → List Value} {c : Nat} (hc : ∀ a, (f a).length = c) {l : List α} {i : Nat} {a' : α} (h : i < l.length) : Vc.setAt (fcs f l) (i * c) (f a') = fcs f (l.set i a') := by
  have e0 : ∀ (x y : List α), fcs f (x ++ y) = fcs f x ++ fcs f y := fun x y => by simp only [fcs, List.map_append, List.flatten_append]
  obtain ⟨h1, _⟩ := fcs_split hc l i (by omega)
  obtain ⟨_, h2⟩ := fcs_split hc l (i + 1) (by omega)
  rw [Vc.setAt, hc, h1, show i * c + c = (i + 1) * c by rw [Nat.add_mul]; omega, h2, List.set_eq_take_append_cons_drop, if_pos h, e0]
  simp [fcs]
section
variable {H : HL} {nx l f : Nat} {b1 b2 : Bool} {xs : DV} {ok : Ch × Option Addr × Nat → Prop} {pd : Ch × Option Addr × Nat → Bool}
set_option maxRecDepth 100000 in
set_option maxHeartbeats 1000000 in
theorem indexD_h (hl : lookH H l = some (b1, .own 140 6 xs.length (dpc xs))) (hf : lookH H f = some (b2, .ab (fnD ok pd))) (hok : ∀ x ∈ xs, ok x) (z : xs.length ≤ 1000000) :
    FnH Tryz.prog 132 [.c (.nm l), .c (.nm f)] H nx ⟨.t (.c (iT (ixD pd xs))), [], [], []⟩ := by
  refine fnR (fn := Tryz.f132) 19 rfl rfl rfl (args' := [.c (.nm 0), .c (.nm 1)]) (H' := [(0, some (false, .own 140 6 xs.length (dpc xs))), (1, some (false, .ab (fnD ok pd)))]) (nx' := 2) (fun e w M => ⟨_, mem_rd (r2p l f) (H' := [(0, some (false, .own 140 6 xs.length (dpc xs))), (1, some (false, .ab (fnD ok pd)))]) ⟨⟨b1, hl⟩, ⟨b2, hf⟩, trivial⟩ M, rfl⟩) rfl rfl rfl rfl fun w => ?_
  refine rn [] rfl (by repeat' (first | exact trivial | exact rfl | refine And.intro ?_ ?_)) ?_
  refine At.loop (X := (k : Nat) ×' (k ≤ xs.length ∧ k ≤ xs.findIdx pd)) 2 (fun k => xs.length - k.1)
    (fun k => [(0, .t (.c (.nm 0))), (1, .t (.c (.nm 1))), (7, .t (.c (iT (xs.length : Nat)))), (8, .t (.c (iT (k.1 : Nat))))])
    (fun _ => [(0, some (false, .own 140 6 xs.length (dpc xs))), (1, some (false, .ab (fnD ok pd)))]) ⟨0, by omega, by omega⟩ [] (fun k => wf rfl rfl) (by repeat' (first | exact trivial | exact rfl | refine And.intro ?_ ?_)) (by repeat' (first | exact trivial | exact rfl | refine And.intro ?_ ?_)) rfl fun k => ?_
  obtain ⟨k, hk1, hk2⟩ := k
  have w2 : IntKind.i64.wrap ((k : Int) + 1) = ((k + 1 : Nat) : Int) := by rw [wrap_sm (by omega) (by omega)]; omega
  refine rn [] rfl (by repeat' (first | exact trivial | exact rfl | refine And.intro ?_ ?_)) ?_
  refine ⟨fun h => ?_, fun h => ?_⟩
  · have hlt : k < xs.length := by have : (k : Int) < (xs.length : Int) := of_decide_eq_true h; omega
    have r1 : Vc.rowAt (dpc xs) ((k : Int).toNat * 6) (depV xs[k]) := dpc_rd hlt
    have b0 : (0 : Int) ≤ (k : Int) := by omega
    have b1 : (k : Int) < (xs.length : Int) := by omega
    have c5 : (k : Int).toNat * 6 < (dpc xs).length := by rw [dpc_length]; omega
    refine rn [(15, .ld [iT xs[k].1.no, iT xs[k].1.at', iT xs[k].1.off, .s xs[k].1.by', .raw (.slice xs[k].2.1 xs[k].1.ah.length xs[k].2.2), iT xs[k].1.st]), (16, .spec ⟨.t (.c (.b (pd xs[k]))), [], [], []⟩)] rfl (by (repeat' (first | exact trivial | exact rfl | exact trivial | exact fun _ => trivial | first | exact spec_fn (xs[k]) rfl rfl rfl rfl (fun _ => rfl) (hok _ (List.getElem_mem _)) | exact r1 | exact b0 | exact b1 | exact c5 | decide | refine And.intro ?_ ?_))) ?_
    refine ⟨fun h => ?_, fun h => ?_⟩
    · have h' : pd xs[k] = true := h
      have e2 : xs.findIdx pd = k := (List.findIdx_eq hlt).2 ⟨h', fun j hj => by have := List.not_of_lt_findIdx (p := pd) (xs := xs) (i := j) (by omega); simpa using this⟩
      have e3 : ixD pd xs = (k : Int) := by rw [ixD, e2, if_pos hlt]
      refine rn [] rfl (by repeat' (first | exact trivial | exact rfl | refine And.intro ?_ ?_)) (roundRet ?_)
      rw [e3]
      exact ret0 tysOk rfl (by repeat' (first | exact trivial | exact rfl | refine And.intro ?_ ?_)) rfl
    · have h' : pd xs[k] = false := h
      have hne : k + 1 ≤ xs.findIdx pd := by
        rcases Nat.lt_or_eq_of_le hk2 with h | h
        · omega
        · have := List.findIdx_getElem (p := pd) (xs := xs) (w := by omega)
          simp only [← h] at this
          rw [h'] at this
          cases this
      refine rn [] rfl (by repeat' (first | exact trivial | exact rfl | refine And.intro ?_ ?_)) ?_
      refine roundEnd ⟨k + 1, by omega, hne⟩ [] (by show xs.length - (k + 1) < xs.length - k; omega) (by (repeat' (first | exact trivial | exact rfl | exact w2 | exact fun _ => w2 | refine And.intro ?_ ?_))) (by repeat' (first | exact trivial | exact rfl | refine And.intro ?_ ?_)) rfl
  · have hlt : k = xs.length := by have : ¬ (k : Int) < (xs.length : Int) := of_decide_eq_false h; omega
    have e3 : ixD pd xs = -1 := by rw [ixD, if_neg (by omega)]
    refine rn [] rfl (by repeat' (first | exact trivial | exact rfl | refine And.intro ?_ ?_)) (roundExit rfl ?_)
    refine rnA [] rfl (by repeat' (first | exact trivial | exact rfl | refine And.intro ?_ ?_)) ?_
    rw [e3]
    exact ret0 tysOk rfl (by repeat' (first | exact trivial | exact rfl | refine And.intro ?_ ?_)) rfl
end
section
variable {xs : DV} {ok : Ch × Option Addr × Nat → Prop} {pd : Ch × Option Addr × Nat → Bool}
def zD : Value := .agg #[.int .i64 0, .int .i64 0, .int .i64 0, .string "".toUTF8, .slice none 0 0, .int .i64 0]
set_option maxRecDepth 100000 in
set_option maxHeartbeats 4000000 in
theorem deleteD_w (hok : ∀ x ∈ xs, ok x) (z : xs.length ≤ 1000000) (w : World) (W : Nat → Prop) :
    At Tryz.prog ⟨w, W, 42⟩ (bodyPost Tryz.prog Tryz.f103 (MPost w W (.t (.c (.nm 0))) [(true, .own 140 6 (xs.filter fun x => !pd x).length (dpc (xs.filter fun x => !pd x)))])) (Tryz.f103.body.get rfl) [] (argsL 0 ([TV.c (.nm 0), .c (.nm 1)].map .t)) [(0, some (true, .own 140 6 xs.length (dpc xs))), (1, some (false, .ab (fnD ok pd)))] 2 := by
  have hix := fun (H : HL) (h0 : lookH H 0 = some (true, .own 140 6 xs.length (dpc xs))) (h1 : lookH H 1 = some (false, .ab (fnD ok pd))) (nx : Nat) => indexD_h (nx := nx) h0 h1 hok z
  by_cases hf : xs.findIdx pd < xs.length
  · have e1 : ixD pd xs = ((xs.findIdx pd : Nat) : Int) := if_pos hf
    rw [e1] at hix
    have hpre : xs.take (xs.findIdx pd) = (xs.take (xs.findIdx pd + 1)).filter fun x => !pd x := by
      rw [List.take_succ_eq_append_getElem hf, List.filter_append]
      have h2 : pd xs[xs.findIdx pd] = true := List.findIdx_getElem
      have h3 : (xs.take (xs.findIdx pd)).filter (fun x => !pd x) = xs.take (xs.findIdx pd) := by
        refine List.filter_eq_self.2 fun x hx => ?_
        obtain ⟨j, hj, rfl⟩ := List.mem_iff_getElem.1 hx
        rw [List.getElem_take]
        rw [List.length_take] at hj
        have := List.not_of_lt_findIdx (p := pd) (xs := xs) (i := j) (by omega)
        simpa using this
      rw [h3]
      simp [h2]
    generalize xs.findIdx pd = i0 at *
    have w1 : IntKind.i64.wrap ((i0 : Int) + 1) = ((i0 + 1 : Nat) : Int) := by rw [wrap_sm (by omega) (by omega)]; omega
    have hne : ((i0 : Int) == -1) = false := by simp
    refine rn [(10, .spec ⟨.t (.c (iT (i0 : Nat))), [], [], []⟩), (12, .dec false)] rfl (by (repeat' (first | exact trivial | exact rfl | exact hix _ rfl rfl _ | exact fun _ => hix _ rfl rfl _ | exact hne | refine And.intro ?_ ?_))) ?_
    refine At.loop (X := (i : Nat) ×' (j : Nat) ×' (R : DV) ×' (i < j ∧ j ≤ xs.length ∧ R.length = xs.length ∧ R.take i = ((xs.take j).filter fun x => !pd x) ∧ R.drop j = xs.drop j)) 2 (fun k => xs.length - k.2.1)
      (fun k => [(0, .t (.c (.nm 0))), (1, .t (.c (.nm 1))), (5, .t (.c (iT (k.1 : Nat)))), (6, .t (.c (iT (k.2.1 : Nat))))])
      (fun k => [(0, some (true, .own 140 6 xs.length (dpc k.2.2.1))), (1, some (false, .ab (fnD ok pd)))]) ⟨i0, i0 + 1, xs, by omega, by omega, rfl, hpre, rfl⟩ [] (fun k => wf rfl rfl) (by (repeat' (first | exact trivial | exact rfl | exact w1 | exact fun _ => w1 | refine And.intro ?_ ?_))) (by repeat' (first | exact trivial | exact rfl | refine And.intro ?_ ?_)) rfl fun k => ?_
    obtain ⟨i, j, R, h1, h2, h3, h4, h5⟩ := k
    have w2 : IntKind.i64.wrap ((j : Int) + 1) = ((j + 1 : Nat) : Int) := by rw [wrap_sm (by omega) (by omega)]; omega
    have w3 : IntKind.i64.wrap ((i : Int) + 1) = ((i + 1 : Nat) : Int) := by rw [wrap_sm (by omega) (by omega)]; omega
    refine rn [] rfl (by repeat' (first | exact trivial | exact rfl | refine And.intro ?_ ?_)) ?_
    refine ⟨fun h => ?_, fun h => ?_⟩
    · have hlt : j < xs.length := by have : (j : Int) < (xs.length : Int) := of_decide_eq_true h; omega
      have hR : ∃ hj : j < R.length, R[j] = xs[j] := by
        refine ⟨by omega, ?_⟩
        have h6 := congrArg (fun l => l[0]?) h5
        simpa [List.getElem?_drop, hlt, h3] using h6
      obtain ⟨hj, hR⟩ := hR
      have r1 : Vc.rowAt (dpc R) ((j : Int).toNat * 6) (depV xs[j]) := by rw [← hR]; exact dpc_rd hj
      have b0 : (0 : Int) ≤ (j : Int) := by omega
      have b1 : (j : Int) < (xs.length : Int) := by omega
      have c5 : (j : Int).toNat * 6 < (dpc R).length := by rw [dpc_length]; omega
      refine rn [(25, .ld [iT xs[j].1.no, iT xs[j].1.at', iT xs[j].1.off, .s xs[j].1.by', .raw (.slice xs[j].2.1 xs[j].1.ah.length xs[j].2.2), iT xs[j].1.st]), (28, .spec ⟨.t (.c (.b (pd xs[j]))), [], [], []⟩)] rfl (by (repeat' (first | exact trivial | exact rfl | exact trivial | exact fun _ => trivial | first | exact spec_fn (xs[j]) rfl rfl rfl rfl (fun _ => rfl) (hok _ (List.getElem_mem _)) | exact r1 | exact b0 | exact b1 | exact c5 | decide | refine And.intro ?_ ?_))) ?_
      refine ⟨fun h => ?_, fun h => ?_⟩
      · have h' : pd xs[j] = false := by simpa using h
        have c0 : (0 : Int) ≤ (i : Int) := by omega
        have c1 : (i : Int) < (xs.length : Int) := by omega
        have c3 : i < R.length := by omega
        have c2 : (i : Int).toNat * 6 + 6 ≤ (dpc R).length := by rw [dpc_length]; omega
        have hse : Vc.setAt (dpc R) ((i : Int).toNat * 6) (depC xs[j]) = dpc (R.set i xs[j]) := by rw [Int.toNat_natCast]; exact set_fcsN depC_len c3
        refine rn [] rfl (by (repeat' (first | exact trivial | exact rfl | exact trivial | exact fun _ => trivial | first | exact c0 | exact c1 | exact c2 | decide | refine And.intro ?_ ?_))) ?_
        refine roundEnd ⟨i + 1, j + 1, R.set i xs[j], by omega, by omega, by simp [h3], ?_, ?_⟩ [] (by show xs.length - (j + 1) < xs.length - j; omega) (by (repeat' (first | exact trivial | exact rfl | exact w2 | exact fun _ => w2 | first | exact w2 | exact w3 | refine And.intro ?_ ?_))) (by (repeat' (first | exact trivial | exact rfl | exact trivial | exact fun _ => trivial | exact hse | refine And.intro ?_ ?_))) rfl
        · rw [List.take_succ_eq_append_getElem hlt, List.filter_append, ← h4, List.take_succ_eq_append_getElem (by simp; omega)]
          simp [h', List.take_set_of_le]
        · rw [List.drop_set_of_lt (by omega)]
          have h6 := congrArg List.tail h5
          simpa using h6
      · have h' : pd xs[j] = true := by simpa using h
        refine rn [] rfl (by repeat' (first | exact trivial | exact rfl | refine And.intro ?_ ?_)) ?_
        refine roundEnd ⟨i, j + 1, R, by omega, by omega, h3, ?_, ?_⟩ [] (by show xs.length - (j + 1) < xs.length - j; omega) (by (repeat' (first | exact trivial | exact rfl | exact w2 | exact fun _ => w2 | refine And.intro ?_ ?_))) (by repeat' (first | exact trivial | exact rfl | refine And.intro ?_ ?_)) rfl
        · rw [List.take_succ_eq_append_getElem hlt, List.filter_append, ← h4]
          simp [h']
        · have h6 := congrArg List.tail h5
          simpa using h6
    · have hlt : j = xs.length := by have : ¬ (j : Int) < (xs.length : Int) := of_decide_eq_false h; omega
      refine rn [] rfl (by repeat' (first | exact trivial | exact rfl | refine And.intro ?_ ?_)) (roundExit rfl ?_)
      rw [hlt, List.take_length] at h4
      have c0 : (0 : Int) ≤ (i : Int) := by omega
      have c1 : (i : Int) ≤ (xs.length : Int) := by omega
      have d1 : (i : Int).toNat * 6 = (i : Int).toNat * 6 := rfl
      have d2 : (i : Int).toNat + (xs.length - (i : Int).toNat) = xs.length := by omega
      have d3 : 0 < xs.length - (i : Int).toNat := by omega
      obtain ⟨Z, hZ⟩ : ∃ Z, Vc.setAt (dpc R) ((i : Int).toNat * 6) (Builtin.zeroCells zD.cells (xs.length - (i : Int).toNat)).toList = Z := ⟨_, rfl⟩
      refine rnA [(9999, .spec ⟨.t (.c (.raw (.tuple #[]))), [], [(0, some (.own 140 6 xs.length Z))], []⟩)] rfl (by (repeat' (first | exact trivial | exact rfl | exact trivial | exact fun _ => trivial | first | exact spec_clearN (zv := zD) tysOk rfl rfl rfl rfl rfl rfl rfl (by decide) (by decide) rfl d1 d2 d3 hZ | exact c0 | exact c1 | decide | refine And.intro ?_ ?_))) ?_
      have hlen : (xs.filter fun x => !pd x).length = i := by rw [← h4, List.length_take]; omega
      have hlen' : (i : Int).toNat = (xs.filter fun x => !pd x).length := by rw [hlen]; rfl
      refine Done.head 4 0 rfl rfl (by show (i : Int).toNat ≤ xs.length; omega) (by omega) (ys := dpc (xs.filter fun x => !pd x)) (by
        show Z.take ((i : Int).toNat * 6) = _
        have hl := dpc_length R
        rw [← h4, ← hZ, Int.toNat_natCast, Vc.setAt, List.append_assoc, List.take_append_of_le_length (by rw [List.length_take, hl]; omega), List.take_take, Nat.min_self]
        exact (fcs_split depC_len R i (by omega)).1) ?_
      exact retM tysOk [(0, 2)] rfl (by repeat' (first | exact trivial | exact rfl | refine And.intro ?_ ?_)) (by (repeat' (first | exact trivial | exact rfl | exact hlen' | exact fun _ => hlen' | refine And.intro ?_ ?_))) rfl rfl
  · have e1 : ixD pd xs = -1 := if_neg hf
    rw [e1] at hix
    have e2 : (xs.filter fun x => !pd x) = xs := by
      refine List.filter_eq_self.2 fun x hx => ?_
      obtain ⟨j, hj, rfl⟩ := List.mem_iff_getElem.1 hx
      have := List.not_of_lt_findIdx (p := pd) (xs := xs) (i := j) (by omega)
      simpa using this
    rw [e2]
    refine rn [(10, .spec ⟨.t (.c (iT (-1))), [], [], []⟩), (12, .dec true)] rfl (by (repeat' (first | exact trivial | exact rfl | exact hix _ rfl rfl _ | exact fun _ => hix _ rfl rfl _ | first | rfl | decide | refine And.intro ?_ ?_))) ?_
    exact retM tysOk [(0, 0)] rfl (by repeat' (first | exact trivial | exact rfl | refine And.intro ?_ ?_)) (by repeat' (first | exact trivial | exact rfl | refine And.intro ?_ ?_)) rfl rfl
end
/-- Those of a row of one's own that a closure does not name. -/
theorem deleteD_h {H Hc : HL} {nx nc g l : Nat} {caps : List (Nat × Nat)} {xs : DV} {pd : Ch × Option Addr × Nat → Bool} (ok : Ch × Option Addr × Nat → Prop) (hg : fnB Tryz.prog g = true) (hW : wfH nc Hc = true) (hcn : wfL nc [(0, .t (.c (.fn (.func g) caps)))] = true)
    (hc : ∀ x, ok x → FnH Tryz.prog g (.agg (depV x) :: capsV caps) Hc nc ⟨.t (.c (.b (pd x))), [], [], []⟩) (hl : lookH H l = some (true, .own 140 6 xs.length (dpc xs))) (hs : capsOk l H Hc) (hok : ∀ x ∈ xs, ok x) (z : xs.length ≤ 1000000) :
    FnH Tryz.prog 103 [.c (.nm l), .c (.fn (.func g) caps)] H nx ⟨.t (.c (.nm nx)), [(true, .own 140 6 (xs.filter fun x => !pd x).length (dpc (xs.filter fun x => !pd x)))], [(l, none)], []⟩ := by
  refine fnK (fn := Tryz.f103) 42 rfl rfl rfl [l] (args' := [.c (.nm 0), .c (.nm 1)]) (H' := [(0, some (true, .own 140 6 xs.length (dpc xs))), (1, some (false, .ab (fnD ok pd)))]) (nx' := 2) (v' := .t (.c (.nm 0))) (news' := [(true, .own 140 6 (xs.filter fun x => !pd x).length (dpc (xs.filter fun x => !pd x)))])
    (fun e w M => mem_fn (av := fun x => .agg (depV x)) (fun _ _ => rfl) (fun _ => rfl) hg hW hcn hc hl hs M) rfl rfl rfl rfl rfl rfl rfl rfl (deleteD_w hok z)
end Cw
