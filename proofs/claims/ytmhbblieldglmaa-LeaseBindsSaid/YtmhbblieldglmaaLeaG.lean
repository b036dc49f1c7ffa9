/- Numbers spoilt. -/
import Derived.Test.YtmhbblieldglmaaLeaF
namespace Cw
open Go Vc
open Go.Proofs
set_option maxRecDepth 100000
theorem spoil_set {ys : List Int} {k : Nat} (h : k < ys.length) : Vc.setAt (ivs ys) (k * 1) [Value.int .i64 (-99)] = ivs (ys.set k (-99)) := by
  apply List.ext_getElem?
  intro i
  simp only [Vc.setAt, ivs]
  by_cases h1 : i < k
  · rw [List.append_assoc, List.getElem?_append_left (by simp; omega)]
    simp [List.getElem?_take, h1, List.getElem?_set, show k ≠ i by omega]
  · by_cases h2 : i = k
    · subst h2
      rw [List.append_assoc, List.getElem?_append_right (by simp; omega)]
      simp [h, show min i ys.length = i by omega]
    · rw [List.getElem?_append_right (by simp; omega)]
      simp only [List.length_append, List.length_take, List.length_map, List.length_singleton, List.getElem?_drop]
      rw [show min (k * 1) ys.length = k by omega, show k * 1 + 1 + (i - (k + 1)) = i by omega]
      simp [List.getElem?_set, show k ≠ i by omega]
theorem spoilI_h {k : Nat} {l : List Int} {H : HL} {nx : Nat} (hk : lookH H k = some (true, .own 3 1 l.length (ivs l))) (z : l.length ≤ 17592186043904) :
    FnH Try.prog 10 [.c (.nm k)] H nx ⟨.tup [], [], [(k, none)], []⟩ := by
  refine fnF (fn := Try.f10) 12 rfl rfl rfl (args' := [.c (.nm 0)]) (H' := [(0, some (true, .own 3 1 l.length (ivs l)))]) (nx' := 1) (fun e w M => ?_) rfl rfl rfl rfl fun w W => ?_
  · have hr : Vc.ren [(0, k)] 0 = k := rfl
    refine ⟨e.ren [(0, k)], ⟨fun n b' q h => ?_, fun n q m c q' h h' hne => ?_⟩, rfl⟩
    · rw [lookH_cons] at h
      split at h
      · rename_i hn
        cases h
        subst hn
        obtain ⟨h1, h2⟩ := M.ob k _ _ hk
        exact ⟨h1, fun g hg => ⟨h2 g hg, fun _ => hg⟩⟩
      · cases h
    · rw [lookH_cons] at h h'
      split at h
      · split at h'
        · omega
        · cases h'
      · cases h
  refine rn [] rfl (by repeat' (first | exact trivial | exact rfl | refine And.intro ?_ ?_)) ?_
  refine At.loop (X := (r : List Int) ×' (k : Nat) ×' (k ≤ l.length ∧ r.length = l.length)) 1 (fun x => l.length - x.2.1)
    (fun x => [(0, .t (.c (.nm 0))), (2, .t (.c (iT (x.2.1 : Nat))))])
    (fun x => [(0, some (true, .own 3 1 l.length (ivs x.1)))]) ⟨l, 0, by omega, rfl⟩ [] (fun x => wf rfl rfl) (by repeat' (first | exact trivial | exact rfl | refine And.intro ?_ ?_)) (by repeat' (first | exact trivial | exact rfl | refine And.intro ?_ ?_)) rfl fun x => ?_
  obtain ⟨r, k, hk1, hk2⟩ := x
  have w2 : IntKind.i64.wrap ((k : Int) + 1) = ((k + 1 : Nat) : Int) := by rw [wrap_sm (by omega) (by omega)]; omega
  refine rn [] rfl (by repeat' (first | exact trivial | exact rfl | refine And.intro ?_ ?_)) ?_
  refine ⟨fun h => ?_, fun h => ?_⟩
  · have hlt : k < l.length := by have : (k : Int) < (l.length : Int) := of_decide_eq_true h; omega
    have b0 : (0 : Int) ≤ (k : Int) := by omega
    have b1 : (k : Int) < (l.length : Int) := by omega
    refine rn [] rfl (by (repeat' (first | exact trivial | exact rfl | exact b0 | exact fun _ => b0 | first | exact b1 | decide | (simp [ivs]; omega) | refine And.intro ?_ ?_))) ?_
    refine roundEnd ⟨r.set k (-99), k + 1, by omega, by simpa using hk2⟩ [] (by show l.length - (k + 1) < l.length - k; omega) (by (repeat' (first | exact trivial | exact rfl | exact w2 | exact fun _ => w2 | refine And.intro ?_ ?_))) ?_ rfl
    repeat' (first | exact trivial | exact rfl | refine And.intro ?_ ?_)
    exact spoil_set (k := k) (ys := r) (by omega)
  · refine rn [] rfl (by repeat' (first | exact trivial | exact rfl | refine And.intro ?_ ?_)) (roundExit rfl ?_)
    refine rnA [] rfl (by repeat' (first | exact trivial | exact rfl | refine And.intro ?_ ?_)) ?_
    exact endF tysOk rfl (by repeat' (first | exact trivial | exact rfl | refine And.intro ?_ ?_)) rfl
end Cw
