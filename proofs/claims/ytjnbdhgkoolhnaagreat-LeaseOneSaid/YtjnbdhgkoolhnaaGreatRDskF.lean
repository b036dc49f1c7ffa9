/- A disk that goes its own way: slices.Clone, maps.Clone, Fork; Size. -/
import Derived.Test.YtjnbdhgkoolhnaaGreatDisk
import Derived.Test.YtjnbdhgkoolhnaaGreatFnV
import Derived.Shelf.SlMaps.Clone
namespace Cw
open Go Vc
open Go.Proofs
set_option maxRecDepth 100000
/-- A slice that is not nil, held against nil. -/
theorem spec_nnilR {P : Program} {L : LL} {H : HL} {nx k n s : Nat} {b : Bool} {U E : TypeId} {xs : List Value} {tys : List (Nat × Ty)} (hty : TysOk P tys) {o : Oper} {T T' : TypeId} {x y : Operand} {I : Ty} (hop : o.op = .binOp .eql T x y T') (hx : ev L x = some (.c (.nm k))) (hy : ev L y = some (.c .nsl)) (hT : look T tys = some I) (hI : I.d = .slice E)
    (hk : lookH H k = some (b, .own U s n xs)) (hn : 0 < n) : Spec P L H nx o ⟨.t (.c (.b false)), [], [], []⟩ := by
  refine ⟨fun F => step_pure fun e a w S => ?_⟩
  obtain ⟨dt, hd', hId⟩ := (hty _ _ hT).und
  rw [hI] at hId
  simp only [TyD.is] at hId
  subst hId
  have hown := (S.ob k b _ hk).1.1
  obtain ⟨A, c, hv0⟩ : ∃ A c, e.val k = .slice (some A) n c := by
    rcases hown.2 with ⟨_, h0⟩ | ⟨g, cap, cur, h1, _⟩
    · omega
    · exact ⟨_, _, h1⟩
  have hv : a.eval x = .slice (some A) n c := by
    rw [ev_ok S hx]
    exact hv0
  have heq : (Op.equal T (.slice (some A) n c) (.slice none 0 0)).run P w = .ok false w := eq_sn 9999 hd' _ _ _
  have hbin := run_eq (w := w) (op := .eql) rfl (T := T) (x := .slice (some A) n c) (y := .slice none 0 0) (r := false) heq (by simp) (by simp) (by simp) (by simp)
  have hg : (eqGuard .eql T x y (.slice (some A) n c) (.slice none 0 0)).run P w = .ok () w := rfl
  simp only [execOp, hop, Sem.run_bind, hv, ev_ok S hy, TV.den, CV.den, hg, Result.andThen_ok, hbin, Sem.run_pure]
  rfl
section
variable {H : HL} {nx d b : Nat} {S : List ByteArray} {W : List (Int × Wr)} {last : Int}
theorem sizeA (hd : lookH H d = some (true, .ab (dP S W last b))) : FnH Tryz.prog 69 [.c (.nm d)] H nx ⟨.t (.c (iT (S.length : Nat))), [], [(d, some (.ab (dP S W last b)))], []⟩ := by
  refine fnA (fn := Tryz.f69) 8 rfl rfl rfl hd (ptr b) (disk_pins _ _ _ _) (disk_pins _ _ _ _) rfl rfl rfl (v' := .t (.c (iT (S.length : Nat)))) (news' := []) rfl rfl rfl rfl fun w Wr => ?_
  refine At.unfoldTo 0 (L1 := (0, .t (.c (.p 1 0))) :: []) (H1 := [(1, some (true, .cells [.nm 2, .mp 3, iT (last)] 117)), (2, some (true, .own 9 1 (S).length (svs (S)))), (3, some (true, .mp (wm (W)))), (4, some (false, .pin 1 b)), (0, none), (0, some (true, .ab (dP (S) (W) (last) b)))]) (nx1 := 5) rfl rfl rfl rfl rfl rfl ?_
  refine rn [] rfl (by repeat' (first | exact trivial | exact rfl | refine And.intro ?_ ?_)) ?_
  refine Done.fold [(0, 1), (1, 2), (2, 3), (3, 4)] (diskO b (S) (wm (W)) (last)) (.p 0 0) (by repeat' (first | exact trivial | exact rfl | refine And.intro ?_ ?_)) rfl rfl (fun _ => rfl) ?_
  exact retM tysOk [(0, 5)] rfl (by repeat' (first | exact trivial | exact rfl | refine And.intro ?_ ?_)) (by repeat' (first | exact trivial | exact rfl | refine And.intro ?_ ?_)) rfl rfl
end
end Cw
