/- The statement SoftDrains: the walk. -/
import Derived.Test.YtclcibpghonidaaGreatDoorSoft
namespace Cw
open Go Vc
open Go.Proofs
set_option maxRecDepth 100000
theorem gdel_head (n k : Int) (l : List (Int × Int)) : gdel n ((n, k) :: l) = l := by
  unfold gdel
  rw [if_pos rfl]
section
variable {H : HL} {nx d q b bd bk r m l : Nat} {b1 b2 b3 : Bool} {V : DV} {W : List (List Int × Option Addr × Nat)} {R : List Ch} {fly : List (Int × Int)} {last node : Int}
theorem leftU1 (hd : lookH H d = some (b1, .cells [.nm l, iT last] 138)) (hl : lookH H l = some (b2, .own 140 6 V.length (dpc V))) :
    FnH Tryz.prog 29 [.c (.p d 0), .c .nsl] H nx ⟨.t (.c (iT (V.length : Nat))), [], [], []⟩ := by
  refine fnR (fn := Tryz.f29) 33 rfl rfl rfl (args' := [.c (.p 0 0), .c .nsl]) (H' := hDp V last) (nx' := 2) (fun e w M => ⟨_, mem_rd (r2p d l) (memDp hd hl) M, rfl⟩) rfl rfl rfl rfl fun w => ?_
  show At _ _ _ _ _ _ [(0, some (false, .cells [.nm 1, iT last] 138)), (1, some (false, .own 140 6 V.length (dpc V)))] 2
  refine rn [(10, .dec true)] rfl (by (repeat' (first | exact trivial | exact rfl | exact trivial | exact fun _ => trivial | rfl | refine And.intro ?_ ?_))) ?_
  exact ret0 tysOk rfl (by repeat' (first | exact trivial | exact rfl | refine And.intro ?_ ?_)) rfl
theorem left1 (hd : lookH H d = some (b1, .ab (depP V R.length b))) (h : DR V W R) :
    FnH Tryz.prog 29 [.c (.nm d), .c .nsl] H nx ⟨.t (.c (iT ((und R).length : Nat))), [], [], []⟩ := by
  have := fnh_in (nx := nx) (u := .c (.nm d)) (bs := [.c .nsl]) (O := depO V R.length b) (x := .p 0 0) (y := .p 0 0) (v' := .t (.c (iT (V.length : Nat)))) (news' := []) hd rfl rfl rfl rfl rfl (nm_ptr2 (k := 2) hd (dep_pins _ _ _) rfl) (leftU1 (d := 0) (l := 1) rfl rfl)
  rw [h.len] at this
  exact this
theorem p_ptr2 {φ : AbP} {O : List (Bool × Ob)} {k : Nat} (hm : lookH H m = some (b1, .pin m bd)) (hO : O[k]? = some (true, .ab φ)) (hp : Pins φ (ptr bd)) : ∀ e e1 w, MemOk H e w → MemOk (newsH 0 O) e1 w → (TV.c (.p m 0)).den e = CV.den e1 (.nm k) := by
  intro e e1 w M M1
  have h1 : e.blk m = bd := (M.ob m b1 _ hm).1.2
  have h2 := hp _ _ _ (M1.ob k true (.ab φ) (by rw [lookH_newsH, if_pos (Nat.zero_le _), Nat.sub_zero]; exact hO)).1.1
  show Value.pointer (some ⟨e.blk m, 0, none⟩) = e1.val k
  rw [h1, h2]
  rfl
theorem leftS (hr : lookH H r = some (true, .ab (sfB R fly node b bd bk))) (hm : lookH H m = some (b1, .pin m bd)) (hrm : r ≠ m) :
    FnH Tryz.prog 29 [.c (.p m 0), .c .nsl] H nx ⟨.t (.c (iT ((und R).length : Nat))), [], [], []⟩ :=
  fnh_ex2 hr (fun _ => absP_stable _ _) fun x => fnh_in (nx := nx) (u := .c (.p m 0)) (bs := [.c .nsl]) (O := sfO x.1.1 x.1.2 R.length fly node b bd bk) (x := .p 0 0) (y := .nm 1) (v' := .t (.c (iT ((und R).length : Nat)))) (news' := []) look_eq rfl rfl rfl rfl rfl (p_ptr2 (k := 1) ((look_ne hrm).trans hm) rfl (dep_pins _ _ _)) (left1 (b1 := true) (V := x.1.1) (b := bd) rfl x.2)
/-- The changes of a side that is shut. -/
theorem spec_rdS {L : LL} {o : Oper} {T : TypeId} {I : Ty} {x : Operand} (hop : o.op = .load T x) (hI : Vc.look T tys = some I) (hsz : I.size = 1) (hmk : ∀ v, mkV I [.raw v] = some (.c (.raw v)))
    (hx : ev L x = some (.c (.p q 0))) (hq : lookH H q = some (b2, .pin q b)) (hm : lookH H m = some (b3, .pin m bd)) (hr : lookH H r = some (b1, .ab (sfB R fly node b bd bk))) : Spec Tryz.prog L H nx o ⟨.t (.c (.p m 0)), [], [], []⟩ := by
  refine ⟨fun F => step_pure fun e a w S' => ?_⟩
  have hT := tysOk _ _ hI
  obtain ⟨⟨y, e1, hv, hO, _⟩, _⟩ := (S'.ob r b1 _ hr).1
  have hblk := (hO 0 _ _ rfl).1.2
  have hp : e1.blk 0 = b := (hO 5 _ _ rfl).1.2
  have hdv : e1.val 1 = ptr bd := dep_pins _ _ _ _ _ _ (hO 1 _ _ rfl).1.1
  have hb : e.blk q = b := (S'.ob q b2 _ hq).1.2
  have hbm : e.blk m = bd := (S'.ob m b3 _ hm).1.2
  rw [hp] at hblk
  have hev : a.eval x = .pointer (some ⟨b, 0, none⟩) := by
    rw [ev_ok S' hx]
    simp only [TV.den, CV.den, hb]
  have hrun := run_loadVar (P := Tryz.prog) (w := w) hT ⟨b, 0, none⟩ e (l := [.raw (ptr bd)]) (by rw [hsz]; rfl) (hmk _) fun j u hu => by
    cases j with
    | zero =>
      rw [lit_add, cell_of_row w b (0 + 0) _ _ (0, 0) hblk]
      simp [CV.den] at hu
      rw [← hu, ← hdv]
      rfl
    | succ j => simp at hu
  simp only [execOp, hop, hev, Instr.loadAt, Instr.sureAddr, Sem.run_bind, Sem.run_pure, Result.andThen_ok, hrun, SV.den, TV.den, CV.den, hbm]
  rfl
end
end Cw
namespace Cw
open Go Vc
open Go.Proofs
set_option maxRecDepth 100000
end Cw
