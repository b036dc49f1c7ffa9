/- LeaseNoKnot: whatever the arguments: the law returns true, and its arguments read as they did. No condition. -/
import Derived.Test.YtmhbblieldglmaaRows
import Derived.Test.YtmhbblieldglmaaLeaK
import Derived.Test.YtmhbblieldglmaaOpen
import Derived.Test.YtmhbblieldglmaaFactsB
import Derived.Test.YtmhbblieldglmaaFactsC
import Derived.Test.YtmhbblieldglmaaFactsD
namespace Go.Proofs.Ytmhbblieldglmaa
open Go.ChangeShapes Go.WideShapes Go.ChangeAt Go.RowKit Go.Joins

theorem flat_ints : ∀ (L : List (List Value)), (∀ r ∈ L, Cw.AllK [0] r) → ∃ M : List Int, L.length = M.length ∧ L.flatten = Cw.ivs M
  | [], _ => ⟨[], rfl, rfl⟩
  | r :: L, h => by
    obtain ⟨M, h1, h2⟩ := flat_ints L fun r hr => h r (List.mem_cons.2 (.inr hr))
    obtain ⟨_, _, rfl, ⟨x, rfl, _⟩, h3⟩ := h r (by simp)
    have h3' : _ = [] := h3
    subst h3'
    exact ⟨x :: M, by simp [h1], by simp [h2, Cw.ivs]⟩

set_option maxRecDepth 100000 in
theorem leaseNoKnot_lifted (os : Os) (started : os.Started) (H : Type) (enc : TypeId × Value → H) :
    ReturnsInHanded {} Try.checked os 4 .any (Rows.leaseNoKnotSpec.pre6 enc Try.prog Try.f4 Rows.leaseNoKnotRow.domain false) (Rows.leaseNoKnotSpec.post enc Try.prog Try.f4 false true false false) := by
  refine returnsInHanded_of_change_sized (C := Try.checked) Try.own started (by kernel_rfl) Try.func4
    (ChangeSpec.witness6 (enc := enc) (C := Try.checked) false ⟨#[], #[.slice none 0 0, .slice none 0 0, .slice none 0 0], []⟩ 8 (by kernel_rfl) (by kernel_rfl) (by kernel_rfl) (by kernel_rfl)) ?_
  intro W base args ds gs before hval0 hW hcnd hsz0 _
  have hval : ∀ (j : Nat) t v, Try.f4.params[j]? = some t → args[j]? = some v → Value.okWide Try.prog W .any base t v := hval0
  have hsz : (DataW.weightsEach Try.prog (Try.f4.params.toList ++ Rows.leaseNoKnotSpec.plain.varTypes Try.prog) (ds ++ gs)).all (· ≤ reachBytes) = true := hsz0
  have hW' := hW
  obtain ⟨p, q, hA0, hV, rfl, hfz, hnd⟩ := hW
  have hA : DataW.TrodAll enc Try.prog W 0 (fun _ => true) true Try.f4.params.toList args.toList ds p := hA0
  rw [Try.params4] at hA hval hsz
  obtain ⟨v0, v1, v2, d0, d1, d2, p0, p1, p2, rfl, rfl, hpp, h0, h1, h2⟩ := trodAll_three hA
  obtain ⟨rfl, rfl⟩ := trodVars_none hV
  obtain ⟨A0, c0, L0, rfl, hL0, hR0, hD0⟩ := Cw.open_rows 4 (ks := [0]) Try.underlying22 (by kernel_rfl) (by kernel_rfl) (by decide) (Cw.okWide_slice Try.underlying22 (hval 0 22 v0 rfl rfl)) h0
  have hz0 := Cw.sized_rows hsz 0 (t := 22) (e := 3) (b := 8) rfl rfl Try.underlying22 (by kernel_rfl) hD0
  obtain ⟨A1, c1, L1, rfl, hL1, hR1, hD1⟩ := Cw.open_rows 4 (ks := [0]) Try.underlying22 (by kernel_rfl) (by kernel_rfl) (by decide) (Cw.okWide_slice Try.underlying22 (hval 1 22 v1 rfl rfl)) h1
  have hz1 := Cw.sized_rows hsz 1 (t := 22) (e := 3) (b := 8) rfl rfl Try.underlying22 (by kernel_rfl) hD1
  obtain ⟨A2, c2, L2, rfl, hL2, hR2, hD2⟩ := Cw.open_rows 4 (ks := [0]) Try.underlying22 (by kernel_rfl) (by kernel_rfl) (by decide) (Cw.okWide_slice Try.underlying22 (hval 2 22 v2 rfl rfl)) h2
  have hz2 := Cw.sized_rows hsz 2 (t := 22) (e := 3) (b := 8) rfl rfl Try.underlying22 (by kernel_rfl) hD2
  obtain ⟨M0, hM01, hM02⟩ := flat_ints L0 hL0
  obtain ⟨M1, hM11, hM12⟩ := flat_ints L1 hL1
  obtain ⟨M2, hM21, hM22⟩ := flat_ints L2 hL2
  rw [hM01, hM02] at hR0
  rw [hM11, hM12] at hR1
  rw [hM21, hM22] at hR2
  rw [hM01] at hz0 hW' ⊢
  rw [hM11] at hz1 hW' ⊢
  rw [hM21] at hz2 hW' ⊢
  refine (Cw.noKnot_true M0 M1 M2 A0 A1 A2 c0 c1 c2 W (by omega) (by omega) (by omega) hR0 hR1 hR2).mono fun e W' ⟨he, hb⟩ => ⟨.bool true, he, ?_⟩
  exact Cw.post_law Try.laidOut rfl Try.underlying4 rfl (by kernel_rfl) hW' rfl hb
set_option maxRecDepth 100000 in
set_option maxHeartbeats 8000000 in
theorem leaseNoKnot_closed : joinedFacts Try.pinned.checked.prog 4 Try.f4 Rows.leaseNoKnotSpec Rows.leaseNoKnotRow = true := by
  unfold joinedFacts
  exact band (band (band (band (band (band (band (band (band (band (band (band (band (band (band (band (band (band (band (band (band (band (band (band (band (band (band (band (band (band (band (by as_aux_lemma => kernel_rfl) Try.laidOut) f_maps) (by as_aux_lemma => kernel_rfl)) (by as_aux_lemma => kernel_rfl)) (by as_aux_lemma => kernel_rfl)) (by as_aux_lemma => kernel_rfl)) (by as_aux_lemma => kernel_rfl)) (by as_aux_lemma => kernel_rfl)) (by as_aux_lemma => kernel_rfl)) (by as_aux_lemma => kernel_rfl)) (by as_aux_lemma => kernel_rfl)) (by as_aux_lemma => kernel_rfl)) (by as_aux_lemma => kernel_rfl)) (by as_aux_lemma => kernel_rfl)) (by as_aux_lemma => kernel_rfl)) (by as_aux_lemma => kernel_rfl)) (by as_aux_lemma => kernel_rfl)) (by as_aux_lemma => kernel_rfl)) (by as_aux_lemma => kernel_rfl)) (by as_aux_lemma => kernel_rfl)) (by as_aux_lemma => kernel_rfl)) f_keys) (by as_aux_lemma => kernel_rfl)) f_heard) f_enter) f_lift) f_make) (by as_aux_lemma => kernel_rfl)) (by as_aux_lemma => kernel_rfl)) (by as_aux_lemma => kernel_rfl)) (by as_aux_lemma => kernel_rfl)
theorem leaseNoKnot_named : Try.pinned.checked.prog.funcNamed Rows.leaseNoKnotRow.func = some 4 := by kernel_rfl
theorem leaseNoKnot_inst : decide (Try.f4.isInstance Try.pinned.checked.prog Rows.leaseNoKnotRow.origin Rows.leaseNoKnotRow.targs) = true := by kernel_rfl
theorem leaseNoKnot_holds : Rows.LeaseNoKnotSaid :=
  OpenClaim.holds_of_wide 4 Try.f4 rfl rfl rfl rfl rfl rfl rfl ⟨rfl, rfl, rfl, rfl, rfl⟩ rfl rfl rfl rfl rfl leaseNoKnot_named Try.func4 leaseNoKnot_closed
    (of_decide_eq_true leaseNoKnot_inst) (by unfold Func.isWrapper; rw [if_neg (of_decide_eq_false (by kernel_rfl))]; exact ⟨rfl, rfl⟩)
    (fun os started H enc _ => leaseNoKnot_lifted os started H enc)
end Go.Proofs.Ytmhbblieldglmaa
