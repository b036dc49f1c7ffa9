/- LeaseBinds: whatever the arguments: the law returns true, and its arguments read as they did. No condition. -/
import Derived.Test.YtmhbblieldglmaaRows
import Derived.Test.YtmhbblieldglmaaLeaB
import Derived.Test.YtmhbblieldglmaaOpen
import Derived.Test.YtmhbblieldglmaaFactsB
import Derived.Test.YtmhbblieldglmaaFactsC
import Derived.Test.YtmhbblieldglmaaFactsD
namespace Go.Proofs.Ytmhbblieldglmaa
open Go.ChangeShapes Go.WideShapes Go.ChangeAt Go.RowKit Go.Joins

theorem flat_ints : ∀ (L : List (List Value)), (∀ r ∈ L, Cw.AllK [0] r) → ∃ M : List Int, L.length = M.length ∧ L.flatten = Cw.ivs M
  | [], _ => ⟨[], rfl, rfl⟩
  | r :: L, h => by
    obtain ⟨M, h1, h2⟩ := flat_ints L fun r hr => h r (List.mem_cons.2 (.inr hr))
    obtain ⟨_, _, rfl, ⟨x, rfl, _⟩, h3⟩ := h r (by simp)
    have h3' : _ = [] := h3
    subst h3'
    exact ⟨x :: M, by simp [h1], by simp [h2, Cw.ivs]⟩

set_option maxRecDepth 100000 in
theorem leaseBinds_lifted (os : Os) (started : os.Started) (H : Type) (enc : TypeId × Value → H) :
    ReturnsInHanded {} Try.checked os 5 .any (Rows.leaseBindsSpec.pre6 enc Try.prog Try.f5 Rows.leaseBindsRow.domain false) (Rows.leaseBindsSpec.post enc Try.prog Try.f5 false true false false) := by
  refine returnsInHanded_of_change_sized (C := Try.checked) Try.own started (by kernel_rfl) Try.func5
    (ChangeSpec.witness6 (enc := enc) (C := Try.checked) false ⟨#[], #[.slice none 0 0, .slice none 0 0], []⟩ 8 (by kernel_rfl) (by kernel_rfl) (by kernel_rfl) (by kernel_rfl)) ?_
  intro W base args ds gs before hval0 hW hcnd hsz0 _
  have hval : ∀ (j : Nat) t v, Try.f5.params[j]? = some t → args[j]? = some v → Value.okWide Try.prog W .any base t v := hval0
  have hsz : (DataW.weightsEach Try.prog (Try.f5.params.toList ++ Rows.leaseBindsSpec.plain.varTypes Try.prog) (ds ++ gs)).all (· ≤ reachBytes) = true := hsz0
  have hW' := hW
  obtain ⟨p, q, hA0, hV, rfl, hfz, hnd⟩ := hW
  have hA : DataW.TrodAll enc Try.prog W 0 (fun _ => true) true Try.f5.params.toList args.toList ds p := hA0
  rw [Try.params5] at hA hval hsz
  obtain ⟨v0, v1, d0, d1, p0, p1, rfl, rfl, hpp, h0, h1⟩ := trodAll_two hA
  obtain ⟨rfl, rfl⟩ := trodVars_none hV
  obtain ⟨A0, c0, L0, rfl, hL0, hR0, hD0⟩ := Cw.open_rows 4 (ks := [0]) Try.underlying22 (by kernel_rfl) (by kernel_rfl) (by decide) (Cw.okWide_slice Try.underlying22 (hval 0 22 v0 rfl rfl)) h0
  have hz0 := Cw.sized_rows hsz 0 (t := 22) (e := 3) (b := 8) rfl rfl Try.underlying22 (by kernel_rfl) hD0
  obtain ⟨A1, c1, L1, rfl, hL1, hR1, hD1⟩ := Cw.open_rows 4 (ks := [0]) Try.underlying22 (by kernel_rfl) (by kernel_rfl) (by decide) (Cw.okWide_slice Try.underlying22 (hval 1 22 v1 rfl rfl)) h1
  have hz1 := Cw.sized_rows hsz 1 (t := 22) (e := 3) (b := 8) rfl rfl Try.underlying22 (by kernel_rfl) hD1
  obtain ⟨M0, hM01, hM02⟩ := flat_ints L0 hL0
  obtain ⟨M1, hM11, hM12⟩ := flat_ints L1 hL1
  rw [hM01, hM02] at hR0
  rw [hM11, hM12] at hR1
  rw [hM01] at hz0 hW' ⊢
  rw [hM11] at hz1 hW' ⊢
  refine (Cw.leaseBinds_true M0 M1 A0 A1 c0 c1 W (by omega) (by omega) hR0 hR1).mono fun e W' ⟨he, hb⟩ => ⟨.bool true, he, ?_⟩
  exact Cw.post_law Try.laidOut rfl Try.underlying4 rfl (by kernel_rfl) hW' rfl hb
set_option maxRecDepth 100000 in
set_option maxHeartbeats 8000000 in
theorem leaseBinds_closed : joinedFacts Try.pinned.checked.prog 5 Try.f5 Rows.leaseBindsSpec Rows.leaseBindsRow = true := by
  unfold joinedFacts
  exact band (band (band (band (band (band (band (band (band (band (band (band (band (band (band (band (band (band (band (band (band (band (band (band (band (band (band (band (band (band (band (by as_aux_lemma => kernel_rfl) Try.laidOut) f_maps) (by as_aux_lemma => kernel_rfl)) (by as_aux_lemma => kernel_rfl)) (by as_aux_lemma => kernel_rfl)) (by as_aux_lemma => kernel_rfl)) (by as_aux_lemma => kernel_rfl)) (by as_aux_lemma => kernel_rfl)) (by as_aux_lemma => kernel_rfl)) (by as_aux_lemma => kernel_rfl)) (by as_aux_lemma => kernel_rfl)) (by as_aux_lemma => kernel_rfl)) (by as_aux_lemma => kernel_rfl)) (by as_aux_lemma => kernel_rfl)) (by as_aux_lemma => kernel_rfl)) (by as_aux_lemma => kernel_rfl)) (by as_aux_lemma => kernel_rfl)) (by as_aux_lemma => kernel_rfl)) (by as_aux_lemma => kernel_rfl)) (by as_aux_lemma => kernel_rfl)) (by as_aux_lemma => kernel_rfl)) f_keys) (by as_aux_lemma => kernel_rfl)) f_heard) f_enter) f_lift) f_make) (by as_aux_lemma => kernel_rfl)) (by as_aux_lemma => kernel_rfl)) (by as_aux_lemma => kernel_rfl)) (by as_aux_lemma => kernel_rfl)
theorem leaseBinds_named : Try.pinned.checked.prog.funcNamed Rows.leaseBindsRow.func = some 5 := by kernel_rfl
theorem leaseBinds_inst : decide (Try.f5.isInstance Try.pinned.checked.prog Rows.leaseBindsRow.origin Rows.leaseBindsRow.targs) = true := by kernel_rfl
theorem leaseBinds_holds : Rows.LeaseBindsSaid :=
  OpenClaim.holds_of_wide 5 Try.f5 rfl rfl rfl rfl rfl rfl rfl ⟨rfl, rfl, rfl, rfl, rfl⟩ rfl rfl rfl rfl rfl leaseBinds_named Try.func5 leaseBinds_closed
    (of_decide_eq_true leaseBinds_inst) (by unfold Func.isWrapper; rw [if_neg (of_decide_eq_false (by kernel_rfl))]; exact ⟨rfl, rfl⟩)
    (fun os started H enc _ => leaseBinds_lifted os started H enc)
end Go.Proofs.Ytmhbblieldglmaa
