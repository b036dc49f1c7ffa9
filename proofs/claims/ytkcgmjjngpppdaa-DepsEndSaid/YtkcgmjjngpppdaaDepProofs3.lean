/- DepsEnd: whatever the arguments: the law returns true, and its arguments read as they did. No condition. -/
import Derived.Test.YtkcgmjjngpppdaaRows
import Derived.Test.YtkcgmjjngpppdaaDepE
import Derived.Test.YtkcgmjjngpppdaaOpenW
import Derived.Test.YtkcgmjjngpppdaaFactsB
import Derived.Test.YtkcgmjjngpppdaaFactsC
import Derived.Test.YtkcgmjjngpppdaaFactsD
namespace Go.Proofs.Ytkcgmjjngpppdaa
open Go.ChangeShapes Go.WideShapes Go.ChangeAt Go.RowKit Go.Joins

theorem flat_acs {W : World} : ∀ (L : List (List Value)), (∀ r ∈ L, Cw.AllW W [0, 0, 4, 3] r) → ∃ M : List Cw.AC, L.length = M.length ∧ L.flatten = Cw.acells M ∧ ∀ a ∈ M, Cw.Rds W a.A a.back.length a.m 1 (Cw.ivs a.back) ∧ a.back.length * 8 ≤ reachBytes
  | [], _ => ⟨[], rfl, rfl, by simp⟩
  | r :: L, h => by
    obtain ⟨M, h1, h2, h4⟩ := flat_acs L fun r hr => h r (List.mem_cons.2 (.inr hr))
    obtain ⟨_, _, rfl, ⟨a0, rfl, _⟩, _, _, rfl, ⟨a1, rfl, _⟩, _, _, rfl, ⟨a2, rfl, _⟩, _, _, rfl, ⟨A, c, xs, rfl, q1, q2⟩, h3⟩ := h r (by simp)
    have h3' : _ = [] := h3
    subst h3'
    refine ⟨⟨a0, a1, a2, xs, A, c⟩ :: M, by simp [h1], by simp [h2, Cw.acells, Cw.fcs, Cw.chQ, Cw.AC.q], fun a ha => ?_⟩
    rcases List.mem_cons.1 ha with rfl | ha
    · exact ⟨q1, q2⟩
    · exact h4 a ha
theorem flat_ints {W : World} : ∀ (L : List (List Value)), (∀ r ∈ L, Cw.AllW W [0] r) → ∃ M : List Int, L.length = M.length ∧ L.flatten = Cw.ivs M
  | [], _ => ⟨[], rfl, rfl⟩
  | r :: L, h => by
    obtain ⟨M, h1, h2⟩ := flat_ints L fun r hr => h r (List.mem_cons.2 (.inr hr))
    obtain ⟨_, _, rfl, ⟨x, rfl, _⟩, h3⟩ := h r (by simp)
    have h3' : _ = [] := h3
    subst h3'
    exact ⟨x :: M, by simp [h1], by simp [h2, Cw.ivs]⟩

set_option maxRecDepth 100000 in
theorem depsEnd_lifted (os : Os) (started : os.Started) (H : Type) (enc : TypeId × Value → H) :
    ReturnsInHanded {} Try.checked os 7 .any (Rows.depsEndSpec.pre6 enc Try.prog Try.f7 Rows.depsEndRow.domain false) (Rows.depsEndSpec.post enc Try.prog Try.f7 false true false false) := by
  refine returnsInHanded_of_change_sized (C := Try.checked) Try.own started (by kernel_rfl) Try.func7
    (ChangeSpec.witness6 (enc := enc) (C := Try.checked) false ⟨#[], #[.slice none 0 0, .slice none 0 0], []⟩ 8 (by kernel_rfl) (by kernel_rfl) (by kernel_rfl) (by kernel_rfl)) ?_
  intro W base args ds gs before hval0 hW hcnd hsz0 _
  have hval : ∀ (j : Nat) t v, Try.f7.params[j]? = some t → args[j]? = some v → Value.okWide Try.prog W .any base t v := hval0
  have hsz : (DataW.weightsEach Try.prog (Try.f7.params.toList ++ Rows.depsEndSpec.plain.varTypes Try.prog) (ds ++ gs)).all (· ≤ reachBytes) = true := hsz0
  have hW' := hW
  obtain ⟨p, q, hA0, hV, rfl, hfz, hnd⟩ := hW
  have hA : DataW.TrodAll enc Try.prog W 0 (fun _ => true) true Try.f7.params.toList args.toList ds p := hA0
  rw [Try.params7] at hA hval hsz
  obtain ⟨v0, v1, d0, d1, p0, p1, rfl, rfl, hpp, h0, h1⟩ := trodAll_two hA
  obtain ⟨rfl, rfl⟩ := trodVars_none hV
  obtain ⟨A0, c0, L0, rfl, hL0, hR0, hD0⟩ := Cw.open_rowsW 4 (ks := [0, 0, 4, 3]) Try.underlying54 (by kernel_rfl) (by kernel_rfl) (by decide) (Cw.okWide_slice Try.underlying54 (hval 0 54 v0 rfl rfl)) h0 (Cw.weights_le hsz 0 (t := 54) rfl rfl)
  have hz0 := Cw.sized_rows hsz 0 (t := 54) (e := 64) (b := 48) rfl rfl Try.underlying54 (by kernel_rfl) hD0
  obtain ⟨A1, c1, L1, rfl, hL1, hR1, hD1⟩ := Cw.open_rowsW 4 (ks := [0]) Try.underlying33 (by kernel_rfl) (by kernel_rfl) (by decide) (Cw.okWide_slice Try.underlying33 (hval 1 33 v1 rfl rfl)) h1 (Cw.weights_le hsz 1 (t := 33) rfl rfl)
  have hz1 := Cw.sized_rows hsz 1 (t := 33) (e := 3) (b := 8) rfl rfl Try.underlying33 (by kernel_rfl) hD1
  obtain ⟨M0, hM01, hM02, hM03⟩ := flat_acs L0 hL0
  obtain ⟨M1, hM11, hM12⟩ := flat_ints L1 hL1
  rw [hM01, hM02] at hR0
  rw [hM11, hM12] at hR1
  rw [hM01] at hz0
  rw [hM11] at hz1
  rw [hM01, hM11] at hW' ⊢
  refine (Cw.depsEnd_true M0 M1 A0 A1 c0 c1 W (by omega) (by omega) (fun a ha => by have := (hM03 a ha).2; simp only [reachBytes] at this; omega) (fun a ha => (hM03 a ha).1) hR0 hR1).mono fun e W' ⟨he, hb⟩ => ⟨.bool true, he, ?_⟩
  exact Cw.post_law Try.laidOut rfl Try.underlying4 rfl (by kernel_rfl) hW' rfl hb
set_option maxRecDepth 100000 in
set_option maxHeartbeats 8000000 in
theorem depsEnd_closed : joinedFacts Try.pinned.checked.prog 7 Try.f7 Rows.depsEndSpec Rows.depsEndRow = true := by
  unfold joinedFacts
  exact band (band (band (band (band (band (band (band (band (band (band (band (band (band (band (band (band (band (band (band (band (band (band (band (band (band (band (band (band (band (band (by as_aux_lemma => kernel_rfl) Try.laidOut) f_maps) (by as_aux_lemma => kernel_rfl)) (by as_aux_lemma => kernel_rfl)) (by as_aux_lemma => kernel_rfl)) (by as_aux_lemma => kernel_rfl)) (by as_aux_lemma => kernel_rfl)) (by as_aux_lemma => kernel_rfl)) (by as_aux_lemma => kernel_rfl)) (by as_aux_lemma => kernel_rfl)) (by as_aux_lemma => kernel_rfl)) (by as_aux_lemma => kernel_rfl)) (by as_aux_lemma => kernel_rfl)) (by as_aux_lemma => kernel_rfl)) (by as_aux_lemma => kernel_rfl)) (by as_aux_lemma => kernel_rfl)) (by as_aux_lemma => kernel_rfl)) (by as_aux_lemma => kernel_rfl)) (by as_aux_lemma => kernel_rfl)) (by as_aux_lemma => kernel_rfl)) (by as_aux_lemma => kernel_rfl)) f_keys) (by as_aux_lemma => kernel_rfl)) f_heard) f_enter) f_lift) f_make) (by as_aux_lemma => kernel_rfl)) (by as_aux_lemma => kernel_rfl)) (by as_aux_lemma => kernel_rfl)) (by as_aux_lemma => kernel_rfl)
theorem depsEnd_named : Try.pinned.checked.prog.funcNamed Rows.depsEndRow.func = some 7 := by kernel_rfl
theorem depsEnd_inst : decide (Try.f7.isInstance Try.pinned.checked.prog Rows.depsEndRow.origin Rows.depsEndRow.targs) = true := by kernel_rfl
theorem depsEnd_holds : Rows.DepsEndSaid :=
  OpenClaim.holds_of_wide 7 Try.f7 rfl rfl rfl rfl rfl rfl rfl ⟨rfl, rfl, rfl, rfl, rfl⟩ rfl rfl rfl rfl rfl depsEnd_named Try.func7 depsEnd_closed
    (of_decide_eq_true depsEnd_inst) (by unfold Func.isWrapper; rw [if_neg (of_decide_eq_false (by kernel_rfl))]; exact ⟨rfl, rfl⟩)
    (fun os started H enc _ => depsEnd_lifted os started H enc)
end Go.Proofs.Ytkcgmjjngpppdaa
