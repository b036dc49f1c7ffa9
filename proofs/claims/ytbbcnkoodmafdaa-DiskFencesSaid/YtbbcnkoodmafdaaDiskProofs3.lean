/- DiskFences: whatever the arguments: the law returns true, and its arguments read as they did. No condition. -/
import Derived.Test.YtbbcnkoodmafdaaRows
import Derived.Test.YtbbcnkoodmafdaaDisk11
import Derived.Test.YtbbcnkoodmafdaaOpen
import Derived.Test.YtbbcnkoodmafdaaFactsB
import Derived.Test.YtbbcnkoodmafdaaFactsC
import Derived.Test.YtbbcnkoodmafdaaFactsD
namespace Go.Proofs.Ytbbcnkoodmafdaa
open Go.ChangeShapes Go.WideShapes Go.ChangeAt Go.RowKit Go.Joins

theorem flat_acts : ∀ (L : List (List Value)), (∀ r ∈ L, Cw.AllK [0, 0, 0, 0, 0, 1, 2, 0, 1, 0, 1] r) → ∃ M : List Cw.Act, L.length = M.length ∧ L.flatten = Cw.acells M ∧ ∀ a ∈ M, a.text.size ≤ maxLen ∧ a.wb.size ≤ maxLen ∧ a.nb.size ≤ maxLen
  | [], _ => ⟨[], rfl, rfl, by simp⟩
  | r :: L, h => by
    obtain ⟨M, h1, h2, h4⟩ := flat_acts L fun r hr => h r (List.mem_cons.2 (.inr hr))
    obtain ⟨_, _, rfl, ⟨a0, rfl, _⟩, _, _, rfl, ⟨a1, rfl, _⟩, _, _, rfl, ⟨a2, rfl, _⟩, _, _, rfl, ⟨a3, rfl, _⟩, _, _, rfl, ⟨a4, rfl, _⟩, _, _, rfl, ⟨a5, rfl, z5⟩, _, _, rfl, ⟨a6, rfl⟩, _, _, rfl, ⟨a7, rfl, _⟩, _, _, rfl, ⟨a8, rfl, z8⟩, _, _, rfl, ⟨a9, rfl, _⟩, _, _, rfl, ⟨a10, rfl, z10⟩, h3⟩ := h r (by simp)
    have h3' : _ = [] := h3
    subst h3'
    exact ⟨⟨a0, a1, a2, a3, a4, a5, a6, a7, a8, a9, a10⟩ :: M, by simp [h1], by simp [h2, Cw.acells, Cw.Act.cells], by simp; exact ⟨⟨z5, z8, z10⟩, h4⟩⟩

set_option maxRecDepth 100000 in
theorem diskFences_lifted (os : Os) (started : os.Started) (H : Type) (enc : TypeId × Value → H) :
    ReturnsInHanded {} Try.checked os 4 .any (Rows.diskFencesSpec.pre6 enc Try.prog Try.f4 Rows.diskFencesRow.domain false) (Rows.diskFencesSpec.post enc Try.prog Try.f4 false true false false) := by
  refine returnsInHanded_of_change_sized (C := Try.checked) Try.own started (by kernel_rfl) Try.func4
    (ChangeSpec.witness6 (enc := enc) (C := Try.checked) false ⟨#[], #[.slice none 0 0], []⟩ 8 (by kernel_rfl) (by kernel_rfl) (by kernel_rfl) (by kernel_rfl)) ?_
  intro W base args ds gs before hval0 hW hcnd hsz0 _
  have hval : ∀ (j : Nat) t v, Try.f4.params[j]? = some t → args[j]? = some v → Value.okWide Try.prog W .any base t v := hval0
  have hsz : (DataW.weightsEach Try.prog (Try.f4.params.toList ++ Rows.diskFencesSpec.plain.varTypes Try.prog) (ds ++ gs)).all (· ≤ reachBytes) = true := hsz0
  have hW' := hW
  obtain ⟨p, q, hA0, hV, rfl, hfz, hnd⟩ := hW
  have hA : DataW.TrodAll enc Try.prog W 0 (fun _ => true) true Try.f4.params.toList args.toList ds p := hA0
  rw [Try.params4] at hA hval hsz
  obtain ⟨v0, d0, rfl, rfl, h0⟩ := trodAll_one hA
  obtain ⟨rfl, rfl⟩ := trodVars_none hV
  obtain ⟨A0, c0, L0, rfl, hL0, hR0, hD0⟩ := Cw.open_rows 4 (ks := [0, 0, 0, 0, 0, 1, 2, 0, 1, 0, 1]) Try.underlying36 (by kernel_rfl) (by kernel_rfl) (by decide) (Cw.okWide_slice Try.underlying36 (hval 0 36 v0 rfl rfl)) h0
  have hz0 := Cw.sized_rows hsz 0 (t := 36) (e := 41) (b := 112) rfl rfl Try.underlying36 (by kernel_rfl) hD0
  obtain ⟨M0, hM01, hM02, hM03⟩ := flat_acts L0 hL0
  rw [hM01, hM02] at hR0
  rw [hM01] at hz0 hW' ⊢
  refine (Cw.diskFences_true M0 A0 c0 W (fun a ha => (hM03 a ha).1) (by omega) hR0).mono fun e W' ⟨he, hb⟩ => ⟨.bool true, he, ?_⟩
  exact Cw.post_law Try.laidOut rfl Try.underlying4 rfl (by kernel_rfl) hW' rfl hb
set_option maxRecDepth 100000 in
set_option maxHeartbeats 8000000 in
theorem diskFences_closed : joinedFacts Try.pinned.checked.prog 4 Try.f4 Rows.diskFencesSpec Rows.diskFencesRow = true := by
  unfold joinedFacts
  exact band (band (band (band (band (band (band (band (band (band (band (band (band (band (band (band (band (band (band (band (band (band (band (band (band (band (band (band (band (band (band (by as_aux_lemma => kernel_rfl) Try.laidOut) f_maps) (by as_aux_lemma => kernel_rfl)) (by as_aux_lemma => kernel_rfl)) (by as_aux_lemma => kernel_rfl)) (by as_aux_lemma => kernel_rfl)) (by as_aux_lemma => kernel_rfl)) (by as_aux_lemma => kernel_rfl)) (by as_aux_lemma => kernel_rfl)) (by as_aux_lemma => kernel_rfl)) (by as_aux_lemma => kernel_rfl)) (by as_aux_lemma => kernel_rfl)) (by as_aux_lemma => kernel_rfl)) (by as_aux_lemma => kernel_rfl)) (by as_aux_lemma => kernel_rfl)) (by as_aux_lemma => kernel_rfl)) (by as_aux_lemma => kernel_rfl)) (by as_aux_lemma => kernel_rfl)) (by as_aux_lemma => kernel_rfl)) (by as_aux_lemma => kernel_rfl)) (by as_aux_lemma => kernel_rfl)) f_keys) (by as_aux_lemma => kernel_rfl)) f_heard) f_enter) f_lift) f_make) (by as_aux_lemma => kernel_rfl)) (by as_aux_lemma => kernel_rfl)) (by as_aux_lemma => kernel_rfl)) (by as_aux_lemma => kernel_rfl)
theorem diskFences_named : Try.pinned.checked.prog.funcNamed Rows.diskFencesRow.func = some 4 := by kernel_rfl
theorem diskFences_inst : decide (Try.f4.isInstance Try.pinned.checked.prog Rows.diskFencesRow.origin Rows.diskFencesRow.targs) = true := by kernel_rfl
theorem diskFences_holds : Rows.DiskFencesSaid :=
  OpenClaim.holds_of_wide 4 Try.f4 rfl rfl rfl rfl rfl rfl rfl ⟨rfl, rfl, rfl, rfl, rfl⟩ rfl rfl rfl rfl rfl diskFences_named Try.func4 diskFences_closed
    (of_decide_eq_true diskFences_inst) (by unfold Func.isWrapper; rw [if_neg (of_decide_eq_false (by kernel_rfl))]; exact ⟨rfl, rfl⟩)
    (fun os started H enc _ => diskFences_lifted os started H enc)
end Go.Proofs.Ytbbcnkoodmafdaa
