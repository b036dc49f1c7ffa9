/- DepsPlay: whatever the arguments: the law returns true, and its arguments read as they did. No condition. -/
import Derived.Test.YtkmgnfgcgfafcaaRows
import Derived.Test.YtkmgnfgcgfafcaaRDp
import Derived.Test.YtkmgnfgcgfafcaaOpenW
import Derived.Test.YtkmgnfgcgfafcaaFactsB
import Derived.Test.YtkmgnfgcgfafcaaFactsC
import Derived.Test.YtkmgnfgcgfafcaaFactsD
namespace Go.Proofs.Ytkmgnfgcgfafcaa
open Go.ChangeShapes Go.WideShapes Go.ChangeAt Go.RowKit Go.Joins

theorem flat_dacts {W : World} : ∀ (L : List (List Value)), (∀ r ∈ L, Cw.AllW W [0, 0, 0, 1, 3] r) → ∃ M : List Cw.DAct, L.length = M.length ∧ L.flatten = Cw.dacells M ∧ ∀ a ∈ M, a.by'.size ≤ maxLen ∧ Cw.Rds W a.aA a.ah.length a.am 1 (Cw.ivs a.ah) ∧ a.ah.length * 8 ≤ reachBytes
  | [], _ => ⟨[], rfl, rfl, by simp⟩
  | r :: L, h => by
    obtain ⟨M, h1, h2, h4⟩ := flat_dacts L fun r hr => h r (List.mem_cons.2 (.inr hr))
    obtain ⟨_, _, rfl, ⟨a0, rfl, _⟩, _, _, rfl, ⟨a1, rfl, _⟩, _, _, rfl, ⟨a2, rfl, _⟩, _, _, rfl, ⟨a3, rfl, z3⟩, _, _, rfl, ⟨A, c, xs, rfl, q1, q2⟩, h3⟩ := h r (by simp)
    have h3' : _ = [] := h3
    subst h3'
    refine ⟨⟨a0, a1, a2, a3, xs, A, c⟩ :: M, by simp [h1], by simp [h2, Cw.dacells, Cw.fcs, Cw.DAct.cells], fun a ha => ?_⟩
    rcases List.mem_cons.1 ha with rfl | ha
    · exact ⟨z3, q1, q2⟩
    · exact h4 a ha

set_option maxRecDepth 100000 in
theorem depsPlay_lifted (os : Os) (started : os.Started) (H : Type) (enc : TypeId × Value → H) :
    ReturnsInHanded {} Try.checked os 3 .any (Rows.depsPlaySpec.pre6 enc Try.prog Try.f3 Rows.depsPlayRow.domain false) (Rows.depsPlaySpec.post enc Try.prog Try.f3 false true false false) := by
  refine returnsInHanded_of_change_sized (C := Try.checked) Try.own started (by kernel_rfl) Try.func3
    (ChangeSpec.witness6 (enc := enc) (C := Try.checked) false ⟨#[], #[.slice none 0 0], []⟩ 8 (by kernel_rfl) (by kernel_rfl) (by kernel_rfl) (by kernel_rfl)) ?_
  intro W base args ds gs before hval0 hW hcnd hsz0 _
  have hval : ∀ (j : Nat) t v, Try.f3.params[j]? = some t → args[j]? = some v → Value.okWide Try.prog W .any base t v := hval0
  have hsz : (DataW.weightsEach Try.prog (Try.f3.params.toList ++ Rows.depsPlaySpec.plain.varTypes Try.prog) (ds ++ gs)).all (· ≤ reachBytes) = true := hsz0
  have hW' := hW
  obtain ⟨p, q, hA0, hV, rfl, hfz, hnd⟩ := hW
  have hA : DataW.TrodAll enc Try.prog W 0 (fun _ => true) true Try.f3.params.toList args.toList ds p := hA0
  rw [Try.params3] at hA hval hsz
  obtain ⟨v0, d0, rfl, rfl, h0⟩ := trodAll_one hA
  obtain ⟨rfl, rfl⟩ := trodVars_none hV
  obtain ⟨A0, c0, L0, rfl, hL0, hR0, hD0⟩ := Cw.open_rowsW 4 (ks := [0, 0, 0, 1, 3]) Try.underlying22 (by kernel_rfl) (by kernel_rfl) (by decide) (Cw.okWide_slice Try.underlying22 (hval 0 22 v0 rfl rfl)) h0 (Cw.weights_le hsz 0 (t := 22) rfl rfl)
  have hz0 := Cw.sized_rows hsz 0 (t := 22) (e := 36) (b := 64) rfl rfl Try.underlying22 (by kernel_rfl) hD0
  obtain ⟨M0, hM01, hM02, hM03⟩ := flat_dacts L0 hL0
  rw [hM01, hM02] at hR0
  rw [hM01] at hz0 hW' ⊢
  refine (Cw.depsPlay_true M0 A0 c0 W (by omega) (fun a ha => ⟨by have := (hM03 a ha).1; simp only [maxLen] at this; omega, by have := (hM03 a ha).2.2; simp only [reachBytes] at this; omega⟩) (fun a ha => (hM03 a ha).2.1) hR0).mono fun e W' ⟨he, hb⟩ => ⟨.bool true, he, ?_⟩
  exact Cw.post_law Try.laidOut rfl Try.underlying4 rfl (by kernel_rfl) hW' rfl hb
set_option maxRecDepth 100000 in
set_option maxHeartbeats 8000000 in
theorem depsPlay_closed : joinedFacts Try.pinned.checked.prog 3 Try.f3 Rows.depsPlaySpec Rows.depsPlayRow = true := by
  unfold joinedFacts
  exact band (band (band (band (band (band (band (band (band (band (band (band (band (band (band (band (band (band (band (band (band (band (band (band (band (band (band (band (band (band (band (by as_aux_lemma => kernel_rfl) Try.laidOut) f_maps) (by as_aux_lemma => kernel_rfl)) (by as_aux_lemma => kernel_rfl)) (by as_aux_lemma => kernel_rfl)) (by as_aux_lemma => kernel_rfl)) (by as_aux_lemma => kernel_rfl)) (by as_aux_lemma => kernel_rfl)) (by as_aux_lemma => kernel_rfl)) (by as_aux_lemma => kernel_rfl)) (by as_aux_lemma => kernel_rfl)) (by as_aux_lemma => kernel_rfl)) (by as_aux_lemma => kernel_rfl)) (by as_aux_lemma => kernel_rfl)) (by as_aux_lemma => kernel_rfl)) (by as_aux_lemma => kernel_rfl)) (by as_aux_lemma => kernel_rfl)) (by as_aux_lemma => kernel_rfl)) (by as_aux_lemma => kernel_rfl)) (by as_aux_lemma => kernel_rfl)) (by as_aux_lemma => kernel_rfl)) f_keys) (by as_aux_lemma => kernel_rfl)) f_heard) f_enter) f_lift) f_make) (by as_aux_lemma => kernel_rfl)) (by as_aux_lemma => kernel_rfl)) (by as_aux_lemma => kernel_rfl)) (by as_aux_lemma => kernel_rfl)
theorem depsPlay_named : Try.pinned.checked.prog.funcNamed Rows.depsPlayRow.func = some 3 := by kernel_rfl
theorem depsPlay_inst : decide (Try.f3.isInstance Try.pinned.checked.prog Rows.depsPlayRow.origin Rows.depsPlayRow.targs) = true := by kernel_rfl
theorem depsPlay_holds : Rows.DepsPlaySaid :=
  OpenClaim.holds_of_wide 3 Try.f3 rfl rfl rfl rfl rfl rfl rfl ⟨rfl, rfl, rfl, rfl, rfl⟩ rfl rfl rfl rfl rfl depsPlay_named Try.func3 depsPlay_closed
    (of_decide_eq_true depsPlay_inst) (by unfold Func.isWrapper; rw [if_neg (of_decide_eq_false (by kernel_rfl))]; exact ⟨rfl, rfl⟩)
    (fun os started H enc _ => depsPlay_lifted os started H enc)
end Go.Proofs.Ytkmgnfgcgfafcaa
