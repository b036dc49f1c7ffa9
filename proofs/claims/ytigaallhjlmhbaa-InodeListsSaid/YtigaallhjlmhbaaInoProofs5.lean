/- InodeLists: whatever the arguments: the law returns true, and its arguments read as they did. No condition. -/
import Derived.Test.YtigaallhjlmhbaaRows
import Derived.Test.YtigaallhjlmhbaaInoS
import Derived.Test.YtigaallhjlmhbaaOpen
import Derived.Test.YtigaallhjlmhbaaFactsB
import Derived.Test.YtigaallhjlmhbaaFactsC
import Derived.Test.YtigaallhjlmhbaaFactsD
namespace Go.Proofs.Ytigaallhjlmhbaa
open Go.ChangeShapes Go.WideShapes Go.ChangeAt Go.RowKit Go.Joins

theorem flat_ints : ∀ (L : List (List Value)), (∀ r ∈ L, Cw.AllK [0] r) → ∃ M : List Int, L.length = M.length ∧ L.flatten = Cw.ivs M
  | [], _ => ⟨[], rfl, rfl⟩
  | r :: L, h => by
    obtain ⟨M, h1, h2⟩ := flat_ints L fun r hr => h r (List.mem_cons.2 (.inr hr))
    obtain ⟨_, _, rfl, ⟨x, rfl, _⟩, h3⟩ := h r (by simp)
    have h3' : _ = [] := h3
    subst h3'
    exact ⟨x :: M, by simp [h1], by simp [h2, Cw.ivs]⟩

set_option maxRecDepth 100000 in
theorem inodeLists_lifted (os : Os) (started : os.Started) (H : Type) (enc : TypeId × Value → H) :
    ReturnsInHanded {} Try.checked os 10 .any (Rows.inodeListsSpec.pre6 enc Try.prog Try.f10 Rows.inodeListsRow.domain false) (Rows.inodeListsSpec.post enc Try.prog Try.f10 false true false false) := by
  refine returnsInHanded_of_change_sized (C := Try.checked) Try.own started (by kernel_rfl) Try.func10
    (ChangeSpec.witness6 (enc := enc) (C := Try.checked) false ⟨#[], #[.agg #[.int .i64 0, .int .i64 0, .int .i64 0], .slice none 0 0], []⟩ 8 (by kernel_rfl) (by kernel_rfl) (by kernel_rfl) (by kernel_rfl)) ?_
  intro W base args ds gs before hval0 hW hcnd hsz0 _
  have hval : ∀ (j : Nat) t v, Try.f10.params[j]? = some t → args[j]? = some v → Value.okWide Try.prog W .any base t v := hval0
  have hsz : (DataW.weightsEach Try.prog (Try.f10.params.toList ++ Rows.inodeListsSpec.plain.varTypes Try.prog) (ds ++ gs)).all (· ≤ reachBytes) = true := hsz0
  have hW' := hW
  obtain ⟨p, q, hA0, hV, rfl, hfz, hnd⟩ := hW
  have hA : DataW.TrodAll enc Try.prog W 0 (fun _ => true) true Try.f10.params.toList args.toList ds p := hA0
  rw [Try.params10] at hA hval hsz
  obtain ⟨v0, v1, d0, d1, p0, p1, rfl, rfl, hpp, h0, h1⟩ := trodAll_two hA
  obtain ⟨rfl, rfl⟩ := trodVars_none hV
  obtain ⟨a, b, c, rfl, wa, wb, wc⟩ := Cw.open_three Try.underlying34 (by kernel_rfl) (by kernel_rfl) Try.underlying3 rfl rfl rfl (hval 0 34 v0 rfl rfl) h0
  obtain ⟨A1, c1, L1, rfl, hL1, hR1, hD1⟩ := Cw.open_rows 4 (ks := [0]) Try.underlying42 (by kernel_rfl) (by kernel_rfl) (by decide) (Cw.okWide_slice Try.underlying42 (hval 1 42 v1 rfl rfl)) h1
  have hz1 := Cw.sized_rows hsz 1 (t := 42) (e := 3) (b := 8) rfl rfl Try.underlying42 (by kernel_rfl) hD1
  obtain ⟨M, hM1, hM2⟩ := flat_ints L1 hL1
  rw [hM1, hM2] at hR1
  rw [hM1] at hz1 hW' ⊢
  refine (Cw.inodeLists_true a b c M A1 c1 W (by omega) hR1).mono fun e W' ⟨he, hb⟩ => ⟨.bool true, he, ?_⟩
  exact Cw.post_law Try.laidOut rfl Try.underlying4 rfl (by kernel_rfl) hW' rfl hb
set_option maxRecDepth 100000 in
set_option maxHeartbeats 8000000 in
theorem inodeLists_closed : joinedFacts Try.pinned.checked.prog 10 Try.f10 Rows.inodeListsSpec Rows.inodeListsRow = true := by
  unfold joinedFacts
  exact band (band (band (band (band (band (band (band (band (band (band (band (band (band (band (band (band (band (band (band (band (band (band (band (band (band (band (band (band (band (band (by as_aux_lemma => kernel_rfl) Try.laidOut) f_maps) (by as_aux_lemma => kernel_rfl)) (by as_aux_lemma => kernel_rfl)) (by as_aux_lemma => kernel_rfl)) (by as_aux_lemma => kernel_rfl)) (by as_aux_lemma => kernel_rfl)) (by as_aux_lemma => kernel_rfl)) (by as_aux_lemma => kernel_rfl)) (by as_aux_lemma => kernel_rfl)) (by as_aux_lemma => kernel_rfl)) (by as_aux_lemma => kernel_rfl)) (by as_aux_lemma => kernel_rfl)) (by as_aux_lemma => kernel_rfl)) (by as_aux_lemma => kernel_rfl)) (by as_aux_lemma => kernel_rfl)) (by as_aux_lemma => kernel_rfl)) (by as_aux_lemma => kernel_rfl)) (by as_aux_lemma => kernel_rfl)) (by as_aux_lemma => kernel_rfl)) (by as_aux_lemma => kernel_rfl)) f_keys) (by as_aux_lemma => kernel_rfl)) f_heard) f_enter) f_lift) f_make) (by as_aux_lemma => kernel_rfl)) (by as_aux_lemma => kernel_rfl)) (by as_aux_lemma => kernel_rfl)) (by as_aux_lemma => kernel_rfl)
theorem inodeLists_named : Try.pinned.checked.prog.funcNamed Rows.inodeListsRow.func = some 10 := by kernel_rfl
theorem inodeLists_inst : decide (Try.f10.isInstance Try.pinned.checked.prog Rows.inodeListsRow.origin Rows.inodeListsRow.targs) = true := by kernel_rfl
theorem inodeLists_holds : Rows.InodeListsSaid :=
  OpenClaim.holds_of_wide 10 Try.f10 rfl rfl rfl rfl rfl rfl rfl ⟨rfl, rfl, rfl, rfl, rfl⟩ rfl rfl rfl rfl rfl inodeLists_named Try.func10 inodeLists_closed
    (of_decide_eq_true inodeLists_inst) (by unfold Func.isWrapper; rw [if_neg (of_decide_eq_false (by kernel_rfl))]; exact ⟨rfl, rfl⟩)
    (fun os started H enc _ => inodeLists_lifted os started H enc)
end Go.Proofs.Ytigaallhjlmhbaa
