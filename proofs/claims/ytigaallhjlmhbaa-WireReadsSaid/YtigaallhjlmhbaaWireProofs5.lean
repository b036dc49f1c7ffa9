/- WireReads: whatever the arguments: the law returns true, and its arguments read as they did. No condition. -/
import Derived.Test.YtigaallhjlmhbaaRows
import Derived.Test.YtigaallhjlmhbaaWireT
import Derived.Test.YtigaallhjlmhbaaOpen
import Derived.Test.YtigaallhjlmhbaaFactsB
import Derived.Test.YtigaallhjlmhbaaFactsC
import Derived.Test.YtigaallhjlmhbaaFactsD
namespace Go.Proofs.Ytigaallhjlmhbaa
open Go.ChangeShapes Go.WideShapes Go.ChangeAt Go.RowKit Go.Joins


set_option maxRecDepth 100000 in
theorem wireReads_lifted (os : Os) (started : os.Started) (H : Type) (enc : TypeId × Value → H) :
    ReturnsInHanded {} Try.checked os 4 .any (Rows.wireReadsSpec.pre6 enc Try.prog Try.f4 Rows.wireReadsRow.domain false) (Rows.wireReadsSpec.post enc Try.prog Try.f4 false true false false) := by
  refine returnsInHanded_of_change (C := Try.checked) Try.own started (by kernel_rfl) Try.func4
    (ChangeSpec.witness6 (enc := enc) (C := Try.checked) false ⟨#[], #[.string ⟨#[]⟩], []⟩ 8 (by kernel_rfl) (by kernel_rfl) (by kernel_rfl) (by kernel_rfl)) ?_
  intro W base args ds gs before hval0 hW hcnd _
  have hval : ∀ (j : Nat) t v, Try.f4.params[j]? = some t → args[j]? = some v → Value.okWide Try.prog W .any base t v := hval0
  have hW' := hW
  obtain ⟨p, q, hA0, hV, rfl, hfz, hnd⟩ := hW
  have hA : DataW.TrodAll enc Try.prog W 0 (fun _ => true) true Try.f4.params.toList args.toList ds p := hA0
  rw [Try.params4] at hA hval
  obtain ⟨v0, d0, rfl, rfl, h0⟩ := trodAll_one hA
  obtain ⟨rfl, rfl⟩ := trodVars_none hV
  obtain ⟨s, rfl, _, _, ws⟩ := Go.ChangeMaps.open_string Try.underlying9 (hval 0 9 v0 rfl rfl) h0
  refine (Cw.wireReads_true s ws W).mono fun e W' ⟨he, hb⟩ => ⟨.bool true, he, ?_⟩
  exact Cw.post_law Try.laidOut rfl Try.underlying4 rfl (by kernel_rfl) hW' rfl hb
set_option maxRecDepth 100000 in
set_option maxHeartbeats 8000000 in
theorem wireReads_closed : joinedFacts Try.pinned.checked.prog 4 Try.f4 Rows.wireReadsSpec Rows.wireReadsRow = true := by
  unfold joinedFacts
  exact band (band (band (band (band (band (band (band (band (band (band (band (band (band (band (band (band (band (band (band (band (band (band (band (band (band (band (band (band (band (band (by as_aux_lemma => kernel_rfl) Try.laidOut) f_maps) (by as_aux_lemma => kernel_rfl)) (by as_aux_lemma => kernel_rfl)) (by as_aux_lemma => kernel_rfl)) (by as_aux_lemma => kernel_rfl)) (by as_aux_lemma => kernel_rfl)) (by as_aux_lemma => kernel_rfl)) (by as_aux_lemma => kernel_rfl)) (by as_aux_lemma => kernel_rfl)) (by as_aux_lemma => kernel_rfl)) (by as_aux_lemma => kernel_rfl)) (by as_aux_lemma => kernel_rfl)) (by as_aux_lemma => kernel_rfl)) (by as_aux_lemma => kernel_rfl)) (by as_aux_lemma => kernel_rfl)) (by as_aux_lemma => kernel_rfl)) (by as_aux_lemma => kernel_rfl)) (by as_aux_lemma => kernel_rfl)) (by as_aux_lemma => kernel_rfl)) (by as_aux_lemma => kernel_rfl)) f_keys) (by as_aux_lemma => kernel_rfl)) f_heard) f_enter) f_lift) f_make) (by as_aux_lemma => kernel_rfl)) (by as_aux_lemma => kernel_rfl)) (by as_aux_lemma => kernel_rfl)) (by as_aux_lemma => kernel_rfl)
theorem wireReads_named : Try.pinned.checked.prog.funcNamed Rows.wireReadsRow.func = some 4 := by kernel_rfl
theorem wireReads_inst : decide (Try.f4.isInstance Try.pinned.checked.prog Rows.wireReadsRow.origin Rows.wireReadsRow.targs) = true := by kernel_rfl
theorem wireReads_holds : Rows.WireReadsSaid :=
  OpenClaim.holds_of_wide 4 Try.f4 rfl rfl rfl rfl rfl rfl rfl ⟨rfl, rfl, rfl, rfl, rfl⟩ rfl rfl rfl rfl rfl wireReads_named Try.func4 wireReads_closed
    (of_decide_eq_true wireReads_inst) (by unfold Func.isWrapper; rw [if_neg (of_decide_eq_false (by kernel_rfl))]; exact ⟨rfl, rfl⟩)
    (fun os started H enc _ => wireReads_lifted os started H enc)
end Go.Proofs.Ytigaallhjlmhbaa
