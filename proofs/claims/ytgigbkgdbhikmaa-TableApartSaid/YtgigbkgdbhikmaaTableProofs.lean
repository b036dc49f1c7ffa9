/- TableApart: whatever the arguments: the law returns true, and its arguments read as they did. No condition. -/
import Derived.Test.YtgigbkgdbhikmaaRows
import Derived.Test.YtgigbkgdbhikmaaTableW2
import Derived.Test.YtgigbkgdbhikmaaOpen
import Derived.Test.YtgigbkgdbhikmaaFactsB
import Derived.Test.YtgigbkgdbhikmaaFactsC
import Derived.Test.YtgigbkgdbhikmaaFactsD
namespace Go.Proofs.Ytgigbkgdbhikmaa
open Go.ChangeShapes Go.WideShapes Go.ChangeAt Go.RowKit Go.Joins

set_option maxRecDepth 100000 in
theorem tableApart_lifted (os : Os) (started : os.Started) (H : Type) (enc : TypeId × Value → H) :
    ReturnsInHanded {} Try.checked os 5 .any (Rows.tableApartSpec.pre6 enc Try.prog Try.f5 Rows.tableApartRow.domain false) (Rows.tableApartSpec.post enc Try.prog Try.f5 false true false false) := by
  refine returnsInHanded_of_change (C := Try.checked) Try.own started (by kernel_rfl) Try.func5
    (ChangeSpec.witness6 (enc := enc) (C := Try.checked) false ⟨#[], #[.agg #[.int .i64 0, .int .i64 0, .int .i64 0], .agg #[.int .i64 0, .int .i64 0], .agg #[.int .i64 0, .int .i64 0]], []⟩ 8 (by kernel_rfl) (by kernel_rfl) (by kernel_rfl) (by kernel_rfl)) ?_
  intro W base args ds gs before hval0 hW hcnd _
  have hval : ∀ (j : Nat) t v, Try.f5.params[j]? = some t → args[j]? = some v → Value.okWide Try.prog W .any base t v := hval0
  have hW' := hW
  obtain ⟨p, q, hA0, hV, rfl, hfz, hnd⟩ := hW
  have hA : DataW.TrodAll enc Try.prog W 0 (fun _ => true) true Try.f5.params.toList args.toList ds p := hA0
  rw [Try.params5] at hA hval
  obtain ⟨v0, v1, v2, d0, d1, d2, p0, p1, p2, rfl, rfl, hpp, h0, h1, h2⟩ := trodAll_three hA
  obtain ⟨rfl, rfl⟩ := trodVars_none hV
  obtain ⟨a, b, c, rfl, wa, wb, wc⟩ := Cw.open_three Try.underlying32 (by kernel_rfl) (by kernel_rfl) Try.underlying3 rfl rfl rfl (hval 0 32 v0 rfl rfl) h0
  obtain ⟨ra, oa, rfl, wra, woa⟩ := Cw.open_two Try.underlying34 (by kernel_rfl) (by kernel_rfl) Try.underlying3 rfl rfl (hval 1 34 v1 rfl rfl) h1
  obtain ⟨rb, ob, rfl, wrb, wob⟩ := Cw.open_two Try.underlying34 (by kernel_rfl) (by kernel_rfl) Try.underlying3 rfl rfl (hval 2 34 v2 rfl rfl) h2
  refine (Cw.tableApart_true a b c ra oa rb ob W).mono fun e W' ⟨he, hb⟩ => ⟨.bool true, he, ?_⟩
  exact Cw.post_law Try.laidOut rfl Try.underlying4 rfl (by kernel_rfl) hW' rfl hb
set_option maxRecDepth 100000 in
set_option maxHeartbeats 8000000 in
theorem tableApart_closed : joinedFacts Try.pinned.checked.prog 5 Try.f5 Rows.tableApartSpec Rows.tableApartRow = true := by
  unfold joinedFacts
  exact band (band (band (band (band (band (band (band (band (band (band (band (band (band (band (band (band (band (band (band (band (band (band (band (band (band (band (band (band (band (band (by as_aux_lemma => kernel_rfl) Try.laidOut) f_maps) (by as_aux_lemma => kernel_rfl)) (by as_aux_lemma => kernel_rfl)) (by as_aux_lemma => kernel_rfl)) (by as_aux_lemma => kernel_rfl)) (by as_aux_lemma => kernel_rfl)) (by as_aux_lemma => kernel_rfl)) (by as_aux_lemma => kernel_rfl)) (by as_aux_lemma => kernel_rfl)) (by as_aux_lemma => kernel_rfl)) (by as_aux_lemma => kernel_rfl)) (by as_aux_lemma => kernel_rfl)) (by as_aux_lemma => kernel_rfl)) (by as_aux_lemma => kernel_rfl)) (by as_aux_lemma => kernel_rfl)) (by as_aux_lemma => kernel_rfl)) (by as_aux_lemma => kernel_rfl)) (by as_aux_lemma => kernel_rfl)) (by as_aux_lemma => kernel_rfl)) (by as_aux_lemma => kernel_rfl)) f_keys) (by as_aux_lemma => kernel_rfl)) f_heard) f_enter) f_lift) f_make) (by as_aux_lemma => kernel_rfl)) (by as_aux_lemma => kernel_rfl)) (by as_aux_lemma => kernel_rfl)) (by as_aux_lemma => kernel_rfl)
theorem tableApart_named : Try.pinned.checked.prog.funcNamed Rows.tableApartRow.func = some 5 := by kernel_rfl
theorem tableApart_inst : decide (Try.f5.isInstance Try.pinned.checked.prog Rows.tableApartRow.origin Rows.tableApartRow.targs) = true := by kernel_rfl
theorem tableApart_holds : Rows.TableApartSaid :=
  OpenClaim.holds_of_wide 5 Try.f5 rfl rfl rfl rfl rfl rfl rfl ⟨rfl, rfl, rfl, rfl, rfl⟩ rfl rfl rfl rfl rfl tableApart_named Try.func5 tableApart_closed
    (of_decide_eq_true tableApart_inst) (by unfold Func.isWrapper; rw [if_neg (of_decide_eq_false (by kernel_rfl))]; exact ⟨rfl, rfl⟩)
    (fun os started H enc _ => tableApart_lifted os started H enc)
end Go.Proofs.Ytgigbkgdbhikmaa
