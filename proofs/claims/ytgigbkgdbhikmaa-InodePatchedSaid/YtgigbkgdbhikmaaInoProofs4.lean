/- InodePatched: whatever the arguments: the law returns true, and its arguments read as they did. No condition. -/
import Derived.Test.YtgigbkgdbhikmaaRows
import Derived.Test.YtgigbkgdbhikmaaInoQ
import Derived.Test.YtgigbkgdbhikmaaOpen
import Derived.Test.YtgigbkgdbhikmaaFactsB
import Derived.Test.YtgigbkgdbhikmaaFactsC
import Derived.Test.YtgigbkgdbhikmaaFactsD
namespace Go.Proofs.Ytgigbkgdbhikmaa
open Go.ChangeShapes Go.WideShapes Go.ChangeAt Go.RowKit Go.Joins

theorem ino_cells (cs : List Value) (h : Cw.AllK [0, 0, 0, 0, 0, 0, 0, 0, 0, 0, 0, 0, 0, 0] cs) : ∃ m : Cw.Ino, Value.agg cs.toArray = Cw.ival m := by
  obtain ⟨_, _, rfl, ⟨x0, rfl, _⟩, _, _, rfl, ⟨x1, rfl, _⟩, _, _, rfl, ⟨x2, rfl, _⟩, _, _, rfl, ⟨x3, rfl, _⟩, _, _, rfl, ⟨x4, rfl, _⟩, _, _, rfl, ⟨x5, rfl, _⟩, _, _, rfl, ⟨x6, rfl, _⟩, _, _, rfl, ⟨x7, rfl, _⟩, _, _, rfl, ⟨x8, rfl, _⟩, _, _, rfl, ⟨x9, rfl, _⟩, _, _, rfl, ⟨x10, rfl, _⟩, _, _, rfl, ⟨x11, rfl, _⟩, _, _, rfl, ⟨x12, rfl, _⟩, _, _, rfl, ⟨x13, rfl, _⟩, h3⟩ := h
  have h3' : _ = [] := h3
  subst h3'
  exact ⟨⟨x0, x1, x2, x3, x4, fun i => [x5, x6, x7, x8, x9, x10, x11, x12].getD i 0, x13⟩, rfl⟩

set_option maxRecDepth 100000 in
theorem inodePatched_lifted (os : Os) (started : os.Started) (H : Type) (enc : TypeId × Value → H) :
    ReturnsInHanded {} Try.checked os 21 .any (Rows.inodePatchedSpec.pre6 enc Try.prog Try.f21 Rows.inodePatchedRow.domain false) (Rows.inodePatchedSpec.post enc Try.prog Try.f21 false true false false) := by
  refine returnsInHanded_of_change (C := Try.checked) Try.own started (by kernel_rfl) Try.func21
    (ChangeSpec.witness6 (enc := enc) (C := Try.checked) false ⟨#[], #[.agg #[.int .i64 0, .int .i64 0, .int .i64 0], .agg #[.int .i64 0, .int .i64 0, .int .i64 0, .int .i64 0, .int .i64 0, .int .i64 0, .int .i64 0, .int .i64 0, .int .i64 0, .int .i64 0, .int .i64 0, .int .i64 0, .int .i64 0, .int .i64 0], .agg #[.int .i64 0, .int .i64 0, .int .i64 0]], []⟩ 8 (by kernel_rfl) (by kernel_rfl) (by kernel_rfl) (by kernel_rfl)) ?_
  intro W base args ds gs before hval0 hW hcnd _
  have hval : ∀ (j : Nat) t v, Try.f21.params[j]? = some t → args[j]? = some v → Value.okWide Try.prog W .any base t v := hval0
  have hW' := hW
  obtain ⟨p, q, hA0, hV, rfl, hfz, hnd⟩ := hW
  have hA : DataW.TrodAll enc Try.prog W 0 (fun _ => true) true Try.f21.params.toList args.toList ds p := hA0
  rw [Try.params21] at hA hval
  obtain ⟨v0, v1, v2, d0, d1, d2, p0, p1, p2, rfl, rfl, hpp, h0, h1, h2⟩ := trodAll_three hA
  obtain ⟨rfl, rfl⟩ := trodVars_none hV
  obtain ⟨a, b, c, rfl, wa, wb, wc⟩ := Cw.open_three Try.underlying32 (by kernel_rfl) (by kernel_rfl) Try.underlying3 rfl rfl rfl (hval 0 32 v0 rfl rfl) h0
  obtain ⟨cs1, rfl, hk1⟩ := Cw.open_flat 4 (t := 79) (ks := [0, 0, 0, 0, 0, 0, 0, 0, 0, 0, 0, 0, 0, 0]) (by kernel_rfl) (by first | exact Or.inl ⟨_, Try.underlying79⟩ | exact Or.inr ⟨_, _, Try.underlying79⟩) (hval 1 79 v1 rfl rfl) h1
  obtain ⟨m, hm⟩ := ino_cells cs1 hk1
  rw [hm] at hW' ⊢
  obtain ⟨p, q, x, rfl, _, _, _⟩ := Cw.open_three Try.underlying105 (by kernel_rfl) (by kernel_rfl) Try.underlying3 rfl rfl rfl (hval 2 105 v2 rfl rfl) h2
  refine (Cw.inodePatched_true a b c m p q x W).mono fun e W' ⟨he, hb⟩ => ⟨.bool true, he, ?_⟩
  exact Cw.post_law Try.laidOut rfl Try.underlying4 rfl (by kernel_rfl) hW' rfl hb
set_option maxRecDepth 100000 in
set_option maxHeartbeats 8000000 in
theorem inodePatched_closed : joinedFacts Try.pinned.checked.prog 21 Try.f21 Rows.inodePatchedSpec Rows.inodePatchedRow = true := by
  unfold joinedFacts
  exact band (band (band (band (band (band (band (band (band (band (band (band (band (band (band (band (band (band (band (band (band (band (band (band (band (band (band (band (band (band (band (by as_aux_lemma => kernel_rfl) Try.laidOut) f_maps) (by as_aux_lemma => kernel_rfl)) (by as_aux_lemma => kernel_rfl)) (by as_aux_lemma => kernel_rfl)) (by as_aux_lemma => kernel_rfl)) (by as_aux_lemma => kernel_rfl)) (by as_aux_lemma => kernel_rfl)) (by as_aux_lemma => kernel_rfl)) (by as_aux_lemma => kernel_rfl)) (by as_aux_lemma => kernel_rfl)) (by as_aux_lemma => kernel_rfl)) (by as_aux_lemma => kernel_rfl)) (by as_aux_lemma => kernel_rfl)) (by as_aux_lemma => kernel_rfl)) (by as_aux_lemma => kernel_rfl)) (by as_aux_lemma => kernel_rfl)) (by as_aux_lemma => kernel_rfl)) (by as_aux_lemma => kernel_rfl)) (by as_aux_lemma => kernel_rfl)) (by as_aux_lemma => kernel_rfl)) f_keys) (by as_aux_lemma => kernel_rfl)) f_heard) f_enter) f_lift) f_make) (by as_aux_lemma => kernel_rfl)) (by as_aux_lemma => kernel_rfl)) (by as_aux_lemma => kernel_rfl)) (by as_aux_lemma => kernel_rfl)
theorem inodePatched_named : Try.pinned.checked.prog.funcNamed Rows.inodePatchedRow.func = some 21 := by kernel_rfl
theorem inodePatched_inst : decide (Try.f21.isInstance Try.pinned.checked.prog Rows.inodePatchedRow.origin Rows.inodePatchedRow.targs) = true := by kernel_rfl
theorem inodePatched_holds : Rows.InodePatchedSaid :=
  OpenClaim.holds_of_wide 21 Try.f21 rfl rfl rfl rfl rfl rfl rfl ⟨rfl, rfl, rfl, rfl, rfl⟩ rfl rfl rfl rfl rfl inodePatched_named Try.func21 inodePatched_closed
    (of_decide_eq_true inodePatched_inst) (by unfold Func.isWrapper; rw [if_neg (of_decide_eq_false (by kernel_rfl))]; exact ⟨rfl, rfl⟩)
    (fun os started H enc _ => inodePatched_lifted os started H enc)
end Go.Proofs.Ytgigbkgdbhikmaa
