/- InodeWrites: whatever the arguments: the law returns true, and its arguments read as they did. No condition. -/
import Derived.Test.YtigaallhjlmhbaaRows
import Derived.Test.YtigaallhjlmhbaaInoT2
import Derived.Test.YtigaallhjlmhbaaOpen
import Derived.Test.YtigaallhjlmhbaaFactsB
import Derived.Test.YtigaallhjlmhbaaFactsC
import Derived.Test.YtigaallhjlmhbaaFactsD
namespace Go.Proofs.Ytigaallhjlmhbaa
open Go.ChangeShapes Go.WideShapes Go.ChangeAt Go.RowKit Go.Joins


theorem ino_cells (cs : List Value) (h : Cw.AllK [0, 0, 0, 0, 0, 0, 0, 0, 0, 0, 0, 0, 0, 0] cs) : ∃ m : Cw.Ino, Value.agg cs.toArray = Cw.ival m := by
  obtain ⟨_, _, rfl, ⟨x0, rfl, _⟩, _, _, rfl, ⟨x1, rfl, _⟩, _, _, rfl, ⟨x2, rfl, _⟩, _, _, rfl, ⟨x3, rfl, _⟩, _, _, rfl, ⟨x4, rfl, _⟩, _, _, rfl, ⟨x5, rfl, _⟩, _, _, rfl, ⟨x6, rfl, _⟩, _, _, rfl, ⟨x7, rfl, _⟩, _, _, rfl, ⟨x8, rfl, _⟩, _, _, rfl, ⟨x9, rfl, _⟩, _, _, rfl, ⟨x10, rfl, _⟩, _, _, rfl, ⟨x11, rfl, _⟩, _, _, rfl, ⟨x12, rfl, _⟩, _, _, rfl, ⟨x13, rfl, _⟩, h3⟩ := h
  have h3' : _ = [] := h3
  subst h3'
  exact ⟨⟨x0, x1, x2, x3, x4, fun i => [x5, x6, x7, x8, x9, x10, x11, x12].getD i 0, x13⟩, rfl⟩

set_option maxRecDepth 100000 in
theorem inodeWrites_lifted (os : Os) (started : os.Started) (H : Type) (enc : TypeId × Value → H) :
    ReturnsInHanded {} Try.checked os 6 .any (Rows.inodeWritesSpec.pre6 enc Try.prog Try.f6 Rows.inodeWritesRow.domain false) (Rows.inodeWritesSpec.post enc Try.prog Try.f6 false true false false) := by
  refine returnsInHanded_of_change (C := Try.checked) Try.own started (by kernel_rfl) Try.func6
    (ChangeSpec.witness6 (enc := enc) (C := Try.checked) false ⟨#[], #[.agg #[.int .i64 0, .int .i64 0, .int .i64 0], .agg #[.int .i64 0, .int .i64 0, .int .i64 0, .int .i64 0, .int .i64 0, .int .i64 0, .int .i64 0, .int .i64 0, .int .i64 0, .int .i64 0, .int .i64 0, .int .i64 0, .int .i64 0, .int .i64 0]], []⟩ 8 (by kernel_rfl) (by kernel_rfl) (by kernel_rfl) (by kernel_rfl)) ?_
  intro W base args ds gs before hval0 hW hcnd _
  have hval : ∀ (j : Nat) t v, Try.f6.params[j]? = some t → args[j]? = some v → Value.okWide Try.prog W .any base t v := hval0
  have hW' := hW
  obtain ⟨p, q, hA0, hV, rfl, hfz, hnd⟩ := hW
  have hA : DataW.TrodAll enc Try.prog W 0 (fun _ => true) true Try.f6.params.toList args.toList ds p := hA0
  rw [Try.params6] at hA hval
  obtain ⟨v0, v1, d0, d1, p0, p1, rfl, rfl, hpp, h0, h1⟩ := trodAll_two hA
  obtain ⟨rfl, rfl⟩ := trodVars_none hV
  obtain ⟨a, b, c, rfl, wa, wb, wc⟩ := Cw.open_three Try.underlying34 (by kernel_rfl) (by kernel_rfl) Try.underlying3 rfl rfl rfl (hval 0 34 v0 rfl rfl) h0
  obtain ⟨cs1, rfl, hk1⟩ := Cw.open_flat 4 (t := 55) (ks := [0, 0, 0, 0, 0, 0, 0, 0, 0, 0, 0, 0, 0, 0]) (by kernel_rfl) (by first | exact Or.inl ⟨_, Try.underlying55⟩ | exact Or.inr ⟨_, _, Try.underlying55⟩) (hval 1 55 v1 rfl rfl) h1
  obtain ⟨m, hm⟩ := ino_cells cs1 hk1
  rw [hm] at hW' ⊢
  refine (Cw.inodeWrites_true a b c m W).mono fun e W' ⟨he, hb⟩ => ⟨.bool true, he, ?_⟩
  exact Cw.post_law Try.laidOut rfl Try.underlying4 rfl (by kernel_rfl) hW' rfl hb
set_option maxRecDepth 100000 in
set_option maxHeartbeats 8000000 in
theorem inodeWrites_closed : joinedFacts Try.pinned.checked.prog 6 Try.f6 Rows.inodeWritesSpec Rows.inodeWritesRow = true := by
  unfold joinedFacts
  exact band (band (band (band (band (band (band (band (band (band (band (band (band (band (band (band (band (band (band (band (band (band (band (band (band (band (band (band (band (band (band (by as_aux_lemma => kernel_rfl) Try.laidOut) f_maps) (by as_aux_lemma => kernel_rfl)) (by as_aux_lemma => kernel_rfl)) (by as_aux_lemma => kernel_rfl)) (by as_aux_lemma => kernel_rfl)) (by as_aux_lemma => kernel_rfl)) (by as_aux_lemma => kernel_rfl)) (by as_aux_lemma => kernel_rfl)) (by as_aux_lemma => kernel_rfl)) (by as_aux_lemma => kernel_rfl)) (by as_aux_lemma => kernel_rfl)) (by as_aux_lemma => kernel_rfl)) (by as_aux_lemma => kernel_rfl)) (by as_aux_lemma => kernel_rfl)) (by as_aux_lemma => kernel_rfl)) (by as_aux_lemma => kernel_rfl)) (by as_aux_lemma => kernel_rfl)) (by as_aux_lemma => kernel_rfl)) (by as_aux_lemma => kernel_rfl)) (by as_aux_lemma => kernel_rfl)) f_keys) (by as_aux_lemma => kernel_rfl)) f_heard) f_enter) f_lift) f_make) (by as_aux_lemma => kernel_rfl)) (by as_aux_lemma => kernel_rfl)) (by as_aux_lemma => kernel_rfl)) (by as_aux_lemma => kernel_rfl)
theorem inodeWrites_named : Try.pinned.checked.prog.funcNamed Rows.inodeWritesRow.func = some 6 := by kernel_rfl
theorem inodeWrites_inst : decide (Try.f6.isInstance Try.pinned.checked.prog Rows.inodeWritesRow.origin Rows.inodeWritesRow.targs) = true := by kernel_rfl
theorem inodeWrites_holds : Rows.InodeWritesSaid :=
  OpenClaim.holds_of_wide 6 Try.f6 rfl rfl rfl rfl rfl rfl rfl ⟨rfl, rfl, rfl, rfl, rfl⟩ rfl rfl rfl rfl rfl inodeWrites_named Try.func6 inodeWrites_closed
    (of_decide_eq_true inodeWrites_inst) (by unfold Func.isWrapper; rw [if_neg (of_decide_eq_false (by kernel_rfl))]; exact ⟨rfl, rfl⟩)
    (fun os started H enc _ => inodeWrites_lifted os started H enc)
end Go.Proofs.Ytigaallhjlmhbaa
