/- InodeBack: whatever the arguments: the law returns true, and its arguments read as they did. No condition. -/
import Derived.Test.YtgigbkgdbhikmaaRows
import Derived.Test.YtgigbkgdbhikmaaInoP
import Derived.Test.YtgigbkgdbhikmaaOpen
import Derived.Test.YtgigbkgdbhikmaaFactsB
import Derived.Test.YtgigbkgdbhikmaaFactsC
import Derived.Test.YtgigbkgdbhikmaaFactsD
namespace Go.Proofs.Ytgigbkgdbhikmaa
open Go.ChangeShapes Go.WideShapes Go.ChangeAt Go.RowKit Go.Joins

theorem ino_cells (cs : List Value) (h : Cw.AllK [0, 0, 0, 0, 0, 0, 0, 0, 0, 0, 0, 0, 0, 0] cs) : ∃ m : Cw.Ino, Value.agg cs.toArray = Cw.ival m := by
  obtain ⟨_, _, rfl, ⟨x0, rfl, _⟩, _, _, rfl, ⟨x1, rfl, _⟩, _, _, rfl, ⟨x2, rfl, _⟩, _, _, rfl, ⟨x3, rfl, _⟩, _, _, rfl, ⟨x4, rfl, _⟩, _, _, rfl, ⟨x5, rfl, _⟩, _, _, rfl, ⟨x6, rfl, _⟩, _, _, rfl, ⟨x7, rfl, _⟩, _, _, rfl, ⟨x8, rfl, _⟩, _, _, rfl, ⟨x9, rfl, _⟩, _, _, rfl, ⟨x10, rfl, _⟩, _, _, rfl, ⟨x11, rfl, _⟩, _, _, rfl, ⟨x12, rfl, _⟩, _, _, rfl, ⟨x13, rfl, _⟩, h3⟩ := h
  have h3' : _ = [] := h3
  subst h3'
  exact ⟨⟨x0, x1, x2, x3, x4, fun i => [x5, x6, x7, x8, x9, x10, x11, x12].getD i 0, x13⟩, rfl⟩

set_option maxRecDepth 100000 in
theorem inodeBack_lifted (os : Os) (started : os.Started) (H : Type) (enc : TypeId × Value → H) :
    ReturnsInHanded {} Try.checked os 18 .any (Rows.inodeBackSpec.pre6 enc Try.prog Try.f18 Rows.inodeBackRow.domain false) (Rows.inodeBackSpec.post enc Try.prog Try.f18 false true false false) := by
  refine returnsInHanded_of_change (C := Try.checked) Try.own started (by kernel_rfl) Try.func18
    (ChangeSpec.witness6 (enc := enc) (C := Try.checked) false ⟨#[], #[.agg #[.int .i64 0, .int .i64 0, .int .i64 0], .agg #[.int .i64 0, .int .i64 0, .int .i64 0, .int .i64 0, .int .i64 0, .int .i64 0, .int .i64 0, .int .i64 0, .int .i64 0, .int .i64 0, .int .i64 0, .int .i64 0, .int .i64 0, .int .i64 0], .string ⟨#[]⟩], []⟩ 8 (by kernel_rfl) (by kernel_rfl) (by kernel_rfl) (by kernel_rfl)) ?_
  intro W base args ds gs before hval0 hW hcnd _
  have hval : ∀ (j : Nat) t v, Try.f18.params[j]? = some t → args[j]? = some v → Value.okWide Try.prog W .any base t v := hval0
  have hW' := hW
  obtain ⟨p, q, hA0, hV, rfl, hfz, hnd⟩ := hW
  have hA : DataW.TrodAll enc Try.prog W 0 (fun _ => true) true Try.f18.params.toList args.toList ds p := hA0
  rw [Try.params18] at hA hval
  obtain ⟨v0, v1, v2, d0, d1, d2, p0, p1, p2, rfl, rfl, hpp, h0, h1, h2⟩ := trodAll_three hA
  obtain ⟨rfl, rfl⟩ := trodVars_none hV
  obtain ⟨a, b, c, rfl, wa, wb, wc⟩ := Cw.open_three Try.underlying32 (by kernel_rfl) (by kernel_rfl) Try.underlying3 rfl rfl rfl (hval 0 32 v0 rfl rfl) h0
  obtain ⟨cs1, rfl, hk1⟩ := Cw.open_flat 4 (t := 79) (ks := [0, 0, 0, 0, 0, 0, 0, 0, 0, 0, 0, 0, 0, 0]) (by kernel_rfl) (by first | exact Or.inl ⟨_, Try.underlying79⟩ | exact Or.inr ⟨_, _, Try.underlying79⟩) (hval 1 79 v1 rfl rfl) h1
  obtain ⟨m, hm⟩ := ino_cells cs1 hk1
  obtain ⟨x, rfl, _, _, wx⟩ := Go.ChangeMaps.open_string Try.underlying9 (hval 2 9 v2 rfl rfl) h2
  rw [hm] at hW' ⊢
  refine (Cw.inodeBack_true a b c m x wx W).mono fun e W' ⟨he, hb⟩ => ⟨.bool true, he, ?_⟩
  exact Cw.post_law Try.laidOut rfl Try.underlying4 rfl (by kernel_rfl) hW' rfl hb
set_option maxRecDepth 100000 in
set_option maxHeartbeats 8000000 in
theorem inodeBack_closed : joinedFacts Try.pinned.checked.prog 18 Try.f18 Rows.inodeBackSpec Rows.inodeBackRow = true := by
  unfold joinedFacts
  exact band (band (band (band (band (band (band (band (band (band (band (band (band (band (band (band (band (band (band (band (band (band (band (band (band (band (band (band (band (band (band (by as_aux_lemma => kernel_rfl) Try.laidOut) f_maps) (by as_aux_lemma => kernel_rfl)) (by as_aux_lemma => kernel_rfl)) (by as_aux_lemma => kernel_rfl)) (by as_aux_lemma => kernel_rfl)) (by as_aux_lemma => kernel_rfl)) (by as_aux_lemma => kernel_rfl)) (by as_aux_lemma => kernel_rfl)) (by as_aux_lemma => kernel_rfl)) (by as_aux_lemma => kernel_rfl)) (by as_aux_lemma => kernel_rfl)) (by as_aux_lemma => kernel_rfl)) (by as_aux_lemma => kernel_rfl)) (by as_aux_lemma => kernel_rfl)) (by as_aux_lemma => kernel_rfl)) (by as_aux_lemma => kernel_rfl)) (by as_aux_lemma => kernel_rfl)) (by as_aux_lemma => kernel_rfl)) (by as_aux_lemma => kernel_rfl)) (by as_aux_lemma => kernel_rfl)) f_keys) (by as_aux_lemma => kernel_rfl)) f_heard) f_enter) f_lift) f_make) (by as_aux_lemma => kernel_rfl)) (by as_aux_lemma => kernel_rfl)) (by as_aux_lemma => kernel_rfl)) (by as_aux_lemma => kernel_rfl)
theorem inodeBack_named : Try.pinned.checked.prog.funcNamed Rows.inodeBackRow.func = some 18 := by kernel_rfl
theorem inodeBack_inst : decide (Try.f18.isInstance Try.pinned.checked.prog Rows.inodeBackRow.origin Rows.inodeBackRow.targs) = true := by kernel_rfl
theorem inodeBack_holds : Rows.InodeBackSaid :=
  OpenClaim.holds_of_wide 18 Try.f18 rfl rfl rfl rfl rfl rfl rfl ⟨rfl, rfl, rfl, rfl, rfl⟩ rfl rfl rfl rfl rfl inodeBack_named Try.func18 inodeBack_closed
    (of_decide_eq_true inodeBack_inst) (by unfold Func.isWrapper; rw [if_neg (of_decide_eq_false (by kernel_rfl))]; exact ⟨rfl, rfl⟩)
    (fun os started H enc _ => inodeBack_lifted os started H enc)
end Go.Proofs.Ytgigbkgdbhikmaa
