/- WireTurned: whatever the arguments: the law returns true, and its arguments read as they did. No condition. -/
import Derived.Test.YtgigbkgdbhikmaaRows
import Derived.Test.YtgigbkgdbhikmaaWireTurn
import Derived.Test.YtgigbkgdbhikmaaOpen
import Derived.Test.YtgigbkgdbhikmaaFactsB
import Derived.Test.YtgigbkgdbhikmaaFactsC
import Derived.Test.YtgigbkgdbhikmaaFactsD
namespace Go.Proofs.Ytgigbkgdbhikmaa
open Go.ChangeShapes Go.WideShapes Go.ChangeAt Go.RowKit Go.Joins


theorem six_ints (cs : List Value) (h : Cw.AllK [0, 0, 0, 0, 0, 0] cs) : ∃ m : Cw.Ms, Value.agg cs.toArray = Cw.mval m := by
  obtain ⟨_, _, rfl, ⟨a, rfl, _⟩, _, _, rfl, ⟨b, rfl, _⟩, _, _, rfl, ⟨c, rfl, _⟩, _, _, rfl, ⟨d, rfl, _⟩, _, _, rfl, ⟨e, rfl, _⟩, _, _, rfl, ⟨f, rfl, _⟩, h3⟩ := h
  have h3' : _ = [] := h3
  subst h3'
  exact ⟨⟨a, b, c, d, e, f⟩, rfl⟩

set_option maxRecDepth 100000 in
theorem wireTurned_lifted (os : Os) (started : os.Started) (H : Type) (enc : TypeId × Value → H) :
    ReturnsInHanded {} Try.checked os 11 .any (Rows.wireTurnedSpec.pre6 enc Try.prog Try.f11 Rows.wireTurnedRow.domain false) (Rows.wireTurnedSpec.post enc Try.prog Try.f11 false true false false) := by
  refine returnsInHanded_of_change (C := Try.checked) Try.own started (by kernel_rfl) Try.func11
    (ChangeSpec.witness6 (enc := enc) (C := Try.checked) false ⟨#[], #[.agg #[.int .i64 0, .int .i64 0, .int .i64 0, .int .i64 0, .int .i64 0, .int .i64 0], .int .i64 0, .int .i64 0], []⟩ 8 (by kernel_rfl) (by kernel_rfl) (by kernel_rfl) (by kernel_rfl)) ?_
  intro W base args ds gs before hval0 hW hcnd _
  have hval : ∀ (j : Nat) t v, Try.f11.params[j]? = some t → args[j]? = some v → Value.okWide Try.prog W .any base t v := hval0
  have hW' := hW
  obtain ⟨p, q, hA0, hV, rfl, hfz, hnd⟩ := hW
  have hA : DataW.TrodAll enc Try.prog W 0 (fun _ => true) true Try.f11.params.toList args.toList ds p := hA0
  rw [Try.params11] at hA hval
  obtain ⟨v0, v1, v2, d0, d1, d2, p0, p1, p2, rfl, rfl, hpp, h0, h1, h2⟩ := trodAll_three hA
  obtain ⟨rfl, rfl⟩ := trodVars_none hV
  obtain ⟨cs0, rfl, hk0⟩ := Cw.open_flat 4 (t := 23) (ks := [0, 0, 0, 0, 0, 0]) (by kernel_rfl) (by first | exact Or.inl ⟨_, Try.underlying23⟩ | exact Or.inr ⟨_, _, Try.underlying23⟩) (hval 0 23 v0 rfl rfl) h0
  obtain ⟨m, hm⟩ := six_ints cs0 hk0
  obtain ⟨a, rfl, _, _, wa⟩ := open_int Try.underlying3 (hval 1 3 v1 rfl rfl) h1
  obtain ⟨b, rfl, _, _, wb⟩ := open_int Try.underlying3 (hval 2 3 v2 rfl rfl) h2
  rw [hm] at hW' ⊢
  refine (Cw.wireTurned_true m a b W).mono fun e W' ⟨he, hb⟩ => ⟨.bool true, he, ?_⟩
  exact Cw.post_law Try.laidOut rfl Try.underlying4 rfl (by kernel_rfl) hW' rfl hb
set_option maxRecDepth 100000 in
set_option maxHeartbeats 8000000 in
theorem wireTurned_closed : joinedFacts Try.pinned.checked.prog 11 Try.f11 Rows.wireTurnedSpec Rows.wireTurnedRow = true := by
  unfold joinedFacts
  exact band (band (band (band (band (band (band (band (band (band (band (band (band (band (band (band (band (band (band (band (band (band (band (band (band (band (band (band (band (band (band (by as_aux_lemma => kernel_rfl) Try.laidOut) f_maps) (by as_aux_lemma => kernel_rfl)) (by as_aux_lemma => kernel_rfl)) (by as_aux_lemma => kernel_rfl)) (by as_aux_lemma => kernel_rfl)) (by as_aux_lemma => kernel_rfl)) (by as_aux_lemma => kernel_rfl)) (by as_aux_lemma => kernel_rfl)) (by as_aux_lemma => kernel_rfl)) (by as_aux_lemma => kernel_rfl)) (by as_aux_lemma => kernel_rfl)) (by as_aux_lemma => kernel_rfl)) (by as_aux_lemma => kernel_rfl)) (by as_aux_lemma => kernel_rfl)) (by as_aux_lemma => kernel_rfl)) (by as_aux_lemma => kernel_rfl)) (by as_aux_lemma => kernel_rfl)) (by as_aux_lemma => kernel_rfl)) (by as_aux_lemma => kernel_rfl)) (by as_aux_lemma => kernel_rfl)) f_keys) (by as_aux_lemma => kernel_rfl)) f_heard) f_enter) f_lift) f_make) (by as_aux_lemma => kernel_rfl)) (by as_aux_lemma => kernel_rfl)) (by as_aux_lemma => kernel_rfl)) (by as_aux_lemma => kernel_rfl)
theorem wireTurned_named : Try.pinned.checked.prog.funcNamed Rows.wireTurnedRow.func = some 11 := by kernel_rfl
theorem wireTurned_inst : decide (Try.f11.isInstance Try.pinned.checked.prog Rows.wireTurnedRow.origin Rows.wireTurnedRow.targs) = true := by kernel_rfl
theorem wireTurned_holds : Rows.WireTurnedSaid :=
  OpenClaim.holds_of_wide 11 Try.f11 rfl rfl rfl rfl rfl rfl rfl ⟨rfl, rfl, rfl, rfl, rfl⟩ rfl rfl rfl rfl rfl wireTurned_named Try.func11 wireTurned_closed
    (of_decide_eq_true wireTurned_inst) (by unfold Func.isWrapper; rw [if_neg (of_decide_eq_false (by kernel_rfl))]; exact ⟨rfl, rfl⟩)
    (fun os started H enc _ => wireTurned_lifted os started H enc)
end Go.Proofs.Ytgigbkgdbhikmaa
