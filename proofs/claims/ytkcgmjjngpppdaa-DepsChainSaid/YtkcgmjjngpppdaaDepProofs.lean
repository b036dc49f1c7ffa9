/- DepsChain: whatever the arguments: the law returns true, and its arguments read as they did. No condition. -/
import Derived.Test.YtkcgmjjngpppdaaRows
import Derived.Test.YtkcgmjjngpppdaaDepC
import Derived.Test.YtkcgmjjngpppdaaOpen
import Derived.Test.YtkcgmjjngpppdaaFactsB
import Derived.Test.YtkcgmjjngpppdaaFactsC
import Derived.Test.YtkcgmjjngpppdaaFactsD
namespace Go.Proofs.Ytkcgmjjngpppdaa
open Go.ChangeShapes Go.WideShapes Go.ChangeAt Go.RowKit Go.Joins

theorem flat_ints : ∀ (L : List (List Value)), (∀ r ∈ L, Cw.AllK [0] r) → ∃ M : List Int, L.length = M.length ∧ L.flatten = Cw.ivs M
  | [], _ => ⟨[], rfl, rfl⟩
  | r :: L, h => by
    obtain ⟨M, h1, h2⟩ := flat_ints L fun r hr => h r (List.mem_cons.2 (.inr hr))
    obtain ⟨_, _, rfl, ⟨x, rfl, _⟩, h3⟩ := h r (by simp)
    have h3' : _ = [] := h3
    subst h3'
    exact ⟨x :: M, by simp [h1], by simp [h2, Cw.ivs]⟩

set_option maxRecDepth 100000 in
theorem depsChain_lifted (os : Os) (started : os.Started) (H : Type) (enc : TypeId × Value → H) :
    ReturnsInHanded {} Try.checked os 4 .any (Rows.depsChainSpec.pre6 enc Try.prog Try.f4 Rows.depsChainRow.domain false) (Rows.depsChainSpec.post enc Try.prog Try.f4 false true false false) := by
  refine returnsInHanded_of_change_sized (C := Try.checked) Try.own started (by kernel_rfl) Try.func4
    (ChangeSpec.witness6 (enc := enc) (C := Try.checked) false ⟨#[], #[.slice none 0 0], []⟩ 8 (by kernel_rfl) (by kernel_rfl) (by kernel_rfl) (by kernel_rfl)) ?_
  intro W base args ds gs before hval0 hW hcnd hsz0 _
  have hval : ∀ (j : Nat) t v, Try.f4.params[j]? = some t → args[j]? = some v → Value.okWide Try.prog W .any base t v := hval0
  have hsz : (DataW.weightsEach Try.prog (Try.f4.params.toList ++ Rows.depsChainSpec.plain.varTypes Try.prog) (ds ++ gs)).all (· ≤ reachBytes) = true := hsz0
  have hW' := hW
  obtain ⟨p, q, hA0, hV, rfl, hfz, hnd⟩ := hW
  have hA : DataW.TrodAll enc Try.prog W 0 (fun _ => true) true Try.f4.params.toList args.toList ds p := hA0
  rw [Try.params4] at hA hval hsz
  obtain ⟨v0, d0, rfl, rfl, h0⟩ := trodAll_one hA
  obtain ⟨rfl, rfl⟩ := trodVars_none hV
  obtain ⟨A0, c0, L0, rfl, hL0, hR0, hD0⟩ := Cw.open_rows 4 (ks := [0]) Try.underlying33 (by kernel_rfl) (by kernel_rfl) (by decide) (Cw.okWide_slice Try.underlying33 (hval 0 33 v0 rfl rfl)) h0
  have hz0 := Cw.sized_rows hsz 0 (t := 33) (e := 3) (b := 8) rfl rfl Try.underlying33 (by kernel_rfl) hD0
  obtain ⟨M0, hM01, hM02⟩ := flat_ints L0 hL0
  rw [hM01, hM02] at hR0
  rw [hM01] at hz0 hW' ⊢
  refine (Cw.depsChain_true M0 A0 c0 W (by omega) hR0).mono fun e W' ⟨he, hb⟩ => ⟨.bool true, he, ?_⟩
  exact Cw.post_law Try.laidOut rfl Try.underlying4 rfl (by kernel_rfl) hW' rfl hb
set_option maxRecDepth 100000 in
set_option maxHeartbeats 8000000 in
theorem depsChain_closed : joinedFacts Try.pinned.checked.prog 4 Try.f4 Rows.depsChainSpec Rows.depsChainRow = true := by
  unfold joinedFacts
  exact band (band (band (band (band (band (band (band (band (band (band (band (band (band (band (band (band (band (band (band (band (band (band (band (band (band (band (band (band (band (band (by as_aux_lemma => kernel_rfl) Try.laidOut) f_maps) (by as_aux_lemma => kernel_rfl)) (by as_aux_lemma => kernel_rfl)) (by as_aux_lemma => kernel_rfl)) (by as_aux_lemma => kernel_rfl)) (by as_aux_lemma => kernel_rfl)) (by as_aux_lemma => kernel_rfl)) (by as_aux_lemma => kernel_rfl)) (by as_aux_lemma => kernel_rfl)) (by as_aux_lemma => kernel_rfl)) (by as_aux_lemma => kernel_rfl)) (by as_aux_lemma => kernel_rfl)) (by as_aux_lemma => kernel_rfl)) (by as_aux_lemma => kernel_rfl)) (by as_aux_lemma => kernel_rfl)) (by as_aux_lemma => kernel_rfl)) (by as_aux_lemma => kernel_rfl)) (by as_aux_lemma => kernel_rfl)) (by as_aux_lemma => kernel_rfl)) (by as_aux_lemma => kernel_rfl)) f_keys) (by as_aux_lemma => kernel_rfl)) f_heard) f_enter) f_lift) f_make) (by as_aux_lemma => kernel_rfl)) (by as_aux_lemma => kernel_rfl)) (by as_aux_lemma => kernel_rfl)) (by as_aux_lemma => kernel_rfl)
theorem depsChain_named : Try.pinned.checked.prog.funcNamed Rows.depsChainRow.func = some 4 := by kernel_rfl
theorem depsChain_inst : decide (Try.f4.isInstance Try.pinned.checked.prog Rows.depsChainRow.origin Rows.depsChainRow.targs) = true := by kernel_rfl
theorem depsChain_holds : Rows.DepsChainSaid :=
  OpenClaim.holds_of_wide 4 Try.f4 rfl rfl rfl rfl rfl rfl rfl ⟨rfl, rfl, rfl, rfl, rfl⟩ rfl rfl rfl rfl rfl depsChain_named Try.func4 depsChain_closed
    (of_decide_eq_true depsChain_inst) (by unfold Func.isWrapper; rw [if_neg (of_decide_eq_false (by kernel_rfl))]; exact ⟨rfl, rfl⟩)
    (fun os started H enc _ => depsChain_lifted os started H enc)
end Go.Proofs.Ytkcgmjjngpppdaa
