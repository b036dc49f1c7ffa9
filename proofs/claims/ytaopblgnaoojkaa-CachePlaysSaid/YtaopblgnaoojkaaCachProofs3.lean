/- CachePlays: whatever the arguments: the law returns true, and its arguments read as they did. No condition. -/
import Derived.Test.YtaopblgnaoojkaaRows
import Derived.Test.YtaopblgnaoojkaaCach10
import Derived.Test.YtaopblgnaoojkaaFactsB
import Derived.Test.YtaopblgnaoojkaaFactsC
import Derived.Test.YtaopblgnaoojkaaFactsD
namespace Go.Proofs.Ytaopblgnaoojkaa
open Go.ChangeShapes Go.WideShapes Go.ChangeAt Go.RowKit Go.Joins

theorem flat_cacts {W : World} : ∀ (L : List (List Value)), (∀ r ∈ L, Cw.AllW W [0, 0, 1, 2, 2, 3] r) → ∃ M : List Cw.CAct, L.length = M.length ∧ L.flatten = Cw.cacells M ∧ ∀ a ∈ M, a.text.size ≤ maxLen ∧ Cw.Rds W a.mA a.more.length a.mc 1 (Cw.ivs a.more) ∧ a.more.length * 8 ≤ reachBytes
  | [], _ => ⟨[], rfl, rfl, by simp⟩
  | r :: L, h => by
    obtain ⟨M, h1, h2, h4⟩ := flat_cacts L fun r hr => h r (List.mem_cons.2 (.inr hr))
    obtain ⟨_, _, rfl, ⟨a0, rfl, _⟩, _, _, rfl, ⟨a1, rfl, _⟩, _, _, rfl, ⟨a2, rfl, z2⟩, _, _, rfl, ⟨a3, rfl⟩, _, _, rfl, ⟨a4, rfl⟩, _, _, rfl, ⟨A, c, xs, rfl, q1, q2⟩, h3⟩ := h r (by simp)
    have h3' : _ = [] := h3
    subst h3'
    refine ⟨⟨a0, a1, a2, a3, a4, A, c, xs⟩ :: M, by simp [h1], by simp [h2, Cw.fcs, Cw.CAct.cells, Cw.CAct.mv], fun a ha => ?_⟩
    rcases List.mem_cons.1 ha with rfl | ha
    · exact ⟨z2, q1, q2⟩
    · exact h4 a ha

set_option maxRecDepth 100000 in
theorem cachePlays_lifted (os : Os) (started : os.Started) (H : Type) (enc : TypeId × Value → H) :
    ReturnsInHanded {} Try.checked os 5 .any (Rows.cachePlaysSpec.pre6 enc Try.prog Try.f5 Rows.cachePlaysRow.domain false) (Rows.cachePlaysSpec.post enc Try.prog Try.f5 false true false false) := by
  refine returnsInHanded_of_change_sized (C := Try.checked) Try.own started (by kernel_rfl) Try.func5
    (ChangeSpec.witness6 (enc := enc) (C := Try.checked) false ⟨#[], #[.int .i64 0, .slice none 0 0], []⟩ 8 (by kernel_rfl) (by kernel_rfl) (by kernel_rfl) (by kernel_rfl)) ?_
  intro W base args ds gs before hval0 hW hcnd hsz0 _
  have hval : ∀ (j : Nat) t v, Try.f5.params[j]? = some t → args[j]? = some v → Value.okWide Try.prog W .any base t v := hval0
  have hsz : (DataW.weightsEach Try.prog (Try.f5.params.toList ++ Rows.cachePlaysSpec.plain.varTypes Try.prog) (ds ++ gs)).all (· ≤ reachBytes) = true := hsz0
  have hW' := hW
  obtain ⟨p, q, hA0, hV, rfl, hfz, hnd⟩ := hW
  have hA : DataW.TrodAll enc Try.prog W 0 (fun _ => true) true Try.f5.params.toList args.toList ds p := hA0
  rw [Try.params5] at hA hval hsz
  obtain ⟨v0, v1, d0, d1, p0, p1, rfl, rfl, hpp, h0, h1⟩ := trodAll_two hA
  obtain ⟨rfl, rfl⟩ := trodVars_none hV
  obtain ⟨x0, rfl, _, _, wx0⟩ := open_int Try.underlying3 (hval 0 3 v0 rfl rfl) h0
  obtain ⟨A1, c1, L1, rfl, hL1, hR1, hD1⟩ := Cw.open_rowsW 4 (ks := [0, 0, 1, 2, 2, 3]) Try.underlying33 (by kernel_rfl) (by kernel_rfl) (by decide) (Cw.okWide_slice Try.underlying33 (hval 1 33 v1 rfl rfl)) h1 (Cw.weights_le hsz 1 (t := 33) rfl rfl)
  have hz1 := Cw.sized_rows hsz 1 (t := 33) (e := 38) (b := 64) rfl rfl Try.underlying33 (by kernel_rfl) hD1
  obtain ⟨M1, hM11, hM12, hM13⟩ := flat_cacts L1 hL1
  rw [hM11, hM12] at hR1
  rw [hM11] at hz1 hW' ⊢
  refine (Cw.cachePlays_true x0 M1 A1 c1 W (by omega) (fun a ha => ⟨(hM13 a ha).1, by have := (hM13 a ha).2.2; simp only [reachBytes] at this; omega⟩) (fun a ha => (hM13 a ha).2.1) hR1).mono fun e W' ⟨he, hb⟩ => ⟨.bool true, he, ?_⟩
  exact Cw.post_law Try.laidOut rfl Try.underlying4 rfl (by kernel_rfl) hW' rfl hb
set_option maxRecDepth 100000 in
set_option maxHeartbeats 8000000 in
theorem cachePlays_closed : joinedFacts Try.pinned.checked.prog 5 Try.f5 Rows.cachePlaysSpec Rows.cachePlaysRow = true := by
  unfold joinedFacts
  exact band (band (band (band (band (band (band (band (band (band (band (band (band (band (band (band (band (band (band (band (band (band (band (band (band (band (band (band (band (band (band (by as_aux_lemma => kernel_rfl) Try.laidOut) f_maps) (by as_aux_lemma => kernel_rfl)) (by as_aux_lemma => kernel_rfl)) (by as_aux_lemma => kernel_rfl)) (by as_aux_lemma => kernel_rfl)) (by as_aux_lemma => kernel_rfl)) (by as_aux_lemma => kernel_rfl)) (by as_aux_lemma => kernel_rfl)) (by as_aux_lemma => kernel_rfl)) (by as_aux_lemma => kernel_rfl)) (by as_aux_lemma => kernel_rfl)) (by as_aux_lemma => kernel_rfl)) (by as_aux_lemma => kernel_rfl)) (by as_aux_lemma => kernel_rfl)) (by as_aux_lemma => kernel_rfl)) (by as_aux_lemma => kernel_rfl)) (by as_aux_lemma => kernel_rfl)) (by as_aux_lemma => kernel_rfl)) (by as_aux_lemma => kernel_rfl)) (by as_aux_lemma => kernel_rfl)) f_keys) (by as_aux_lemma => kernel_rfl)) f_heard) f_enter) f_lift) f_make) (by as_aux_lemma => kernel_rfl)) (by as_aux_lemma => kernel_rfl)) (by as_aux_lemma => kernel_rfl)) (by as_aux_lemma => kernel_rfl)
theorem cachePlays_named : Try.pinned.checked.prog.funcNamed Rows.cachePlaysRow.func = some 5 := by kernel_rfl
theorem cachePlays_inst : decide (Try.f5.isInstance Try.pinned.checked.prog Rows.cachePlaysRow.origin Rows.cachePlaysRow.targs) = true := by kernel_rfl
theorem cachePlays_holds : Rows.CachePlaysSaid :=
  OpenClaim.holds_of_wide 5 Try.f5 rfl rfl rfl rfl rfl rfl rfl ⟨rfl, rfl, rfl, rfl, rfl⟩ rfl rfl rfl rfl rfl cachePlays_named Try.func5 cachePlays_closed
    (of_decide_eq_true cachePlays_inst) (by unfold Func.isWrapper; rw [if_neg (of_decide_eq_false (by kernel_rfl))]; exact ⟨rfl, rfl⟩)
    (fun os started H enc _ => cachePlays_lifted os started H enc)
end Go.Proofs.Ytaopblgnaoojkaa
