/- DiskPlays: whatever the arguments: the law returns true, and its arguments read as they did. No condition. -/
import Derived.Test.YtokhlioogjalkaaGreatRows
import Derived.Test.YtokhlioogjalkaaGreatRDsk7
import Derived.Test.YtokhlioogjalkaaGreatOpen
import Derived.Test.YtokhlioogjalkaaGreatFactsB
import Derived.Test.YtokhlioogjalkaaGreatFactsC
import Derived.Test.YtokhlioogjalkaaGreatFactsD
namespace Go.Proofs.YtokhlioogjalkaaGreat
open Go.ChangeShapes Go.WideShapes Go.ChangeAt Go.RowKit Go.Joins

theorem flat_dacts : ∀ (L : List (List Value)), (∀ r ∈ L, Cw.AllK [0, 0, 0, 0, 0, 1, 2, 0, 1, 0, 1] r) → ∃ M : List Cw.DAct, L.length = M.length ∧ L.flatten = Cw.dacells M ∧ ∀ a ∈ M, a.text.size ≤ maxLen ∧ a.wb.size ≤ maxLen ∧ a.nb.size ≤ maxLen
  | [], _ => ⟨[], rfl, rfl, by simp⟩
  | r :: L, h => by
    obtain ⟨M, h1, h2, h4⟩ := flat_dacts L fun r hr => h r (List.mem_cons.2 (.inr hr))
    obtain ⟨_, _, rfl, ⟨a0, rfl, _⟩, _, _, rfl, ⟨a1, rfl, _⟩, _, _, rfl, ⟨a2, rfl, _⟩, _, _, rfl, ⟨a3, rfl, _⟩, _, _, rfl, ⟨a4, rfl, _⟩, _, _, rfl, ⟨a5, rfl, z5⟩, _, _, rfl, ⟨a6, rfl⟩, _, _, rfl, ⟨a7, rfl, _⟩, _, _, rfl, ⟨a8, rfl, z8⟩, _, _, rfl, ⟨a9, rfl, _⟩, _, _, rfl, ⟨a10, rfl, z10⟩, h3⟩ := h r (by simp)
    have h3' : _ = [] := h3
    subst h3'
    exact ⟨⟨a0, a1, a2, a3, a4, a5, a6, a7, a8, a9, a10⟩ :: M, by simp [h1], by simp [h2, Cw.fcs, Cw.DAct.cells], by simp; exact ⟨⟨z5, z8, z10⟩, h4⟩⟩

set_option maxRecDepth 100000 in
theorem diskPlays_lifted (os : Os) (started : os.Started) (H : Type) (enc : TypeId × Value → H) :
    ReturnsInHanded {} Tryz.checked os 3 .any (Rows.diskPlaysSpec.pre6 enc Tryz.prog Tryz.f3 Rows.diskPlaysRow.domain false) (Rows.diskPlaysSpec.post enc Tryz.prog Tryz.f3 false true false false) := by
  refine returnsInHanded_of_change_sized (C := Tryz.checked) Tryz.own started (by kernel_rfl) Tryz.func3
    (ChangeSpec.witness6 (enc := enc) (C := Tryz.checked) false ⟨#[], #[.int .i64 0, .slice none 0 0], []⟩ 8 (by kernel_rfl) (by kernel_rfl) (by kernel_rfl) (by kernel_rfl)) ?_
  intro W base args ds gs before hval0 hW hcnd hsz0 _
  have hval : ∀ (j : Nat) t v, Tryz.f3.params[j]? = some t → args[j]? = some v → Value.okWide Tryz.prog W .any base t v := hval0
  have hsz : (DataW.weightsEach Tryz.prog (Tryz.f3.params.toList ++ Rows.diskPlaysSpec.plain.varTypes Tryz.prog) (ds ++ gs)).all (· ≤ reachBytes) = true := hsz0
  have hW' := hW
  obtain ⟨p, q, hA0, hV, rfl, hfz, hnd⟩ := hW
  have hA : DataW.TrodAll enc Tryz.prog W 0 (fun _ => true) true Tryz.f3.params.toList args.toList ds p := hA0
  rw [Tryz.params3] at hA hval hsz
  obtain ⟨v0, v1, d0, d1, p0, p1, rfl, rfl, hpp, h0, h1⟩ := trodAll_two hA
  obtain ⟨rfl, rfl⟩ := trodVars_none hV
  obtain ⟨x0, rfl, _, _, wx0⟩ := open_int Tryz.underlying3 (hval 0 3 v0 rfl rfl) h0
  obtain ⟨A1, c1, L1, rfl, hL1, hR1, hD1⟩ := Cw.open_rows 4 (ks := [0, 0, 0, 0, 0, 1, 2, 0, 1, 0, 1]) Tryz.underlying22 (by kernel_rfl) (by kernel_rfl) (by decide) (Cw.okWide_slice Tryz.underlying22 (hval 1 22 v1 rfl rfl)) h1
  have hz1 := Cw.sized_rows hsz 1 (t := 22) (e := 37) (b := 112) rfl rfl Tryz.underlying22 (by kernel_rfl) hD1
  obtain ⟨M1, hM11, hM12, hM13⟩ := flat_dacts L1 hL1
  rw [hM11, hM12] at hR1
  rw [hM11] at hz1 hW' ⊢
  refine (Cw.diskPlays_true x0 M1 A1 c1 W (by omega) (fun a ha => hM13 a ha) hR1).mono fun e W' ⟨he, hb⟩ => ⟨.bool true, he, ?_⟩
  exact Cw.post_law Tryz.laidOut rfl Tryz.underlying4 rfl (by kernel_rfl) hW' rfl hb
set_option maxRecDepth 100000 in
set_option maxHeartbeats 8000000 in
theorem diskPlays_closed : joinedFacts Tryz.pinned.checked.prog 3 Tryz.f3 Rows.diskPlaysSpec Rows.diskPlaysRow = true := by
  unfold joinedFacts
  exact band (band (band (band (band (band (band (band (band (band (band (band (band (band (band (band (band (band (band (band (band (band (band (band (band (band (band (band (band (band (band (by as_aux_lemma => kernel_rfl) Tryz.laidOut) f_maps) (by as_aux_lemma => kernel_rfl)) (by as_aux_lemma => kernel_rfl)) (by as_aux_lemma => kernel_rfl)) (by as_aux_lemma => kernel_rfl)) (by as_aux_lemma => kernel_rfl)) (by as_aux_lemma => kernel_rfl)) (by as_aux_lemma => kernel_rfl)) (by as_aux_lemma => kernel_rfl)) (by as_aux_lemma => kernel_rfl)) (by as_aux_lemma => kernel_rfl)) (by as_aux_lemma => kernel_rfl)) (by as_aux_lemma => kernel_rfl)) (by as_aux_lemma => kernel_rfl)) (by as_aux_lemma => kernel_rfl)) (by as_aux_lemma => kernel_rfl)) (by as_aux_lemma => kernel_rfl)) (by as_aux_lemma => kernel_rfl)) (by as_aux_lemma => kernel_rfl)) (by as_aux_lemma => kernel_rfl)) f_keys) (by as_aux_lemma => kernel_rfl)) f_heard) f_enter) f_lift) f_make) (by as_aux_lemma => kernel_rfl)) (by as_aux_lemma => kernel_rfl)) (by as_aux_lemma => kernel_rfl)) (by as_aux_lemma => kernel_rfl)
theorem diskPlays_named : Tryz.pinned.checked.prog.funcNamed Rows.diskPlaysRow.func = some 3 := by kernel_rfl
theorem diskPlays_inst : decide (Tryz.f3.isInstance Tryz.pinned.checked.prog Rows.diskPlaysRow.origin Rows.diskPlaysRow.targs) = true := by kernel_rfl
theorem diskPlays_holds : Rows.DiskPlaysSaid :=
  OpenClaim.holds_of_wide 3 Tryz.f3 rfl rfl rfl rfl rfl rfl rfl ⟨rfl, rfl, rfl, rfl, rfl⟩ rfl rfl rfl rfl rfl diskPlays_named Tryz.func3 diskPlays_closed
    (of_decide_eq_true diskPlays_inst) (by unfold Func.isWrapper; rw [if_neg (of_decide_eq_false (by kernel_rfl))]; exact ⟨rfl, rfl⟩)
    (fun os started H enc _ => diskPlays_lifted os started H enc)
end Go.Proofs.YtokhlioogjalkaaGreat
