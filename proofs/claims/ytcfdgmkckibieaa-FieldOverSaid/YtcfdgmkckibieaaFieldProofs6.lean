/- FieldPatches, FieldOver: whatever the arguments: the law returns true, and its arguments read as they did. No condition. -/
import Derived.Test.YtcfdgmkckibieaaRows
import Derived.Test.YtcfdgmkckibieaaPatchesW
namespace Go.Proofs.Ytcfdgmkckibieaa
open Go.ChangeShapes Go.WideShapes Go.ChangeAt Go.RowKit Go.Joins

theorem Try.own : ownKnob Try.prog.godebug = none := by kernel_rfl
theorem Try.laidOut : laidOutB Try.prog = true := by kernel_rfl

theorem pt_row (r : List Value) (h : Cw.AllK [0, 1] r) : ∃ a : Cw.Pt, r = Cw.pcells a ∧ a.2.size ≤ maxLen := by
  obtain ⟨_, _, rfl, ⟨o, rfl, _⟩, _, _, rfl, ⟨s, rfl, hs⟩, h3⟩ := h
  have h3' : _ = [] := h3
  subst h3'
  exact ⟨(o, s), rfl, hs⟩

set_option maxRecDepth 100000 in
theorem fieldPatches_lifted (os : Os) (started : os.Started) (H : Type) (enc : TypeId × Value → H) :
    ReturnsInHanded {} Try.checked os 8 .any (Rows.fieldPatchesSpec.pre6 enc Try.prog Try.f8 Rows.fieldPatchesRow.domain false) (Rows.fieldPatchesSpec.post enc Try.prog Try.f8 false true false false) := by
  refine returnsInHanded_of_change_sized (C := Try.checked) Try.own started (by kernel_rfl) Try.func8
    (ChangeSpec.witness6 (enc := enc) (C := Try.checked) false ⟨#[], #[.string ⟨#[]⟩, .slice none 0 0, .agg #[.int .i64 0, .string ⟨#[]⟩]], []⟩ 8 (by kernel_rfl) (by kernel_rfl) (by kernel_rfl) (by kernel_rfl)) ?_
  intro W base args ds gs before hval0 hW hcnd hsz0 _
  have hval : ∀ (j : Nat) t v, Try.f8.params[j]? = some t → args[j]? = some v → Value.okWide Try.prog W .any base t v := hval0
  have hsz : (DataW.weightsEach Try.prog (Try.f8.params.toList ++ Rows.fieldPatchesSpec.plain.varTypes Try.prog) (ds ++ gs)).all (· ≤ reachBytes) = true := hsz0
  have hW' := hW
  obtain ⟨p, q, hA0, hV, rfl, hfz, hnd⟩ := hW
  have hA : DataW.TrodAll enc Try.prog W 0 (fun _ => true) true Try.f8.params.toList args.toList ds p := hA0
  rw [Try.params8] at hA hval hsz
  obtain ⟨v0, v1, v2, d0, d1, d2, p0, p1, p2, rfl, rfl, hpp, h0, h1, h2⟩ := trodAll_three hA
  obtain ⟨rfl, rfl⟩ := trodVars_none hV
  obtain ⟨x, rfl, _, _, wx⟩ := Go.ChangeMaps.open_string Try.underlying9 (hval 0 9 v0 rfl rfl) h0
  obtain ⟨A1, c1, L1, rfl, hL1, hR1, hD1⟩ := Cw.open_rows 4 (ks := [0, 1]) Try.underlying32 (by kernel_rfl) (by kernel_rfl) (by decide) (Cw.okWide_slice Try.underlying32 (hval 1 32 v1 rfl rfl)) h1
  have hz1 := Cw.sized_rows hsz 1 (t := 32) (e := 25) (b := 24) rfl rfl Try.underlying32 (by kernel_rfl) hD1
  obtain ⟨l, rfl, hp⟩ := Cw.rows_map [0, 1] Cw.pcells (fun p => p.2.size ≤ maxLen) pt_row L1 hL1
  rw [List.length_map] at hz1 hW'
  have hR : Cw.Rds W A1 l.length c1 2 (l.flatMap Cw.pcells) := by rw [List.flatMap_def]; simpa using hR1
  obtain ⟨o, t, rfl, wo, wt⟩ := Cw.open_pair Try.underlying25 (by kernel_rfl) (by kernel_rfl) Try.underlying3 Try.underlying9 rfl rfl (hval 2 25 v2 rfl rfl) h2
  rw [List.length_map]
  refine (Cw.fieldPatches_true x A1 c1 l o t wx hz1 hp wt W hR).mono fun e W' ⟨he, hb⟩ => ⟨.bool true, he, ?_⟩
  exact Cw.post_law Try.laidOut rfl Try.underlying4 rfl (by kernel_rfl) hW' rfl hb
theorem fieldPatches_holds : Rows.FieldPatchesSaid :=
  OpenClaim.holds_of_wide 8 Try.f8 rfl rfl rfl rfl rfl rfl rfl ⟨rfl, rfl, rfl, rfl, rfl⟩ rfl rfl rfl rfl rfl (by kernel_rfl) Try.func8 (by kernel_rfl)
    (of_decide_eq_true (by kernel_rfl)) (by unfold Func.isWrapper; rw [if_neg (of_decide_eq_false (by kernel_rfl))]; exact ⟨rfl, rfl⟩)
    (fun os started H enc _ => fieldPatches_lifted os started H enc)

set_option maxRecDepth 100000 in
theorem fieldOver_lifted (os : Os) (started : os.Started) (H : Type) (enc : TypeId × Value → H) :
    ReturnsInHanded {} Try.checked os 7 .any (Rows.fieldOverSpec.pre6 enc Try.prog Try.f7 Rows.fieldOverRow.domain false) (Rows.fieldOverSpec.post enc Try.prog Try.f7 false true false false) := by
  refine returnsInHanded_of_change_sized (C := Try.checked) Try.own started (by kernel_rfl) Try.func7
    (ChangeSpec.witness6 (enc := enc) (C := Try.checked) false ⟨#[], #[.string ⟨#[]⟩, .slice none 0 0, .string ⟨#[]⟩], []⟩ 8 (by kernel_rfl) (by kernel_rfl) (by kernel_rfl) (by kernel_rfl)) ?_
  intro W base args ds gs before hval0 hW hcnd hsz0 _
  have hval : ∀ (j : Nat) t v, Try.f7.params[j]? = some t → args[j]? = some v → Value.okWide Try.prog W .any base t v := hval0
  have hsz : (DataW.weightsEach Try.prog (Try.f7.params.toList ++ Rows.fieldOverSpec.plain.varTypes Try.prog) (ds ++ gs)).all (· ≤ reachBytes) = true := hsz0
  have hW' := hW
  obtain ⟨p, q, hA0, hV, rfl, hfz, hnd⟩ := hW
  have hA : DataW.TrodAll enc Try.prog W 0 (fun _ => true) true Try.f7.params.toList args.toList ds p := hA0
  rw [Try.params7] at hA hval hsz
  obtain ⟨v0, v1, v2, d0, d1, d2, p0, p1, p2, rfl, rfl, hpp, h0, h1, h2⟩ := trodAll_three hA
  obtain ⟨rfl, rfl⟩ := trodVars_none hV
  obtain ⟨x, rfl, _, _, wx⟩ := Go.ChangeMaps.open_string Try.underlying9 (hval 0 9 v0 rfl rfl) h0
  obtain ⟨A1, c1, L1, rfl, hL1, hR1, hD1⟩ := Cw.open_rows 4 (ks := [0, 1]) Try.underlying32 (by kernel_rfl) (by kernel_rfl) (by decide) (Cw.okWide_slice Try.underlying32 (hval 1 32 v1 rfl rfl)) h1
  have hz1 := Cw.sized_rows hsz 1 (t := 32) (e := 25) (b := 24) rfl rfl Try.underlying32 (by kernel_rfl) hD1
  obtain ⟨l, rfl, hp⟩ := Cw.rows_map [0, 1] Cw.pcells (fun p => p.2.size ≤ maxLen) pt_row L1 hL1
  rw [List.length_map] at hz1 hW'
  have hR : Cw.Rds W A1 l.length c1 2 (l.flatMap Cw.pcells) := by rw [List.flatMap_def]; simpa using hR1
  obtain ⟨t, rfl, _, _, wt⟩ := Go.ChangeMaps.open_string Try.underlying9 (hval 2 9 v2 rfl rfl) h2
  rw [List.length_map]
  refine (Cw.fieldOver_true x A1 c1 l t wx hz1 hp wt W hR).mono fun e W' ⟨he, hb⟩ => ⟨.bool true, he, ?_⟩
  exact Cw.post_law Try.laidOut rfl Try.underlying4 rfl (by kernel_rfl) hW' rfl hb
theorem fieldOver_holds : Rows.FieldOverSaid :=
  OpenClaim.holds_of_wide 7 Try.f7 rfl rfl rfl rfl rfl rfl rfl ⟨rfl, rfl, rfl, rfl, rfl⟩ rfl rfl rfl rfl rfl (by kernel_rfl) Try.func7 (by kernel_rfl)
    (of_decide_eq_true (by kernel_rfl)) (by unfold Func.isWrapper; rw [if_neg (of_decide_eq_false (by kernel_rfl))]; exact ⟨rfl, rfl⟩)
    (fun os started H enc _ => fieldOver_lifted os started H enc)
end Go.Proofs.Ytcfdgmkckibieaa
