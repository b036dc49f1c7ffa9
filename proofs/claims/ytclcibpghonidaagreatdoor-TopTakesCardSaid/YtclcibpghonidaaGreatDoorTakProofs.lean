/- TopTakes: whatever the arguments: the law returns true, and its arguments read as they did. No condition. -/
import Derived.Test.YtclcibpghonidaaGreatDoorRows
import Derived.Test.YtclcibpghonidaaGreatDoorTak
import Derived.Test.YtclcibpghonidaaGreatDoorOpen
import Derived.Test.YtclcibpghonidaaGreatDoorFactsB
import Derived.Test.YtclcibpghonidaaGreatDoorFactsC
import Derived.Test.YtclcibpghonidaaGreatDoorFactsD
import Derived.LaidMore
import Derived.Lay
import Derived.SevenTiedAt
import Derived.Test.YtclcibpghonidaaGreatDoorTie
import Derived.Test.YtclcibpghonidaaGreatDoorCards
namespace Go.Proofs.YtclcibpghonidaaGreatDoor
open Go.ChangeShapes Go.WideShapes Go.ChangeAt Go.RowKit Go.Joins

theorem flat_tints : ∀ (L : List (List Value)), (∀ r ∈ L, Cw.AllK [0] r) → ∃ M : List Int, L.length = M.length ∧ L.flatten = Cw.ivs M
  | [], _ => ⟨[], rfl, rfl⟩
  | r :: L, h => by
    obtain ⟨M, h1, h2⟩ := flat_tints L fun r hr => h r (List.mem_cons.2 (.inr hr))
    obtain ⟨_, _, rfl, ⟨x, rfl, _⟩, h3⟩ := h r (by simp)
    have h3' : _ = [] := h3
    subst h3'
    exact ⟨x :: M, by simp [h1], by simp [h2, Cw.ivs]⟩
theorem flat_tbools : ∀ (L : List (List Value)), (∀ r ∈ L, Cw.AllK [2] r) → ∃ M : List Bool, L.length = M.length ∧ L.flatten = Cw.btv M
  | [], _ => ⟨[], rfl, rfl⟩
  | r :: L, h => by
    obtain ⟨M, h1, h2⟩ := flat_tbools L fun r hr => h r (List.mem_cons.2 (.inr hr))
    obtain ⟨_, _, rfl, ⟨x, rfl⟩, h3⟩ := h r (by simp)
    have h3' : _ = [] := h3
    subst h3'
    exact ⟨x :: M, by simp [h1], by simp [h2, Cw.btv]⟩

set_option maxRecDepth 100000 in
theorem topTakes_lifted (os : Os) (started : os.Started) (H : Type) (enc : TypeId × Value → H) :
    ReturnsInHanded {} Tryz.checked os 5 .any (fun w args => (Rows.topTakesSpec.pre enc Tryz.prog Tryz.f5 Rows.topTakesRow.domain false w args ∧ laidMetH Tryz.prog Rows.topTakesRow.laid w) ∧ sizedMet enc Tryz.prog Tryz.f5 (OpenSpec.ofChange Rows.topTakesSpec) false w args) (Rows.topTakesSpec.post enc Tryz.prog Tryz.f5 false true false false) := by
  refine returnsInHanded_of_change_and (C := Tryz.checked) (X := fun w _ => laidMetH Tryz.prog Rows.topTakesRow.laid w) (fun _ _ _ hh h => h.of_heap hh) Tryz.own started (by kernel_rfl) Tryz.func5
    (ChangeSpec.witness_shaped (enc := enc) (C := Tryz.checked) (os := os) (X := fun w _ => laidMetH Tryz.prog Rows.topTakesRow.laid w) false (World.laidAll Tryz.prog os Rows.topTakesRow.laid) #[.slice none 0 0, .slice none 0 0] 8 (World.laidAll_os _ _ _)
      (World.shaped_of_ZipB (by kernel_rfl) (by kernel_rfl)) (by kernel_rfl) (by kernel_rfl) (by kernel_rfl)
      (by rw [MakeChecks.laidMetH_plain _ _ _ (by kernel_rfl)]; exact laidMet_laidAll _ (by kernel_rfl) (by kernel_rfl))) ?_
  intro W base args ds gs before hval0 hW hcnd hsz0 _ _
  have hval : ∀ (j : Nat) t v, Tryz.f5.params[j]? = some t → args[j]? = some v → Value.okWide Tryz.prog W .any base t v := hval0
  have hsz : (DataW.weightsEach Tryz.prog (Tryz.f5.params.toList ++ Rows.topTakesSpec.plain.varTypes Tryz.prog) (ds ++ gs)).all (· ≤ reachBytes) = true := hsz0
  have hW' := hW
  obtain ⟨p, q, hA0, hV, rfl, hfz, hnd⟩ := hW
  have hA : DataW.TrodAll enc Tryz.prog W 0 (fun _ => true) true Tryz.f5.params.toList args.toList ds p := hA0
  rw [Tryz.params5] at hA hval hsz
  obtain ⟨v0, v1, d0, d1, p0, p1, rfl, rfl, hpp, h0, h1⟩ := trodAll_two hA
  obtain ⟨rfl, rfl⟩ := trodVars_none hV
  obtain ⟨A0, c0, L0, rfl, hL0, hR0, hD0⟩ := Cw.open_rows 4 (ks := [0]) Tryz.underlying34 (by kernel_rfl) (by kernel_rfl) (by decide) (Cw.okWide_slice Tryz.underlying34 (hval 0 34 v0 rfl rfl)) h0
  have hz0 := Cw.sized_rows hsz 0 (t := 34) (e := 3) (b := 8) rfl rfl Tryz.underlying34 (by kernel_rfl) hD0
  obtain ⟨A1, c1, L1, rfl, hL1, hR1, hD1⟩ := Cw.open_rows 4 (ks := [2]) Tryz.underlying61 (by kernel_rfl) (by kernel_rfl) (by decide) (Cw.okWide_slice Tryz.underlying61 (hval 1 61 v1 rfl rfl)) h1
  have hz1 := Cw.sized_rows hsz 1 (t := 61) (e := 4) (b := 1) rfl rfl Tryz.underlying61 (by kernel_rfl) hD1
  obtain ⟨M0, hM01, hM02⟩ := flat_tints L0 hL0
  obtain ⟨M1, hM11, hM12⟩ := flat_tbools L1 hL1
  rw [hM01, hM02] at hR0
  rw [hM11, hM12] at hR1
  rw [hM01] at hz0
  rw [hM11] at hz1
  rw [hM01, hM11] at hW' ⊢
  refine (Cw.topTakes_true M0 M1 A0 A1 c0 c1 W (by omega) (by omega) hR0 hR1).mono fun e W' ⟨he, hb⟩ => ⟨.bool true, he, ?_⟩
  exact Cw.post_law Tryz.laidOut rfl Tryz.underlying4 rfl (by kernel_rfl) hW' rfl hb
set_option maxRecDepth 100000 in
set_option maxHeartbeats 8000000 in
theorem topTakes_closed : joinedFacts Tryz.pinned.checked.prog 5 Tryz.f5 Rows.topTakesSpec Rows.topTakesRow = true := by
  unfold joinedFacts
  exact band (band (band (band (band (band (band (band (band (band (band (band (band (band (band (band (band (band (band (band (band (band (band (band (band (band (band (band (band (band (band (by as_aux_lemma => kernel_rfl) Tryz.laidOut) f_maps) (by as_aux_lemma => kernel_rfl)) (by as_aux_lemma => kernel_rfl)) (by as_aux_lemma => kernel_rfl)) (by as_aux_lemma => kernel_rfl)) (by as_aux_lemma => kernel_rfl)) (by as_aux_lemma => kernel_rfl)) (by as_aux_lemma => kernel_rfl)) (by as_aux_lemma => kernel_rfl)) (by as_aux_lemma => kernel_rfl)) (by as_aux_lemma => kernel_rfl)) (by as_aux_lemma => kernel_rfl)) (by as_aux_lemma => kernel_rfl)) (by as_aux_lemma => kernel_rfl)) (by as_aux_lemma => kernel_rfl)) (by as_aux_lemma => kernel_rfl)) (by as_aux_lemma => kernel_rfl)) (by as_aux_lemma => kernel_rfl)) (by as_aux_lemma => kernel_rfl)) (by as_aux_lemma => kernel_rfl)) f_keys) (by as_aux_lemma => kernel_rfl)) f_heard) f_enter) f_lift) f_make) (by as_aux_lemma => kernel_rfl)) (by as_aux_lemma => kernel_rfl)) (by as_aux_lemma => kernel_rfl)) (by as_aux_lemma => kernel_rfl)
theorem topTakes_named : Tryz.pinned.checked.prog.funcNamed Rows.topTakesRow.func = some 5 := by kernel_rfl
theorem topTakes_inst : decide (Tryz.f5.isInstance Tryz.pinned.checked.prog Rows.topTakesRow.origin Rows.topTakesRow.targs) = true := by kernel_rfl
theorem topTakes_holds : Rows.TopTakesSaid :=
  OpenClaim.holds_of_wide 5 Tryz.f5 rfl rfl rfl rfl rfl rfl rfl ⟨rfl, rfl, rfl, rfl, rfl⟩ rfl rfl rfl rfl rfl topTakes_named Tryz.func5 topTakes_closed
    (of_decide_eq_true topTakes_inst) (by unfold Func.isWrapper; rw [if_neg (of_decide_eq_false (by kernel_rfl))]; exact ⟨rfl, rfl⟩)
    (fun os started H enc _ => topTakes_lifted os started H enc)
theorem topTakes_card : Rows.TopTakesCardSaid :=
  Claim7.holds_tied_plain_at .later [] [.data, .pinned] true (true, "60ca34b1d8ba8292036b3028e84d48a0b437851fd5742611ef1842e08357fde0") false topTakes_holds (fun _ h => by cases h) (by kernel_rfl) (fun _ h => by cases h) topTakes_row_tie rfl ⟨rfl, rfl⟩ (by kernel_rfl) rfl
    (fun f fn hf hfn => by
      obtain rfl : f = 5 := Option.some.inj (hf.symm.trans topTakes_named)
      obtain rfl : fn = Tryz.f5 := Option.some.inj (hfn.symm.trans Tryz.func5)
      exact ⟨by kernel_rfl, fun j t ht => by
        rw [Tryz.params5] at ht
        have hm : t ∈ [34, 61] := by simpa using Array.mem_of_getElem? ht
        have hall : ([34, 61].all fun u => !Tryz.prog.wantsStandIn u) = true := by kernel_rfl
        exact (show Tryz.prog.wantsStandIn t = false by simpa using List.all_eq_true.1 hall t hm)⟩)
    (by kernel_rfl)
end Go.Proofs.YtclcibpghonidaaGreatDoor
