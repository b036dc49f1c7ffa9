/- TopHands: whatever the arguments: the law returns true, and its arguments read as they did. No condition. -/
import Derived.Test.YtclcibpghonidaaGreatDoorRows
import Derived.Test.YtclcibpghonidaaGreatDoorTopH
import Derived.Test.YtclcibpghonidaaGreatDoorOpen
import Derived.Test.YtclcibpghonidaaGreatDoorFactsB
import Derived.Test.YtclcibpghonidaaGreatDoorFactsC
import Derived.Test.YtclcibpghonidaaGreatDoorFactsD
import Derived.LaidMore
import Derived.Lay
import Derived.SevenTiedAt
import Derived.Test.YtclcibpghonidaaGreatDoorTie
import Derived.Test.YtclcibpghonidaaGreatDoorCards
namespace Go.Proofs.YtclcibpghonidaaGreatDoor
open Go.ChangeShapes Go.WideShapes Go.ChangeAt Go.RowKit Go.Joins

theorem flat_hacts : ∀ (L : List (List Value)), (∀ r ∈ L, Cw.AllK [0, 0, 0] r) → ∃ M : List Cw.HAct, L.length = M.length ∧ L.flatten = Cw.hacells M
  | [], _ => ⟨[], rfl, rfl⟩
  | r :: L, h => by
    obtain ⟨M, h1, h2⟩ := flat_hacts L fun r hr => h r (List.mem_cons.2 (.inr hr))
    obtain ⟨_, _, rfl, ⟨a0, rfl, _⟩, _, _, rfl, ⟨a1, rfl, _⟩, _, _, rfl, ⟨a2, rfl, _⟩, h3⟩ := h r (by simp)
    have h3' : _ = [] := h3
    subst h3'
    exact ⟨⟨a0, a1, a2⟩ :: M, by simp [h1], by simp [h2, Cw.hacells, Cw.fcs, Cw.hac]⟩

set_option maxRecDepth 100000 in
theorem topHands_lifted (os : Os) (started : os.Started) (H : Type) (enc : TypeId × Value → H) :
    ReturnsInHanded {} Tryz.checked os 4 .any (fun w args => (Rows.topHandsSpec.pre enc Tryz.prog Tryz.f4 Rows.topHandsRow.domain false w args ∧ laidMetH Tryz.prog Rows.topHandsRow.laid w) ∧ sizedMet enc Tryz.prog Tryz.f4 (OpenSpec.ofChange Rows.topHandsSpec) false w args) (Rows.topHandsSpec.post enc Tryz.prog Tryz.f4 false true false false) := by
  refine returnsInHanded_of_change_and (C := Tryz.checked) (X := fun w _ => laidMetH Tryz.prog Rows.topHandsRow.laid w) (fun _ _ _ hh h => h.of_heap hh) Tryz.own started (by kernel_rfl) Tryz.func4
    (ChangeSpec.witness_shaped (enc := enc) (C := Tryz.checked) (os := os) (X := fun w _ => laidMetH Tryz.prog Rows.topHandsRow.laid w) false (World.laidAll Tryz.prog os Rows.topHandsRow.laid) #[.slice none 0 0] 8 (World.laidAll_os _ _ _)
      (World.shaped_of_ZipB (by kernel_rfl) (by kernel_rfl)) (by kernel_rfl) (by kernel_rfl) (by kernel_rfl)
      (by rw [MakeChecks.laidMetH_plain _ _ _ (by kernel_rfl)]; exact laidMet_laidAll _ (by kernel_rfl) (by kernel_rfl))) ?_
  intro W base args ds gs before hval0 hW hcnd hsz0 _ _
  have hval : ∀ (j : Nat) t v, Tryz.f4.params[j]? = some t → args[j]? = some v → Value.okWide Tryz.prog W .any base t v := hval0
  have hsz : (DataW.weightsEach Tryz.prog (Tryz.f4.params.toList ++ Rows.topHandsSpec.plain.varTypes Tryz.prog) (ds ++ gs)).all (· ≤ reachBytes) = true := hsz0
  have hW' := hW
  obtain ⟨p, q, hA0, hV, rfl, hfz, hnd⟩ := hW
  have hA : DataW.TrodAll enc Tryz.prog W 0 (fun _ => true) true Tryz.f4.params.toList args.toList ds p := hA0
  rw [Tryz.params4] at hA hval hsz
  obtain ⟨v0, d0, rfl, rfl, h0⟩ := trodAll_one hA
  obtain ⟨rfl, rfl⟩ := trodVars_none hV
  obtain ⟨A0, c0, L0, rfl, hL0, hR0, hD0⟩ := Cw.open_rows 4 (ks := [0, 0, 0]) Tryz.underlying39 (by kernel_rfl) (by kernel_rfl) (by decide) (Cw.okWide_slice Tryz.underlying39 (hval 0 39 v0 rfl rfl)) h0
  have hz0 := Cw.sized_rows hsz 0 (t := 39) (e := 49) (b := 24) rfl rfl Tryz.underlying39 (by kernel_rfl) hD0
  obtain ⟨M0, hM01, hM02⟩ := flat_hacts L0 hL0
  rw [hM01, hM02] at hR0
  rw [hM01] at hz0 hW' ⊢
  refine (Cw.topHands_true M0 A0 c0 W (by omega) hR0).mono fun e W' ⟨he, hb⟩ => ⟨.bool true, he, ?_⟩
  exact Cw.post_law Tryz.laidOut rfl Tryz.underlying4 rfl (by kernel_rfl) hW' rfl hb
set_option maxRecDepth 100000 in
set_option maxHeartbeats 8000000 in
theorem topHands_closed : joinedFacts Tryz.pinned.checked.prog 4 Tryz.f4 Rows.topHandsSpec Rows.topHandsRow = true := by
  unfold joinedFacts
  exact band (band (band (band (band (band (band (band (band (band (band (band (band (band (band (band (band (band (band (band (band (band (band (band (band (band (band (band (band (band (band (by as_aux_lemma => kernel_rfl) Tryz.laidOut) f_maps) (by as_aux_lemma => kernel_rfl)) (by as_aux_lemma => kernel_rfl)) (by as_aux_lemma => kernel_rfl)) (by as_aux_lemma => kernel_rfl)) (by as_aux_lemma => kernel_rfl)) (by as_aux_lemma => kernel_rfl)) (by as_aux_lemma => kernel_rfl)) (by as_aux_lemma => kernel_rfl)) (by as_aux_lemma => kernel_rfl)) (by as_aux_lemma => kernel_rfl)) (by as_aux_lemma => kernel_rfl)) (by as_aux_lemma => kernel_rfl)) (by as_aux_lemma => kernel_rfl)) (by as_aux_lemma => kernel_rfl)) (by as_aux_lemma => kernel_rfl)) (by as_aux_lemma => kernel_rfl)) (by as_aux_lemma => kernel_rfl)) (by as_aux_lemma => kernel_rfl)) (by as_aux_lemma => kernel_rfl)) f_keys) (by as_aux_lemma => kernel_rfl)) f_heard) f_enter) f_lift) f_make) (by as_aux_lemma => kernel_rfl)) (by as_aux_lemma => kernel_rfl)) (by as_aux_lemma => kernel_rfl)) (by as_aux_lemma => kernel_rfl)
theorem topHands_named : Tryz.pinned.checked.prog.funcNamed Rows.topHandsRow.func = some 4 := by kernel_rfl
theorem topHands_inst : decide (Tryz.f4.isInstance Tryz.pinned.checked.prog Rows.topHandsRow.origin Rows.topHandsRow.targs) = true := by kernel_rfl
theorem topHands_holds : Rows.TopHandsSaid :=
  OpenClaim.holds_of_wide 4 Tryz.f4 rfl rfl rfl rfl rfl rfl rfl ⟨rfl, rfl, rfl, rfl, rfl⟩ rfl rfl rfl rfl rfl topHands_named Tryz.func4 topHands_closed
    (of_decide_eq_true topHands_inst) (by unfold Func.isWrapper; rw [if_neg (of_decide_eq_false (by kernel_rfl))]; exact ⟨rfl, rfl⟩)
    (fun os started H enc _ => topHands_lifted os started H enc)
theorem topHands_card : Rows.TopHandsCardSaid :=
  Claim7.holds_tied_plain_at .later [] [.data, .pinned] true (true, "60ca34b1d8ba8292036b3028e84d48a0b437851fd5742611ef1842e08357fde0") false topHands_holds (fun _ h => by cases h) (by kernel_rfl) (fun _ h => by cases h) topHands_row_tie rfl ⟨rfl, rfl⟩ (by kernel_rfl) rfl
    (fun f fn hf hfn => by
      obtain rfl : f = 4 := Option.some.inj (hf.symm.trans topHands_named)
      obtain rfl : fn = Tryz.f4 := Option.some.inj (hfn.symm.trans Tryz.func4)
      exact ⟨by kernel_rfl, fun j t ht => by
        rw [Tryz.params4] at ht
        have hm : t ∈ [39] := by simpa using Array.mem_of_getElem? ht
        have hall : ([39].all fun u => !Tryz.prog.wantsStandIn u) = true := by kernel_rfl
        exact (show Tryz.prog.wantsStandIn t = false by simpa using List.all_eq_true.1 hall t hm)⟩)
    (by kernel_rfl)
end Go.Proofs.YtclcibpghonidaaGreatDoor
