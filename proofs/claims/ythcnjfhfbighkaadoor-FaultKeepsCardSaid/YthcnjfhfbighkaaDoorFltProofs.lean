/- The laws of chapter 2: whatever the arguments: each returns true, and its arguments read as they did. No condition but the variable errors.errorType, which holds what its initialiser lays. -/
import Derived.Test.YthcnjfhfbighkaaDoorRows
import Derived.Test.YthcnjfhfbighkaaDoorFltK
import Derived.Test.YthcnjfhfbighkaaDoorOpen
import Derived.Test.YthcnjfhfbighkaaDoorFactsB
import Derived.Test.YthcnjfhfbighkaaDoorFactsC
import Derived.Test.YthcnjfhfbighkaaDoorFactsD
import Derived.ChangeSame
import Derived.ChangeVars
import Derived.LaidLaws
import Derived.LaidHandle
import Derived.Stop.Joined
import Derived.SevenTiedAt
import Derived.Test.YthcnjfhfbighkaaDoorTie
import Derived.Test.YthcnjfhfbighkaaDoorCards
namespace Go.Proofs.YthcnjfhfbighkaaDoor
open Go.ChangeShapes Go.WideShapes Go.ChangeAt Go.RowKit Go.Joins

theorem g_et : Tryd.prog.globalNamed "errors.errorType" = some 0 := by kernel_rfl
theorem g_rt : (Tryd.prog.cutTypes.find? (·.1 == "internal/reflectlite.rtype")).map (·.2) = some 73 := by kernel_rfl
theorem g_row : ((List.range 118).filter fun t => Tryd.prog.rowNamed t [101, 114, 114, 111, 114]) = [25] := by kernel_rfl
theorem g_size : Tryd.prog.types.size = 118 := by kernel_rfl
/-- What the condition gives a walk: the variable's one cell. -/
theorem handle_of_laid {W : World} (h : laidMetH Tryd.prog [("errors.errorType", Rows.laid_errors_errorType)] W) : W.cell? ⟨0, 0, none⟩ = some Cw.hdlV := by
  have h' : laidMet Tryd.prog [] W ∧ handlesMet Tryd.prog [("errors.errorType", Rows.laid_errors_errorType)] W := h
  obtain ⟨name, u, ty, e1, e2, e3, e4, e5⟩ := h'.2 _ (List.mem_singleton.2 rfl)
  have en : name = [101, 114, 114, 111, 114] := (Option.some.inj e1).symm
  subst en
  obtain rfl := Option.some.inj (g_rt.symm.trans e2)
  have hm : ty ∈ (List.range 118).filter fun t => Tryd.prog.rowNamed t [101, 114, 114, 111, 114] := List.mem_filter.2 ⟨List.mem_range.2 (by rw [← g_size]; exact e3), e4⟩
  rw [g_row] at hm
  obtain rfl := List.mem_singleton.1 hm
  have hh : typeHandle Tryd.prog 25 = .pointer (some ⟨1, 25, none⟩) := by kernel_rfl
  rw [hh] at e5
  simpa [Cw.hdlV] using World.var?_cell g_et e5 0
/-- A world that meets the condition. -/
noncomputable def laidWorld (os : Os) : World :=
  let w0 := World.holding Tryd.prog os ⟨#[], #[], []⟩
  { w0 with heap := w0.heap.modify 0 fun
      | .cells _ t frozen => .cells #[Cw.hdlV] t frozen
      | o => o }
theorem laidWorld_met (os : Os) (args : Array Value) : laidMetH Tryd.prog [("errors.errorType", Rows.laid_errors_errorType)] ((laidWorld os).forCall (fun _ _ => 0) ⟨#[], args, []⟩).memory :=
  laidMetH_of_parts (laidMet_nil _ _) (by kernel_rfl)
theorem flat_steps : ∀ (L : List (List Value)), (∀ r ∈ L, Cw.AllK [1, 0] r) → ∃ M : List (ByteArray × Int), L.length = M.length ∧ L.flatten = Cw.stS M
  | [], _ => ⟨[], rfl, rfl⟩
  | r :: L, h => by
    obtain ⟨M, h1, h2⟩ := flat_steps L fun r hr => h r (List.mem_cons.2 (.inr hr))
    obtain ⟨_, _, rfl, ⟨a0, rfl, _⟩, _, _, rfl, ⟨a1, rfl, _⟩, h3⟩ := h r (by simp)
    have h3' : _ = [] := h3
    subst h3'
    exact ⟨(a0, a1) :: M, by simp [h1], by simp [h2, Cw.stS, Cw.fcs, Cw.stp]⟩

set_option maxRecDepth 100000 in
theorem faultWraps_lifted (os : Os) (started : os.Started) (H : Type) (enc : TypeId × Value → H) :
    ReturnsInHanded {} Tryd.checked os 3 .any (fun w args => (Rows.faultWrapsSpec.pre enc Tryd.prog Tryd.f3 Rows.faultWrapsRow.domain false w args ∧ laidMetH Tryd.prog Rows.faultWrapsRow.laid w) ∧ sizedMet enc Tryd.prog Tryd.f3 (OpenSpec.ofChange Rows.faultWrapsSpec) false w args) (Rows.faultWrapsSpec.post enc Tryd.prog Tryd.f3 false true false false) := by
  refine returnsInHanded_of_change_and (C := Tryd.checked) (X := fun w _ => laidMetH Tryd.prog Rows.faultWrapsRow.laid w) (fun _ _ _ hh h => h.of_heap hh) Tryd.own started (by kernel_rfl) Tryd.func3
    (ChangeSpec.witness_at (enc := enc) (C := Tryd.checked) (os := os) (X := fun w _ => laidMetH Tryd.prog Rows.faultWrapsRow.laid w) false (laidWorld os) #[.int .i64 0, .slice none 0 0, .string ⟨#[]⟩] 8 rfl (by kernel_rfl) (by kernel_rfl) (by kernel_rfl) (by kernel_rfl) (by kernel_rfl) (laidWorld_met os _)) ?_
  intro W base args ds gs before hval0 hW hcnd hsz0 hL _
  have hval : ∀ (j : Nat) t v, Tryd.f3.params[j]? = some t → args[j]? = some v → Value.okWide Tryd.prog W .any base t v := hval0
  have hsz : (DataW.weightsEach Tryd.prog (Tryd.f3.params.toList ++ Rows.faultWrapsSpec.plain.varTypes Tryd.prog) (ds ++ gs)).all (· ≤ reachBytes) = true := hsz0
  have hW' := hW
  obtain ⟨p, q, hA0, hV, rfl, hfz, hnd⟩ := hW
  have hA : DataW.TrodAll enc Tryd.prog W 0 (fun _ => true) true Tryd.f3.params.toList args.toList ds p := hA0
  rw [Tryd.params3] at hA hval hsz
  obtain ⟨v0, v1, v2, d0, d1, d2, p0, p1, p2, rfl, rfl, hpp, h0, h1, h2⟩ := trodAll_three hA
  obtain ⟨rfl, rfl⟩ := trodVars_none hV
  obtain ⟨c, rfl, _, _, wc⟩ := open_int Tryd.underlying22 (hval 0 22 v0 rfl rfl) h0
  obtain ⟨A1, c1, L1, rfl, hL1, hR1, hD1⟩ := Cw.open_rows 4 (ks := [1, 0]) Tryd.underlying23 (by kernel_rfl) (by kernel_rfl) (by decide) (Cw.okWide_slice Tryd.underlying23 (hval 1 23 v1 rfl rfl)) h1
  have hz1 := Cw.sized_rows hsz 1 (t := 23) (e := 40) (b := 24) rfl rfl Tryd.underlying23 (by kernel_rfl) hD1
  obtain ⟨op, rfl, _, _, wop⟩ := Go.ChangeMaps.open_string Tryd.underlying9 (hval 2 9 v2 rfl rfl) h2
  have hg := handle_of_laid hL
  obtain ⟨M0, hM01, hM02⟩ := flat_steps L1 hL1
  rw [hM01, hM02] at hR1
  rw [hM01] at hz1 hW' ⊢
  refine (Cw.threeS c M0 op _ A1 c1 W hR1 hg (Cw.faultWraps_h op (by omega))).mono fun e W' ⟨he, hb⟩ => ⟨.bool true, he, ?_⟩
  exact Cw.post_law Tryd.laidOut rfl Tryd.underlying4 rfl (by kernel_rfl) hW' rfl hb
set_option maxRecDepth 100000 in
set_option maxHeartbeats 8000000 in
theorem faultWraps_closed : joinedFacts Tryd.pinned.checked.prog 3 Tryd.f3 Rows.faultWrapsSpec Rows.faultWrapsRow = true := by
  unfold joinedFacts
  exact band (band (band (band (band (band (band (band (band (band (band (band (band (band (band (band (band (band (band (band (band (band (band (band (band (band (band (band (band (band (band (by as_aux_lemma => kernel_rfl) Tryd.laidOut) f_maps) (by as_aux_lemma => kernel_rfl)) (by as_aux_lemma => kernel_rfl)) (by as_aux_lemma => kernel_rfl)) (by as_aux_lemma => kernel_rfl)) (by as_aux_lemma => kernel_rfl)) (by as_aux_lemma => kernel_rfl)) (by as_aux_lemma => kernel_rfl)) (by as_aux_lemma => kernel_rfl)) (by as_aux_lemma => kernel_rfl)) (by as_aux_lemma => kernel_rfl)) (by as_aux_lemma => kernel_rfl)) (by as_aux_lemma => kernel_rfl)) (by as_aux_lemma => kernel_rfl)) (by as_aux_lemma => kernel_rfl)) (by as_aux_lemma => kernel_rfl)) (by as_aux_lemma => kernel_rfl)) (by as_aux_lemma => kernel_rfl)) (by as_aux_lemma => kernel_rfl)) (by as_aux_lemma => kernel_rfl)) f_keys) (by as_aux_lemma => kernel_rfl)) f_heard) f_enter) f_lift) f_make) (by as_aux_lemma => kernel_rfl)) (by as_aux_lemma => kernel_rfl)) (by as_aux_lemma => kernel_rfl)) (by as_aux_lemma => kernel_rfl)
theorem faultWraps_named : Tryd.pinned.checked.prog.funcNamed Rows.faultWrapsRow.func = some 3 := by kernel_rfl
theorem faultWraps_inst : decide (Tryd.f3.isInstance Tryd.pinned.checked.prog Rows.faultWrapsRow.origin Rows.faultWrapsRow.targs) = true := by kernel_rfl
theorem faultWraps_holds : Rows.FaultWrapsSaid :=
  OpenClaim.holds_of_wide 3 Tryd.f3 rfl rfl rfl rfl rfl rfl rfl ⟨rfl, rfl, rfl, rfl, rfl⟩ rfl rfl rfl rfl rfl faultWraps_named Tryd.func3 faultWraps_closed
    (of_decide_eq_true faultWraps_inst) (by unfold Func.isWrapper; rw [if_neg (of_decide_eq_false (by kernel_rfl))]; exact ⟨rfl, rfl⟩)
    (fun os started H enc _ => faultWraps_lifted os started H enc)
theorem faultWraps_card : Rows.FaultWrapsCardSaid :=
  Claim7.holds_tied_plain_at .later [] [.handle] true (true, "9d949f236b2d91cd6972b04a7bc8b492ca67773a58962a58db8c44611596708e") true faultWraps_holds (fun _ h => by cases h) (by kernel_rfl) (fun _ h => by cases h) faultWraps_row_tie rfl ⟨rfl, rfl⟩ (by kernel_rfl) rfl
    (fun f fn hf hfn => by
      obtain rfl : f = 3 := Option.some.inj (hf.symm.trans faultWraps_named)
      obtain rfl : fn = Tryd.f3 := Option.some.inj (hfn.symm.trans Tryd.func3)
      exact ⟨by kernel_rfl, fun j t ht => by
        rw [Tryd.params3] at ht
        have hm : t ∈ [22, 23, 9] := by simpa using Array.mem_of_getElem? ht
        have hall : ([22, 23, 9].all fun u => !Tryd.prog.wantsStandIn u) = true := by kernel_rfl
        exact (show Tryd.prog.wantsStandIn t = false by simpa using List.all_eq_true.1 hall t hm)⟩)
    (by kernel_rfl)
set_option maxRecDepth 100000 in
theorem faultFirsts_lifted (os : Os) (started : os.Started) (H : Type) (enc : TypeId × Value → H) :
    ReturnsInHanded {} Tryd.checked os 4 .any (fun w args => (Rows.faultFirstsSpec.pre enc Tryd.prog Tryd.f4 Rows.faultFirstsRow.domain false w args ∧ laidMetH Tryd.prog Rows.faultFirstsRow.laid w) ∧ sizedMet enc Tryd.prog Tryd.f4 (OpenSpec.ofChange Rows.faultFirstsSpec) false w args) (Rows.faultFirstsSpec.post enc Tryd.prog Tryd.f4 false true false false) := by
  refine returnsInHanded_of_change_and (C := Tryd.checked) (X := fun w _ => laidMetH Tryd.prog Rows.faultFirstsRow.laid w) (fun _ _ _ hh h => h.of_heap hh) Tryd.own started (by kernel_rfl) Tryd.func4
    (ChangeSpec.witness_at (enc := enc) (C := Tryd.checked) (os := os) (X := fun w _ => laidMetH Tryd.prog Rows.faultFirstsRow.laid w) false (laidWorld os) #[.int .i64 0, .slice none 0 0, .string ⟨#[]⟩] 8 rfl (by kernel_rfl) (by kernel_rfl) (by kernel_rfl) (by kernel_rfl) (by kernel_rfl) (laidWorld_met os _)) ?_
  intro W base args ds gs before hval0 hW hcnd hsz0 hL _
  have hval : ∀ (j : Nat) t v, Tryd.f4.params[j]? = some t → args[j]? = some v → Value.okWide Tryd.prog W .any base t v := hval0
  have hsz : (DataW.weightsEach Tryd.prog (Tryd.f4.params.toList ++ Rows.faultFirstsSpec.plain.varTypes Tryd.prog) (ds ++ gs)).all (· ≤ reachBytes) = true := hsz0
  have hW' := hW
  obtain ⟨p, q, hA0, hV, rfl, hfz, hnd⟩ := hW
  have hA : DataW.TrodAll enc Tryd.prog W 0 (fun _ => true) true Tryd.f4.params.toList args.toList ds p := hA0
  rw [Tryd.params4] at hA hval hsz
  obtain ⟨v0, v1, v2, d0, d1, d2, p0, p1, p2, rfl, rfl, hpp, h0, h1, h2⟩ := trodAll_three hA
  obtain ⟨rfl, rfl⟩ := trodVars_none hV
  obtain ⟨c, rfl, _, _, wc⟩ := open_int Tryd.underlying22 (hval 0 22 v0 rfl rfl) h0
  obtain ⟨A1, c1, L1, rfl, hL1, hR1, hD1⟩ := Cw.open_rows 4 (ks := [1, 0]) Tryd.underlying23 (by kernel_rfl) (by kernel_rfl) (by decide) (Cw.okWide_slice Tryd.underlying23 (hval 1 23 v1 rfl rfl)) h1
  have hz1 := Cw.sized_rows hsz 1 (t := 23) (e := 40) (b := 24) rfl rfl Tryd.underlying23 (by kernel_rfl) hD1
  obtain ⟨op, rfl, _, _, wop⟩ := Go.ChangeMaps.open_string Tryd.underlying9 (hval 2 9 v2 rfl rfl) h2
  have hg := handle_of_laid hL
  obtain ⟨M0, hM01, hM02⟩ := flat_steps L1 hL1
  rw [hM01, hM02] at hR1
  rw [hM01] at hz1 hW' ⊢
  refine (Cw.threeS c M0 op _ A1 c1 W hR1 hg (Cw.faultFirsts_h op (by omega))).mono fun e W' ⟨he, hb⟩ => ⟨.bool true, he, ?_⟩
  exact Cw.post_law Tryd.laidOut rfl Tryd.underlying4 rfl (by kernel_rfl) hW' rfl hb
set_option maxRecDepth 100000 in
set_option maxHeartbeats 8000000 in
theorem faultFirsts_closed : joinedFacts Tryd.pinned.checked.prog 4 Tryd.f4 Rows.faultFirstsSpec Rows.faultFirstsRow = true := by
  unfold joinedFacts
  exact band (band (band (band (band (band (band (band (band (band (band (band (band (band (band (band (band (band (band (band (band (band (band (band (band (band (band (band (band (band (band (by as_aux_lemma => kernel_rfl) Tryd.laidOut) f_maps) (by as_aux_lemma => kernel_rfl)) (by as_aux_lemma => kernel_rfl)) (by as_aux_lemma => kernel_rfl)) (by as_aux_lemma => kernel_rfl)) (by as_aux_lemma => kernel_rfl)) (by as_aux_lemma => kernel_rfl)) (by as_aux_lemma => kernel_rfl)) (by as_aux_lemma => kernel_rfl)) (by as_aux_lemma => kernel_rfl)) (by as_aux_lemma => kernel_rfl)) (by as_aux_lemma => kernel_rfl)) (by as_aux_lemma => kernel_rfl)) (by as_aux_lemma => kernel_rfl)) (by as_aux_lemma => kernel_rfl)) (by as_aux_lemma => kernel_rfl)) (by as_aux_lemma => kernel_rfl)) (by as_aux_lemma => kernel_rfl)) (by as_aux_lemma => kernel_rfl)) (by as_aux_lemma => kernel_rfl)) f_keys) (by as_aux_lemma => kernel_rfl)) f_heard) f_enter) f_lift) f_make) (by as_aux_lemma => kernel_rfl)) (by as_aux_lemma => kernel_rfl)) (by as_aux_lemma => kernel_rfl)) (by as_aux_lemma => kernel_rfl)
theorem faultFirsts_named : Tryd.pinned.checked.prog.funcNamed Rows.faultFirstsRow.func = some 4 := by kernel_rfl
theorem faultFirsts_inst : decide (Tryd.f4.isInstance Tryd.pinned.checked.prog Rows.faultFirstsRow.origin Rows.faultFirstsRow.targs) = true := by kernel_rfl
theorem faultFirsts_holds : Rows.FaultFirstsSaid :=
  OpenClaim.holds_of_wide 4 Tryd.f4 rfl rfl rfl rfl rfl rfl rfl ⟨rfl, rfl, rfl, rfl, rfl⟩ rfl rfl rfl rfl rfl faultFirsts_named Tryd.func4 faultFirsts_closed
    (of_decide_eq_true faultFirsts_inst) (by unfold Func.isWrapper; rw [if_neg (of_decide_eq_false (by kernel_rfl))]; exact ⟨rfl, rfl⟩)
    (fun os started H enc _ => faultFirsts_lifted os started H enc)
theorem faultFirsts_card : Rows.FaultFirstsCardSaid :=
  Claim7.holds_tied_plain_at .later [] [.handle] true (true, "9d949f236b2d91cd6972b04a7bc8b492ca67773a58962a58db8c44611596708e") true faultFirsts_holds (fun _ h => by cases h) (by kernel_rfl) (fun _ h => by cases h) faultFirsts_row_tie rfl ⟨rfl, rfl⟩ (by kernel_rfl) rfl
    (fun f fn hf hfn => by
      obtain rfl : f = 4 := Option.some.inj (hf.symm.trans faultFirsts_named)
      obtain rfl : fn = Tryd.f4 := Option.some.inj (hfn.symm.trans Tryd.func4)
      exact ⟨by kernel_rfl, fun j t ht => by
        rw [Tryd.params4] at ht
        have hm : t ∈ [22, 23, 9] := by simpa using Array.mem_of_getElem? ht
        have hall : ([22, 23, 9].all fun u => !Tryd.prog.wantsStandIn u) = true := by kernel_rfl
        exact (show Tryd.prog.wantsStandIn t = false by simpa using List.all_eq_true.1 hall t hm)⟩)
    (by kernel_rfl)
set_option maxRecDepth 100000 in
theorem faultAsks_lifted (os : Os) (started : os.Started) (H : Type) (enc : TypeId × Value → H) :
    ReturnsInHanded {} Tryd.checked os 5 .any (fun w args => (Rows.faultAsksSpec.pre enc Tryd.prog Tryd.f5 Rows.faultAsksRow.domain false w args ∧ laidMetH Tryd.prog Rows.faultAsksRow.laid w) ∧ sizedMet enc Tryd.prog Tryd.f5 (OpenSpec.ofChange Rows.faultAsksSpec) false w args) (Rows.faultAsksSpec.post enc Tryd.prog Tryd.f5 false true false false) := by
  refine returnsInHanded_of_change_and (C := Tryd.checked) (X := fun w _ => laidMetH Tryd.prog Rows.faultAsksRow.laid w) (fun _ _ _ hh h => h.of_heap hh) Tryd.own started (by kernel_rfl) Tryd.func5
    (ChangeSpec.witness_at (enc := enc) (C := Tryd.checked) (os := os) (X := fun w _ => laidMetH Tryd.prog Rows.faultAsksRow.laid w) false (laidWorld os) #[.int .i64 0, .slice none 0 0, .int .i64 0] 8 rfl (by kernel_rfl) (by kernel_rfl) (by kernel_rfl) (by kernel_rfl) (by kernel_rfl) (laidWorld_met os _)) ?_
  intro W base args ds gs before hval0 hW hcnd hsz0 hL _
  have hval : ∀ (j : Nat) t v, Tryd.f5.params[j]? = some t → args[j]? = some v → Value.okWide Tryd.prog W .any base t v := hval0
  have hsz : (DataW.weightsEach Tryd.prog (Tryd.f5.params.toList ++ Rows.faultAsksSpec.plain.varTypes Tryd.prog) (ds ++ gs)).all (· ≤ reachBytes) = true := hsz0
  have hW' := hW
  obtain ⟨p, q, hA0, hV, rfl, hfz, hnd⟩ := hW
  have hA : DataW.TrodAll enc Tryd.prog W 0 (fun _ => true) true Tryd.f5.params.toList args.toList ds p := hA0
  rw [Tryd.params5] at hA hval hsz
  obtain ⟨v0, v1, v2, d0, d1, d2, p0, p1, p2, rfl, rfl, hpp, h0, h1, h2⟩ := trodAll_three hA
  obtain ⟨rfl, rfl⟩ := trodVars_none hV
  obtain ⟨c, rfl, _, _, wc⟩ := open_int Tryd.underlying22 (hval 0 22 v0 rfl rfl) h0
  obtain ⟨A1, c1, L1, rfl, hL1, hR1, hD1⟩ := Cw.open_rows 4 (ks := [1, 0]) Tryd.underlying23 (by kernel_rfl) (by kernel_rfl) (by decide) (Cw.okWide_slice Tryd.underlying23 (hval 1 23 v1 rfl rfl)) h1
  have hz1 := Cw.sized_rows hsz 1 (t := 23) (e := 40) (b := 24) rfl rfl Tryd.underlying23 (by kernel_rfl) hD1
  obtain ⟨d, rfl, _, _, wd⟩ := open_int Tryd.underlying22 (hval 2 22 v2 rfl rfl) h2
  have hg := handle_of_laid hL
  obtain ⟨M0, hM01, hM02⟩ := flat_steps L1 hL1
  rw [hM01, hM02] at hR1
  rw [hM01] at hz1 hW' ⊢
  refine (Cw.threeI c M0 d _ A1 c1 W hR1 hg (Cw.faultAsks_h d (by omega))).mono fun e W' ⟨he, hb⟩ => ⟨.bool true, he, ?_⟩
  exact Cw.post_law Tryd.laidOut rfl Tryd.underlying4 rfl (by kernel_rfl) hW' rfl hb
set_option maxRecDepth 100000 in
set_option maxHeartbeats 8000000 in
theorem faultAsks_closed : joinedFacts Tryd.pinned.checked.prog 5 Tryd.f5 Rows.faultAsksSpec Rows.faultAsksRow = true := by
  unfold joinedFacts
  exact band (band (band (band (band (band (band (band (band (band (band (band (band (band (band (band (band (band (band (band (band (band (band (band (band (band (band (band (band (band (band (by as_aux_lemma => kernel_rfl) Tryd.laidOut) f_maps) (by as_aux_lemma => kernel_rfl)) (by as_aux_lemma => kernel_rfl)) (by as_aux_lemma => kernel_rfl)) (by as_aux_lemma => kernel_rfl)) (by as_aux_lemma => kernel_rfl)) (by as_aux_lemma => kernel_rfl)) (by as_aux_lemma => kernel_rfl)) (by as_aux_lemma => kernel_rfl)) (by as_aux_lemma => kernel_rfl)) (by as_aux_lemma => kernel_rfl)) (by as_aux_lemma => kernel_rfl)) (by as_aux_lemma => kernel_rfl)) (by as_aux_lemma => kernel_rfl)) (by as_aux_lemma => kernel_rfl)) (by as_aux_lemma => kernel_rfl)) (by as_aux_lemma => kernel_rfl)) (by as_aux_lemma => kernel_rfl)) (by as_aux_lemma => kernel_rfl)) (by as_aux_lemma => kernel_rfl)) f_keys) (by as_aux_lemma => kernel_rfl)) f_heard) f_enter) f_lift) f_make) (by as_aux_lemma => kernel_rfl)) (by as_aux_lemma => kernel_rfl)) (by as_aux_lemma => kernel_rfl)) (by as_aux_lemma => kernel_rfl)
theorem faultAsks_named : Tryd.pinned.checked.prog.funcNamed Rows.faultAsksRow.func = some 5 := by kernel_rfl
theorem faultAsks_inst : decide (Tryd.f5.isInstance Tryd.pinned.checked.prog Rows.faultAsksRow.origin Rows.faultAsksRow.targs) = true := by kernel_rfl
theorem faultAsks_holds : Rows.FaultAsksSaid :=
  OpenClaim.holds_of_wide 5 Tryd.f5 rfl rfl rfl rfl rfl rfl rfl ⟨rfl, rfl, rfl, rfl, rfl⟩ rfl rfl rfl rfl rfl faultAsks_named Tryd.func5 faultAsks_closed
    (of_decide_eq_true faultAsks_inst) (by unfold Func.isWrapper; rw [if_neg (of_decide_eq_false (by kernel_rfl))]; exact ⟨rfl, rfl⟩)
    (fun os started H enc _ => faultAsks_lifted os started H enc)
theorem faultAsks_card : Rows.FaultAsksCardSaid :=
  Claim7.holds_tied_plain_at .later [] [.handle] true (true, "9d949f236b2d91cd6972b04a7bc8b492ca67773a58962a58db8c44611596708e") true faultAsks_holds (fun _ h => by cases h) (by kernel_rfl) (fun _ h => by cases h) faultAsks_row_tie rfl ⟨rfl, rfl⟩ (by kernel_rfl) rfl
    (fun f fn hf hfn => by
      obtain rfl : f = 5 := Option.some.inj (hf.symm.trans faultAsks_named)
      obtain rfl : fn = Tryd.f5 := Option.some.inj (hfn.symm.trans Tryd.func5)
      exact ⟨by kernel_rfl, fun j t ht => by
        rw [Tryd.params5] at ht
        have hm : t ∈ [22, 23, 22] := by simpa using Array.mem_of_getElem? ht
        have hall : ([22, 23, 22].all fun u => !Tryd.prog.wantsStandIn u) = true := by kernel_rfl
        exact (show Tryd.prog.wantsStandIn t = false by simpa using List.all_eq_true.1 hall t hm)⟩)
    (by kernel_rfl)
set_option maxRecDepth 100000 in
theorem faultKeeps_lifted (os : Os) (started : os.Started) (H : Type) (enc : TypeId × Value → H) :
    ReturnsInHanded {} Tryd.checked os 6 .any (fun w args => (Rows.faultKeepsSpec.pre enc Tryd.prog Tryd.f6 Rows.faultKeepsRow.domain false w args ∧ laidMetH Tryd.prog Rows.faultKeepsRow.laid w) ∧ sizedMet enc Tryd.prog Tryd.f6 (OpenSpec.ofChange Rows.faultKeepsSpec) false w args) (Rows.faultKeepsSpec.post enc Tryd.prog Tryd.f6 false true false false) := by
  refine returnsInHanded_of_change_and (C := Tryd.checked) (X := fun w _ => laidMetH Tryd.prog Rows.faultKeepsRow.laid w) (fun _ _ _ hh h => h.of_heap hh) Tryd.own started (by kernel_rfl) Tryd.func6
    (ChangeSpec.witness_at (enc := enc) (C := Tryd.checked) (os := os) (X := fun w _ => laidMetH Tryd.prog Rows.faultKeepsRow.laid w) false (laidWorld os) #[.int .i64 0, .slice none 0 0] 8 rfl (by kernel_rfl) (by kernel_rfl) (by kernel_rfl) (by kernel_rfl) (by kernel_rfl) (laidWorld_met os _)) ?_
  intro W base args ds gs before hval0 hW hcnd hsz0 hL _
  have hval : ∀ (j : Nat) t v, Tryd.f6.params[j]? = some t → args[j]? = some v → Value.okWide Tryd.prog W .any base t v := hval0
  have hsz : (DataW.weightsEach Tryd.prog (Tryd.f6.params.toList ++ Rows.faultKeepsSpec.plain.varTypes Tryd.prog) (ds ++ gs)).all (· ≤ reachBytes) = true := hsz0
  have hW' := hW
  obtain ⟨p, q, hA0, hV, rfl, hfz, hnd⟩ := hW
  have hA : DataW.TrodAll enc Tryd.prog W 0 (fun _ => true) true Tryd.f6.params.toList args.toList ds p := hA0
  rw [Tryd.params6] at hA hval hsz
  obtain ⟨v0, v1, d0, d1, p0, p1, rfl, rfl, hpp, h0, h1⟩ := trodAll_two hA
  obtain ⟨rfl, rfl⟩ := trodVars_none hV
  obtain ⟨c, rfl, _, _, wc⟩ := open_int Tryd.underlying22 (hval 0 22 v0 rfl rfl) h0
  obtain ⟨A1, c1, L1, rfl, hL1, hR1, hD1⟩ := Cw.open_rows 4 (ks := [1, 0]) Tryd.underlying23 (by kernel_rfl) (by kernel_rfl) (by decide) (Cw.okWide_slice Tryd.underlying23 (hval 1 23 v1 rfl rfl)) h1
  have hz1 := Cw.sized_rows hsz 1 (t := 23) (e := 40) (b := 24) rfl rfl Tryd.underlying23 (by kernel_rfl) hD1
  have hg := handle_of_laid hL
  obtain ⟨M0, hM01, hM02⟩ := flat_steps L1 hL1
  rw [hM01, hM02] at hR1
  rw [hM01] at hz1 hW' ⊢
  refine (Cw.two c M0 _ A1 c1 W hR1 hg (Cw.faultKeeps_h (by omega))).mono fun e W' ⟨he, hb⟩ => ⟨.bool true, he, ?_⟩
  exact Cw.post_law Tryd.laidOut rfl Tryd.underlying4 rfl (by kernel_rfl) hW' rfl hb
set_option maxRecDepth 100000 in
set_option maxHeartbeats 8000000 in
theorem faultKeeps_closed : joinedFacts Tryd.pinned.checked.prog 6 Tryd.f6 Rows.faultKeepsSpec Rows.faultKeepsRow = true := by
  unfold joinedFacts
  exact band (band (band (band (band (band (band (band (band (band (band (band (band (band (band (band (band (band (band (band (band (band (band (band (band (band (band (band (band (band (band (by as_aux_lemma => kernel_rfl) Tryd.laidOut) f_maps) (by as_aux_lemma => kernel_rfl)) (by as_aux_lemma => kernel_rfl)) (by as_aux_lemma => kernel_rfl)) (by as_aux_lemma => kernel_rfl)) (by as_aux_lemma => kernel_rfl)) (by as_aux_lemma => kernel_rfl)) (by as_aux_lemma => kernel_rfl)) (by as_aux_lemma => kernel_rfl)) (by as_aux_lemma => kernel_rfl)) (by as_aux_lemma => kernel_rfl)) (by as_aux_lemma => kernel_rfl)) (by as_aux_lemma => kernel_rfl)) (by as_aux_lemma => kernel_rfl)) (by as_aux_lemma => kernel_rfl)) (by as_aux_lemma => kernel_rfl)) (by as_aux_lemma => kernel_rfl)) (by as_aux_lemma => kernel_rfl)) (by as_aux_lemma => kernel_rfl)) (by as_aux_lemma => kernel_rfl)) f_keys) (by as_aux_lemma => kernel_rfl)) f_heard) f_enter) f_lift) f_make) (by as_aux_lemma => kernel_rfl)) (by as_aux_lemma => kernel_rfl)) (by as_aux_lemma => kernel_rfl)) (by as_aux_lemma => kernel_rfl)
theorem faultKeeps_named : Tryd.pinned.checked.prog.funcNamed Rows.faultKeepsRow.func = some 6 := by kernel_rfl
theorem faultKeeps_inst : decide (Tryd.f6.isInstance Tryd.pinned.checked.prog Rows.faultKeepsRow.origin Rows.faultKeepsRow.targs) = true := by kernel_rfl
theorem faultKeeps_holds : Rows.FaultKeepsSaid :=
  OpenClaim.holds_of_wide 6 Tryd.f6 rfl rfl rfl rfl rfl rfl rfl ⟨rfl, rfl, rfl, rfl, rfl⟩ rfl rfl rfl rfl rfl faultKeeps_named Tryd.func6 faultKeeps_closed
    (of_decide_eq_true faultKeeps_inst) (by unfold Func.isWrapper; rw [if_neg (of_decide_eq_false (by kernel_rfl))]; exact ⟨rfl, rfl⟩)
    (fun os started H enc _ => faultKeeps_lifted os started H enc)
theorem faultKeeps_card : Rows.FaultKeepsCardSaid :=
  Claim7.holds_tied_plain_at .later [] [.handle] true (true, "9d949f236b2d91cd6972b04a7bc8b492ca67773a58962a58db8c44611596708e") true faultKeeps_holds (fun _ h => by cases h) (by kernel_rfl) (fun _ h => by cases h) faultKeeps_row_tie rfl ⟨rfl, rfl⟩ (by kernel_rfl) rfl
    (fun f fn hf hfn => by
      obtain rfl : f = 6 := Option.some.inj (hf.symm.trans faultKeeps_named)
      obtain rfl : fn = Tryd.f6 := Option.some.inj (hfn.symm.trans Tryd.func6)
      exact ⟨by kernel_rfl, fun j t ht => by
        rw [Tryd.params6] at ht
        have hm : t ∈ [22, 23] := by simpa using Array.mem_of_getElem? ht
        have hall : ([22, 23].all fun u => !Tryd.prog.wantsStandIn u) = true := by kernel_rfl
        exact (show Tryd.prog.wantsStandIn t = false by simpa using List.all_eq_true.1 hall t hm)⟩)
    (by kernel_rfl)
end Go.Proofs.YthcnjfhfbighkaaDoor
