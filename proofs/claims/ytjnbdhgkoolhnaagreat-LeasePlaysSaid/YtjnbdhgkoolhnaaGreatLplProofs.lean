/- LeasePlays: whatever the arguments: the law returns true, and its arguments read as they did. No condition. -/
import Derived.Test.YtjnbdhgkoolhnaaGreatRows
import Derived.Test.YtjnbdhgkoolhnaaGreatLpl
import Derived.Test.YtjnbdhgkoolhnaaGreatOpen
import Derived.Test.YtjnbdhgkoolhnaaGreatFactsB
import Derived.Test.YtjnbdhgkoolhnaaGreatFactsC
import Derived.Test.YtjnbdhgkoolhnaaGreatFactsD
namespace Go.Proofs.YtjnbdhgkoolhnaaGreat
open Go.ChangeShapes Go.WideShapes Go.ChangeAt Go.RowKit Go.Joins

theorem flat_pacts : ∀ (L : List (List Value)), (∀ r ∈ L, Cw.AllK [0, 0, 0, 0, 1] r) → ∃ M : List Cw.PAct, L.length = M.length ∧ L.flatten = Cw.pacells M ∧ ∀ a ∈ M, a.text.size ≤ maxLen
  | [], _ => ⟨[], rfl, rfl, by simp⟩
  | r :: L, h => by
    obtain ⟨M, h1, h2, h4⟩ := flat_pacts L fun r hr => h r (List.mem_cons.2 (.inr hr))
    obtain ⟨_, _, rfl, ⟨a0, rfl, _⟩, _, _, rfl, ⟨a1, rfl, _⟩, _, _, rfl, ⟨a2, rfl, _⟩, _, _, rfl, ⟨a3, rfl, _⟩, _, _, rfl, ⟨a4, rfl, z4⟩, h3⟩ := h r (by simp)
    have h3' : _ = [] := h3
    subst h3'
    exact ⟨⟨a0, a1, a2, a3, a4⟩ :: M, by simp [h1], by simp [h2, Cw.pacells, Cw.fcs, Cw.pac], by simp; exact ⟨z4, h4⟩⟩

set_option maxRecDepth 100000 in
theorem leasePlays_lifted (os : Os) (started : os.Started) (H : Type) (enc : TypeId × Value → H) :
    ReturnsInHanded {} Tryz.checked os 3 .any (Rows.leasePlaysSpec.pre6 enc Tryz.prog Tryz.f3 Rows.leasePlaysRow.domain false) (Rows.leasePlaysSpec.post enc Tryz.prog Tryz.f3 false true false false) := by
  refine returnsInHanded_of_change_sized (C := Tryz.checked) Tryz.own started (by kernel_rfl) Tryz.func3
    (ChangeSpec.witness6 (enc := enc) (C := Tryz.checked) false ⟨#[], #[.agg #[.int .i64 0, .int .i64 0, .int .i64 0], .agg #[.int .i64 0, .int .i64 0, .int .i64 0], .slice none 0 0], []⟩ 8 (by kernel_rfl) (by kernel_rfl) (by kernel_rfl) (by kernel_rfl)) ?_
  intro W base args ds gs before hval0 hW hcnd hsz0 _
  have hval : ∀ (j : Nat) t v, Tryz.f3.params[j]? = some t → args[j]? = some v → Value.okWide Tryz.prog W .any base t v := hval0
  have hsz : (DataW.weightsEach Tryz.prog (Tryz.f3.params.toList ++ Rows.leasePlaysSpec.plain.varTypes Tryz.prog) (ds ++ gs)).all (· ≤ reachBytes) = true := hsz0
  have hW' := hW
  obtain ⟨p, q, hA0, hV, rfl, hfz, hnd⟩ := hW
  have hA : DataW.TrodAll enc Tryz.prog W 0 (fun _ => true) true Tryz.f3.params.toList args.toList ds p := hA0
  rw [Tryz.params3] at hA hval hsz
  obtain ⟨v0, v1, v2, d0, d1, d2, p0, p1, p2, rfl, rfl, hpp, h0, h1, h2⟩ := trodAll_three hA
  obtain ⟨rfl, rfl⟩ := trodVars_none hV
  obtain ⟨a, b, c, rfl, wa, wb, wc⟩ := Cw.open_three Tryz.underlying23 (by kernel_rfl) (by kernel_rfl) Tryz.underlying3 rfl rfl rfl (hval 0 23 v0 rfl rfl) h0
  obtain ⟨a1, b1, c1, rfl, wp, wq, wr⟩ := Cw.open_three Tryz.underlying23 (by kernel_rfl) (by kernel_rfl) Tryz.underlying3 rfl rfl rfl (hval 1 23 v1 rfl rfl) h1
  obtain ⟨A2, c2, L2, rfl, hL2, hR2, hD2⟩ := Cw.open_rows 4 (ks := [0, 0, 0, 0, 1]) Tryz.underlying24 (by kernel_rfl) (by kernel_rfl) (by decide) (Cw.okWide_slice Tryz.underlying24 (hval 2 24 v2 rfl rfl)) h2
  have hz2 := Cw.sized_rows hsz 2 (t := 24) (e := 34) (b := 48) rfl rfl Tryz.underlying24 (by kernel_rfl) hD2
  obtain ⟨M0, hM01, hM02, hM03⟩ := flat_pacts L2 hL2
  rw [hM01, hM02] at hR2
  rw [hM01] at hz2 hW' ⊢
  refine (Cw.leasePlays_true a b c a1 b1 c1 M0 A2 c2 W (by omega) hM03 hR2).mono fun e W' ⟨he, hb⟩ => ⟨.bool true, he, ?_⟩
  exact Cw.post_law Tryz.laidOut rfl Tryz.underlying4 rfl (by kernel_rfl) hW' rfl hb
set_option maxRecDepth 100000 in
set_option maxHeartbeats 8000000 in
theorem leasePlays_closed : joinedFacts Tryz.pinned.checked.prog 3 Tryz.f3 Rows.leasePlaysSpec Rows.leasePlaysRow = true := by
  unfold joinedFacts
  exact band (band (band (band (band (band (band (band (band (band (band (band (band (band (band (band (band (band (band (band (band (band (band (band (band (band (band (band (band (band (band (by as_aux_lemma => kernel_rfl) Tryz.laidOut) f_maps) (by as_aux_lemma => kernel_rfl)) (by as_aux_lemma => kernel_rfl)) (by as_aux_lemma => kernel_rfl)) (by as_aux_lemma => kernel_rfl)) (by as_aux_lemma => kernel_rfl)) (by as_aux_lemma => kernel_rfl)) (by as_aux_lemma => kernel_rfl)) (by as_aux_lemma => kernel_rfl)) (by as_aux_lemma => kernel_rfl)) (by as_aux_lemma => kernel_rfl)) (by as_aux_lemma => kernel_rfl)) (by as_aux_lemma => kernel_rfl)) (by as_aux_lemma => kernel_rfl)) (by as_aux_lemma => kernel_rfl)) (by as_aux_lemma => kernel_rfl)) (by as_aux_lemma => kernel_rfl)) (by as_aux_lemma => kernel_rfl)) (by as_aux_lemma => kernel_rfl)) (by as_aux_lemma => kernel_rfl)) f_keys) (by as_aux_lemma => kernel_rfl)) f_heard) f_enter) f_lift) f_make) (by as_aux_lemma => kernel_rfl)) (by as_aux_lemma => kernel_rfl)) (by as_aux_lemma => kernel_rfl)) (by as_aux_lemma => kernel_rfl)
theorem leasePlays_named : Tryz.pinned.checked.prog.funcNamed Rows.leasePlaysRow.func = some 3 := by kernel_rfl
theorem leasePlays_inst : decide (Tryz.f3.isInstance Tryz.pinned.checked.prog Rows.leasePlaysRow.origin Rows.leasePlaysRow.targs) = true := by kernel_rfl
theorem leasePlays_holds : Rows.LeasePlaysSaid :=
  OpenClaim.holds_of_wide 3 Tryz.f3 rfl rfl rfl rfl rfl rfl rfl ⟨rfl, rfl, rfl, rfl, rfl⟩ rfl rfl rfl rfl rfl leasePlays_named Tryz.func3 leasePlays_closed
    (of_decide_eq_true leasePlays_inst) (by unfold Func.isWrapper; rw [if_neg (of_decide_eq_false (by kernel_rfl))]; exact ⟨rfl, rfl⟩)
    (fun os started H enc _ => leasePlays_lifted os started H enc)
end Go.Proofs.YtjnbdhgkoolhnaaGreat
