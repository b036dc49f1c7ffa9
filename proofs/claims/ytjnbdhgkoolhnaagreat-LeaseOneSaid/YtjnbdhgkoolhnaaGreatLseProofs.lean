/- LeaseOne: whatever the arguments: the law returns true, and its arguments read as they did. No condition. -/
import Derived.Test.YtjnbdhgkoolhnaaGreatRows
import Derived.Test.YtjnbdhgkoolhnaaGreatLse6
import Derived.Test.YtjnbdhgkoolhnaaGreatOpen
import Derived.Test.YtjnbdhgkoolhnaaGreatFactsB
import Derived.Test.YtjnbdhgkoolhnaaGreatFactsC
import Derived.Test.YtjnbdhgkoolhnaaGreatFactsD
namespace Go.Proofs.YtjnbdhgkoolhnaaGreat
open Go.ChangeShapes Go.WideShapes Go.ChangeAt Go.RowKit Go.Joins

theorem flat_lacts : ∀ (L : List (List Value)), (∀ r ∈ L, Cw.AllK [0, 0, 0, 0, 1] r) → ∃ M : List Cw.LAct, L.length = M.length ∧ L.flatten = Cw.lacells M
  | [], _ => ⟨[], rfl, rfl⟩
  | r :: L, h => by
    obtain ⟨M, h1, h2⟩ := flat_lacts L fun r hr => h r (List.mem_cons.2 (.inr hr))
    obtain ⟨_, _, rfl, ⟨a0, rfl, _⟩, _, _, rfl, ⟨a1, rfl, _⟩, _, _, rfl, ⟨a2, rfl, _⟩, _, _, rfl, ⟨a3, rfl, _⟩, _, _, rfl, ⟨a4, rfl, _⟩, h3⟩ := h r (by simp)
    have h3' : _ = [] := h3
    subst h3'
    exact ⟨⟨a0, a1, a2, a3, a4⟩ :: M, by simp [h1], by simp [h2, Cw.lacells, Cw.fcs, Cw.lac]⟩

set_option maxRecDepth 100000 in
theorem leaseOne_lifted (os : Os) (started : os.Started) (H : Type) (enc : TypeId × Value → H) :
    ReturnsInHanded {} Tryz.checked os 4 .any (Rows.leaseOneSpec.pre6 enc Tryz.prog Tryz.f4 Rows.leaseOneRow.domain false) (Rows.leaseOneSpec.post enc Tryz.prog Tryz.f4 false true false false) := by
  refine returnsInHanded_of_change_sized (C := Tryz.checked) Tryz.own started (by kernel_rfl) Tryz.func4
    (ChangeSpec.witness6 (enc := enc) (C := Tryz.checked) false ⟨#[], #[.slice none 0 0], []⟩ 8 (by kernel_rfl) (by kernel_rfl) (by kernel_rfl) (by kernel_rfl)) ?_
  intro W base args ds gs before hval0 hW hcnd hsz0 _
  have hval : ∀ (j : Nat) t v, Tryz.f4.params[j]? = some t → args[j]? = some v → Value.okWide Tryz.prog W .any base t v := hval0
  have hsz : (DataW.weightsEach Tryz.prog (Tryz.f4.params.toList ++ Rows.leaseOneSpec.plain.varTypes Tryz.prog) (ds ++ gs)).all (· ≤ reachBytes) = true := hsz0
  have hW' := hW
  obtain ⟨p, q, hA0, hV, rfl, hfz, hnd⟩ := hW
  have hA : DataW.TrodAll enc Tryz.prog W 0 (fun _ => true) true Tryz.f4.params.toList args.toList ds p := hA0
  rw [Tryz.params4] at hA hval hsz
  obtain ⟨v0, d0, rfl, rfl, h0⟩ := trodAll_one hA
  obtain ⟨rfl, rfl⟩ := trodVars_none hV
  obtain ⟨A0, c0, L0, rfl, hL0, hR0, hD0⟩ := Cw.open_rows 4 (ks := [0, 0, 0, 0, 1]) Tryz.underlying24 (by kernel_rfl) (by kernel_rfl) (by decide) (Cw.okWide_slice Tryz.underlying24 (hval 0 24 v0 rfl rfl)) h0
  have hz0 := Cw.sized_rows hsz 0 (t := 24) (e := 34) (b := 48) rfl rfl Tryz.underlying24 (by kernel_rfl) hD0
  obtain ⟨M0, hM01, hM02⟩ := flat_lacts L0 hL0
  rw [hM01, hM02] at hR0
  rw [hM01] at hz0 hW' ⊢
  refine (Cw.leaseOne_true M0 A0 c0 W (by omega) hR0).mono fun e W' ⟨he, hb⟩ => ⟨.bool true, he, ?_⟩
  exact Cw.post_law Tryz.laidOut rfl Tryz.underlying4 rfl (by kernel_rfl) hW' rfl hb
set_option maxRecDepth 100000 in
set_option maxHeartbeats 8000000 in
theorem leaseOne_closed : joinedFacts Tryz.pinned.checked.prog 4 Tryz.f4 Rows.leaseOneSpec Rows.leaseOneRow = true := by
  unfold joinedFacts
  exact band (band (band (band (band (band (band (band (band (band (band (band (band (band (band (band (band (band (band (band (band (band (band (band (band (band (band (band (band (band (band (by as_aux_lemma => kernel_rfl) Tryz.laidOut) f_maps) (by as_aux_lemma => kernel_rfl)) (by as_aux_lemma => kernel_rfl)) (by as_aux_lemma => kernel_rfl)) (by as_aux_lemma => kernel_rfl)) (by as_aux_lemma => kernel_rfl)) (by as_aux_lemma => kernel_rfl)) (by as_aux_lemma => kernel_rfl)) (by as_aux_lemma => kernel_rfl)) (by as_aux_lemma => kernel_rfl)) (by as_aux_lemma => kernel_rfl)) (by as_aux_lemma => kernel_rfl)) (by as_aux_lemma => kernel_rfl)) (by as_aux_lemma => kernel_rfl)) (by as_aux_lemma => kernel_rfl)) (by as_aux_lemma => kernel_rfl)) (by as_aux_lemma => kernel_rfl)) (by as_aux_lemma => kernel_rfl)) (by as_aux_lemma => kernel_rfl)) (by as_aux_lemma => kernel_rfl)) f_keys) (by as_aux_lemma => kernel_rfl)) f_heard) f_enter) f_lift) f_make) (by as_aux_lemma => kernel_rfl)) (by as_aux_lemma => kernel_rfl)) (by as_aux_lemma => kernel_rfl)) (by as_aux_lemma => kernel_rfl)
theorem leaseOne_named : Tryz.pinned.checked.prog.funcNamed Rows.leaseOneRow.func = some 4 := by kernel_rfl
theorem leaseOne_inst : decide (Tryz.f4.isInstance Tryz.pinned.checked.prog Rows.leaseOneRow.origin Rows.leaseOneRow.targs) = true := by kernel_rfl
theorem leaseOne_holds : Rows.LeaseOneSaid :=
  OpenClaim.holds_of_wide 4 Tryz.f4 rfl rfl rfl rfl rfl rfl rfl ⟨rfl, rfl, rfl, rfl, rfl⟩ rfl rfl rfl rfl rfl leaseOne_named Tryz.func4 leaseOne_closed
    (of_decide_eq_true leaseOne_inst) (by unfold Func.isWrapper; rw [if_neg (of_decide_eq_false (by kernel_rfl))]; exact ⟨rfl, rfl⟩)
    (fun os started H enc _ => leaseOne_lifted os started H enc)
end Go.Proofs.YtjnbdhgkoolhnaaGreat
