/- TableWrites: whatever the arguments: the law returns true, and its arguments read as they did. No condition. -/
import Derived.Test.YtigaallhjlmhbaaRows
import Derived.Test.YtigaallhjlmhbaaTabW3
import Derived.Test.YtigaallhjlmhbaaOpen
import Derived.Test.YtigaallhjlmhbaaFactsB
import Derived.Test.YtigaallhjlmhbaaFactsC
import Derived.Test.YtigaallhjlmhbaaFactsD
namespace Go.Proofs.Ytigaallhjlmhbaa
open Go.ChangeShapes Go.WideShapes Go.ChangeAt Go.RowKit Go.Joins


theorem flat_leases : ∀ (L : List (List Value)), (∀ r ∈ L, Cw.AllK [0, 0] r) → ∃ M : List Cw.Ls, L.length = M.length ∧ L.flatten = Cw.lcells M
  | [], _ => ⟨[], rfl, rfl⟩
  | r :: L, h => by
    obtain ⟨M, h1, h2⟩ := flat_leases L fun r hr => h r (List.mem_cons.2 (Or.inr hr))
    obtain ⟨_, _, rfl, ⟨x, rfl, _⟩, _, _, rfl, ⟨y, rfl, _⟩, h3⟩ := h r (by simp)
    have h3' : _ = [] := h3
    subst h3'
    exact ⟨(x, y) :: M, by simp [h1], by simp [h2, Cw.lcells]⟩
theorem flat_texts : ∀ (L : List (List Value)), (∀ r ∈ L, Cw.AllK [1] r) → ∃ M : List ByteArray, L.length = M.length ∧ L.flatten = Cw.svs M ∧ ∀ s ∈ M, s.size ≤ maxLen
  | [], _ => ⟨[], rfl, rfl, by simp⟩
  | r :: L, h => by
    obtain ⟨M, h1, h2, h4⟩ := flat_texts L fun r hr => h r (List.mem_cons.2 (Or.inr hr))
    obtain ⟨_, _, rfl, ⟨x, rfl, hx⟩, h3⟩ := h r (by simp)
    have h3' : _ = [] := h3
    subst h3'
    exact ⟨x :: M, by simp [h1], by simp [h2, Cw.svs], by simp; exact ⟨hx, h4⟩⟩

set_option maxRecDepth 100000 in
theorem tableWrites_lifted (os : Os) (started : os.Started) (H : Type) (enc : TypeId × Value → H) :
    ReturnsInHanded {} Try.checked os 5 .any (Rows.tableWritesSpec.pre6 enc Try.prog Try.f5 Rows.tableWritesRow.domain false) (Rows.tableWritesSpec.post enc Try.prog Try.f5 false true false false) := by
  refine returnsInHanded_of_change_sized (C := Try.checked) Try.own started (by kernel_rfl) Try.func5
    (ChangeSpec.witness6 (enc := enc) (C := Try.checked) false ⟨#[], #[.agg #[.int .i64 0, .int .i64 0, .int .i64 0], .slice none 0 0, .int .i64 0], []⟩ 8 (by kernel_rfl) (by kernel_rfl) (by kernel_rfl) (by kernel_rfl)) ?_
  intro W base args ds gs before hval0 hW hcnd hsz0 _
  have hval : ∀ (j : Nat) t v, Try.f5.params[j]? = some t → args[j]? = some v → Value.okWide Try.prog W .any base t v := hval0
  have hsz : (DataW.weightsEach Try.prog (Try.f5.params.toList ++ Rows.tableWritesSpec.plain.varTypes Try.prog) (ds ++ gs)).all (· ≤ reachBytes) = true := hsz0
  have hW' := hW
  obtain ⟨p, q, hA0, hV, rfl, hfz, hnd⟩ := hW
  have hA : DataW.TrodAll enc Try.prog W 0 (fun _ => true) true Try.f5.params.toList args.toList ds p := hA0
  rw [Try.params5] at hA hval hsz
  obtain ⟨v0, v1, v2, d0, d1, d2, p0, p1, p2, rfl, rfl, hpp, h0, h1, h2⟩ := trodAll_three hA
  obtain ⟨rfl, rfl⟩ := trodVars_none hV
  obtain ⟨a, b, c, rfl, wa, wb, wc⟩ := Cw.open_three Try.underlying34 (by kernel_rfl) (by kernel_rfl) Try.underlying3 rfl rfl rfl (hval 0 34 v0 rfl rfl) h0
  obtain ⟨A1, c1, L1, rfl, hL1, hR1, hD1⟩ := Cw.open_rows 4 (ks := [0, 0]) Try.underlying35 (by kernel_rfl) (by kernel_rfl) (by decide) (Cw.okWide_slice Try.underlying35 (hval 1 35 v1 rfl rfl)) h1
  have hz1 := Cw.sized_rows hsz 1 (t := 35) (e := 49) (b := 16) rfl rfl Try.underlying35 (by kernel_rfl) hD1
  obtain ⟨rg, rfl, _, _, wrg⟩ := open_int Try.underlying3 (hval 2 3 v2 rfl rfl) h2
  obtain ⟨l, hl1, hl2⟩ := flat_leases L1 hL1
  rw [hl1, hl2] at hR1
  rw [hl1] at hz1
  rw [hl1] at hW' ⊢
  refine (Cw.tableWrites_true a b c rg l A1 c1 W hz1 hR1).mono fun e W' ⟨he, hb⟩ => ⟨.bool true, he, ?_⟩
  exact Cw.post_law Try.laidOut rfl Try.underlying4 rfl (by kernel_rfl) hW' rfl hb
set_option maxRecDepth 100000 in
set_option maxHeartbeats 8000000 in
theorem tableWrites_closed : joinedFacts Try.pinned.checked.prog 5 Try.f5 Rows.tableWritesSpec Rows.tableWritesRow = true := by
  unfold joinedFacts
  exact band (band (band (band (band (band (band (band (band (band (band (band (band (band (band (band (band (band (band (band (band (band (band (band (band (band (band (band (band (band (band (by as_aux_lemma => kernel_rfl) Try.laidOut) f_maps) (by as_aux_lemma => kernel_rfl)) (by as_aux_lemma => kernel_rfl)) (by as_aux_lemma => kernel_rfl)) (by as_aux_lemma => kernel_rfl)) (by as_aux_lemma => kernel_rfl)) (by as_aux_lemma => kernel_rfl)) (by as_aux_lemma => kernel_rfl)) (by as_aux_lemma => kernel_rfl)) (by as_aux_lemma => kernel_rfl)) (by as_aux_lemma => kernel_rfl)) (by as_aux_lemma => kernel_rfl)) (by as_aux_lemma => kernel_rfl)) (by as_aux_lemma => kernel_rfl)) (by as_aux_lemma => kernel_rfl)) (by as_aux_lemma => kernel_rfl)) (by as_aux_lemma => kernel_rfl)) (by as_aux_lemma => kernel_rfl)) (by as_aux_lemma => kernel_rfl)) (by as_aux_lemma => kernel_rfl)) f_keys) (by as_aux_lemma => kernel_rfl)) f_heard) f_enter) f_lift) f_make) (by as_aux_lemma => kernel_rfl)) (by as_aux_lemma => kernel_rfl)) (by as_aux_lemma => kernel_rfl)) (by as_aux_lemma => kernel_rfl)
theorem tableWrites_named : Try.pinned.checked.prog.funcNamed Rows.tableWritesRow.func = some 5 := by kernel_rfl
theorem tableWrites_inst : decide (Try.f5.isInstance Try.pinned.checked.prog Rows.tableWritesRow.origin Rows.tableWritesRow.targs) = true := by kernel_rfl
theorem tableWrites_holds : Rows.TableWritesSaid :=
  OpenClaim.holds_of_wide 5 Try.f5 rfl rfl rfl rfl rfl rfl rfl ⟨rfl, rfl, rfl, rfl, rfl⟩ rfl rfl rfl rfl rfl tableWrites_named Try.func5 tableWrites_closed
    (of_decide_eq_true tableWrites_inst) (by unfold Func.isWrapper; rw [if_neg (of_decide_eq_false (by kernel_rfl))]; exact ⟨rfl, rfl⟩)
    (fun os started H enc _ => tableWrites_lifted os started H enc)
end Go.Proofs.Ytigaallhjlmhbaa
