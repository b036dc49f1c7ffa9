/- FieldTurns: whatever the arguments: the law returns true, and its arguments read as they did. No condition. -/
import Derived.Test.YtcfdgmkckibieaaRows
import Derived.Test.YtcfdgmkckibieaaTurnW
import Derived.Test.YtcfdgmkckibieaaLaw
namespace Go.Proofs.Ytcfdgmkckibieaa
open Go.ChangeShapes Go.WideShapes Go.ChangeAt Go.RowKit Go.Joins

theorem Try.own : ownKnob Try.prog.godebug = none := by kernel_rfl
theorem Try.laidOut : laidOutB Try.prog = true := by kernel_rfl

set_option maxRecDepth 100000 in
theorem fieldTurns_lifted (os : Os) (started : os.Started) (H : Type) (enc : TypeId × Value → H) :
    ReturnsInHanded {} Try.checked os 9 .any (Rows.fieldTurnsSpec.pre6 enc Try.prog Try.f9 Rows.fieldTurnsRow.domain false) (Rows.fieldTurnsSpec.post enc Try.prog Try.f9 false true false false) := by
  refine returnsInHanded_of_change (C := Try.checked) Try.own started (by kernel_rfl) Try.func9
    (ChangeSpec.witness6 (enc := enc) (C := Try.checked) false ⟨#[], #[.string ⟨#[]⟩, .agg #[.int .i64 0, .string ⟨#[]⟩], .agg #[.int .i64 0, .string ⟨#[]⟩]], []⟩ 8 (by kernel_rfl) (by kernel_rfl) (by kernel_rfl) (by kernel_rfl)) ?_
  intro W base args ds gs before hval0 hW hcnd _
  have hval : ∀ (j : Nat) t v, Try.f9.params[j]? = some t → args[j]? = some v → Value.okWide Try.prog W .any base t v := hval0
  have hW' := hW
  obtain ⟨p, q, hA0, hV, rfl, hfz, hnd⟩ := hW
  have hA : DataW.TrodAll enc Try.prog W 0 (fun _ => true) true Try.f9.params.toList args.toList ds p := hA0
  rw [Try.params9] at hA hval
  obtain ⟨v0, v1, v2, d0, d1, d2, p0, p1, p2, rfl, rfl, hpp, h0, h1, h2⟩ := trodAll_three hA
  obtain ⟨rfl, rfl⟩ := trodVars_none hV
  obtain ⟨s, rfl, _, _, ws⟩ := Go.ChangeMaps.open_string Try.underlying9 (hval 0 9 v0 rfl rfl) h0
  obtain ⟨o, x, rfl, wo, wx⟩ := Cw.open_pair Try.underlying25 (by kernel_rfl) (by kernel_rfl) Try.underlying3 Try.underlying9 rfl rfl (hval 1 25 v1 rfl rfl) h1
  obtain ⟨r, y, rfl, wr, wy⟩ := Cw.open_pair Try.underlying25 (by kernel_rfl) (by kernel_rfl) Try.underlying3 Try.underlying9 rfl rfl (hval 2 25 v2 rfl rfl) h2
  refine (Cw.fieldTurns_ok s (o, x) (r, y) ws wx wy W).mono fun e W' ⟨he, hb⟩ => ⟨.bool true, he, ?_⟩
  exact Cw.post_law Try.laidOut rfl Try.underlying4 rfl (by kernel_rfl) hW' rfl hb
theorem fieldTurns_holds : Rows.FieldTurnsSaid :=
  OpenClaim.holds_of_wide 9 Try.f9 rfl rfl rfl rfl rfl rfl rfl ⟨rfl, rfl, rfl, rfl, rfl⟩ rfl rfl rfl rfl rfl (by kernel_rfl) Try.func9 (by kernel_rfl)
    (of_decide_eq_true (by kernel_rfl)) (by unfold Func.isWrapper; rw [if_neg (of_decide_eq_false (by kernel_rfl))]; exact ⟨rfl, rfl⟩)
    (fun os started H enc _ => fieldTurns_lifted os started H enc)
end Go.Proofs.Ytcfdgmkckibieaa
