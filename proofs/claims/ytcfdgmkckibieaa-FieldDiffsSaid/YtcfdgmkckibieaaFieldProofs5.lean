/- FieldDiffs, FieldBack: whatever the arguments: the law returns true, and its arguments read as they did. No condition. -/
import Derived.Test.YtcfdgmkckibieaaRows
import Derived.Test.YtcfdgmkckibieaaDiffW
import Derived.Test.YtcfdgmkckibieaaBackW
import Derived.Test.YtcfdgmkckibieaaOpen
namespace Go.Proofs.Ytcfdgmkckibieaa
open Go.ChangeShapes Go.WideShapes Go.ChangeAt Go.RowKit Go.Joins

theorem Try.own : ownKnob Try.prog.godebug = none := by kernel_rfl
theorem Try.laidOut : laidOutB Try.prog = true := by kernel_rfl

set_option maxRecDepth 100000 in
theorem fieldDiffs_lifted (os : Os) (started : os.Started) (H : Type) (enc : TypeId × Value → H) :
    ReturnsInHanded {} Try.checked os 10 .any (Rows.fieldDiffsSpec.pre6 enc Try.prog Try.f10 Rows.fieldDiffsRow.domain false) (Rows.fieldDiffsSpec.post enc Try.prog Try.f10 false true false false) := by
  refine returnsInHanded_of_change (C := Try.checked) Try.own started (by kernel_rfl) Try.func10
    (ChangeSpec.witness6 (enc := enc) (C := Try.checked) false ⟨#[], #[.string ⟨#[]⟩, .string ⟨#[]⟩], []⟩ 8 (by kernel_rfl) (by kernel_rfl) (by kernel_rfl) (by kernel_rfl)) ?_
  intro W base args ds gs before hval0 hW hcnd _
  have hval : ∀ (j : Nat) t v, Try.f10.params[j]? = some t → args[j]? = some v → Value.okWide Try.prog W .any base t v := hval0
  have hW' := hW
  obtain ⟨p, q, hA0, hV, rfl, hfz, hnd⟩ := hW
  have hA : DataW.TrodAll enc Try.prog W 0 (fun _ => true) true Try.f10.params.toList args.toList ds p := hA0
  rw [Try.params10] at hA hval
  obtain ⟨v0, v1, d0, d1, p0, p1, rfl, rfl, hpp, h0, h1⟩ := trodAll_two hA
  obtain ⟨rfl, rfl⟩ := trodVars_none hV
  obtain ⟨x, rfl, _, _, wx⟩ := Go.ChangeMaps.open_string Try.underlying9 (hval 0 9 v0 rfl rfl) h0
  obtain ⟨y, rfl, _, _, wy⟩ := Go.ChangeMaps.open_string Try.underlying9 (hval 1 9 v1 rfl rfl) h1
  refine (Cw.fieldDiffs_true x y wx wy W).mono fun e W' ⟨he, hb⟩ => ⟨.bool true, he, ?_⟩
  exact Cw.post_law Try.laidOut rfl Try.underlying4 rfl (by kernel_rfl) hW' rfl hb
theorem fieldDiffs_holds : Rows.FieldDiffsSaid :=
  OpenClaim.holds_of_wide 10 Try.f10 rfl rfl rfl rfl rfl rfl rfl ⟨rfl, rfl, rfl, rfl, rfl⟩ rfl rfl rfl rfl rfl (by kernel_rfl) Try.func10 (by kernel_rfl)
    (of_decide_eq_true (by kernel_rfl)) (by unfold Func.isWrapper; rw [if_neg (of_decide_eq_false (by kernel_rfl))]; exact ⟨rfl, rfl⟩)
    (fun os started H enc _ => fieldDiffs_lifted os started H enc)

set_option maxRecDepth 100000 in
theorem fieldBack_lifted (os : Os) (started : os.Started) (H : Type) (enc : TypeId × Value → H) :
    ReturnsInHanded {} Try.checked os 11 .any (Rows.fieldBackSpec.pre6 enc Try.prog Try.f11 Rows.fieldBackRow.domain false) (Rows.fieldBackSpec.post enc Try.prog Try.f11 false true false false) := by
  refine returnsInHanded_of_change (C := Try.checked) Try.own started (by kernel_rfl) Try.func11
    (ChangeSpec.witness6 (enc := enc) (C := Try.checked) false ⟨#[], #[.string ⟨#[]⟩, .agg #[.int .i64 0, .int .i64 0, .int .i64 0, .int .i64 0], .int .i64 0], []⟩ 8 (by kernel_rfl) (by kernel_rfl) (by kernel_rfl) (by kernel_rfl)) ?_
  intro W base args ds gs before hval0 hW hcnd _
  have hval : ∀ (j : Nat) t v, Try.f11.params[j]? = some t → args[j]? = some v → Value.okWide Try.prog W .any base t v := hval0
  have hW' := hW
  obtain ⟨p, q, hA0, hV, rfl, hfz, hnd⟩ := hW
  have hA : DataW.TrodAll enc Try.prog W 0 (fun _ => true) true Try.f11.params.toList args.toList ds p := hA0
  rw [Try.params11] at hA hval
  obtain ⟨v0, v1, v2, d0, d1, d2, p0, p1, p2, rfl, rfl, hpp, h0, h1, h2⟩ := trodAll_three hA
  obtain ⟨rfl, rfl⟩ := trodVars_none hV
  obtain ⟨x, rfl, _, _, wx⟩ := Go.ChangeMaps.open_string Try.underlying9 (hval 0 9 v0 rfl rfl) h0
  obtain ⟨cs1, rfl, hk1⟩ := Cw.open_flat 4 (t := 54) (ks := [0, 0, 0, 0]) (by kernel_rfl) (by first | exact Or.inl ⟨_, Try.underlying54⟩ | exact Or.inr ⟨_, _, Try.underlying54⟩) (hval 1 54 v1 rfl rfl) h1
  obtain ⟨_, _, rfl, ⟨xo, rfl, _⟩, _, _, rfl, ⟨xb, rfl, _⟩, _, _, rfl, ⟨yo, rfl, _⟩, _, _, rfl, ⟨yb, rfl, _⟩, hk⟩ := hk1
  have hk' : _ = [] := hk
  subst hk'
  obtain ⟨n, rfl, _, _, wn⟩ := open_int Try.underlying3 (hval 2 3 v2 rfl rfl) h2
  refine (Cw.fieldBack_true x xo xb yo yb n wx W).mono fun e W' ⟨he, hb⟩ => ⟨.bool true, he, ?_⟩
  exact Cw.post_law Try.laidOut rfl Try.underlying4 rfl (by kernel_rfl) hW' rfl hb
theorem fieldBack_holds : Rows.FieldBackSaid :=
  OpenClaim.holds_of_wide 11 Try.f11 rfl rfl rfl rfl rfl rfl rfl ⟨rfl, rfl, rfl, rfl, rfl⟩ rfl rfl rfl rfl rfl (by kernel_rfl) Try.func11 (by kernel_rfl)
    (of_decide_eq_true (by kernel_rfl)) (by unfold Func.isWrapper; rw [if_neg (of_decide_eq_false (by kernel_rfl))]; exact ⟨rfl, rfl⟩)
    (fun os started H enc _ => fieldBack_lifted os started H enc)

end Go.Proofs.Ytcfdgmkckibieaa
