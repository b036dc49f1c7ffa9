/- errors.Is walked at chains of errors of this program. -/
import Derived.Test.YthcnjfhfbighkaaDoorFltB
namespace Cw
open Go Go.Proofs Go.RowKit Go.Extern.Stop Go.Stop Go.Extern
set_option maxRecDepth 100000
theorem fr_cmpC2 (w : World) : ((ReflectliteType.method fun t => do Rtype.noPackHeld "Comparable" t; (fun a => Value.bool a.comparable) <$> typeInfo t) #[.agg #[.pointer (some ⟨1, 22, none⟩)]]).run Tryd.prog w = .ok (.bool true) w := by kernel_rfl
set_option maxRecDepth 100000 in
set_option maxHeartbeats 8000000 in
/-- errors.Is of a chain and a number. -/
theorem Is_any {c : Int} (hc : c ≠ 0) (d : Int) (l : List (Nat × ByteArray × Int)) (w : World) (hl : chainOk w c l) :
    Calls Tryd.prog 19 #[evV c l, .iface 22 (.int .i64 d)] w fun e w' => e = .returned (.bool (c == d)) ∧ Below w.heap.size w w' := by
  have h21 := @run_callFunc_extern Tryd.prog 21 _ ReflectliteType.typeOf Tryd.func21 (by kernel_rfl) (by kernel_rfl) (by kernel_rfl) (by kernel_rfl)
  have h54 := @run_callFunc_extern Tryd.prog 54 _ (ReflectliteType.method fun t => do Rtype.noPackHeld "Comparable" t; pure (.bool (← typeInfo t).comparable)) Tryd.func54 (by kernel_rfl) (by kernel_rfl) (by kernel_rfl) (by kernel_rfl)
  have tC := fr_typeOfC
  have cC := fr_cmpC2
  have mC := fr_mComparable
  obtain ⟨tt, vv, htv⟩ := evV_ifc hc l
  have ha := is_any hc d l w hl
  rw [htv] at ha ⊢
  have ha := Lib.hid ha
  clear htv hl
  generalize (c == d) = r at *
  go_enter Tryd.func19, Tryd.ntmps19
  go_wp2_with (go_at_call 22; refine ha.out.mono ?_; rintro e w3 ⟨rfl, hb⟩)
  go_ret
  exact ⟨rfl, hb⟩
end Cw
