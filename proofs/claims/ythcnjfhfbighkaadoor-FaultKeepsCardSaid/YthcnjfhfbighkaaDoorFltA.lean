/- errors.As, errors.Is and (*api.Fail).Unwrap: what they answer of a chain of errors. -/
import Derived.Test.YthcnjfhfbighkaaDoorProg
import Derived.Test.YthcnjfhfbighkaaDoorBase
import Derived.WalkKit
import Derived.LaidEql
import Derived.Stop.Asserts
import Derived.RowKitTokens
namespace Cw
open Go Go.Proofs Go.RowKit Go.Extern.Stop Go.Stop Go.Extern
set_option maxRecDepth 100000
section
variable {P : Program} (w : World)
theorem eqIn_ifc_int (d : Nat) {ti tn : TypeId} {ms : Array (String × TypeId)} {i : TypeInfo} {k : IntKind} (a b : Int)
    (hi : P.underlying ti = some (.interface ms)) (hn : P.underlying tn = some (.int k)) (hinfo : P.info? tn = some i) (hcomp : i.comparable = true) :
    (Op.equalIn (d + 2) ti (.iface tn (.int k a)) (.iface tn (.int k b))).run P w = .ok (a == b) w := by
  simp [Op.equalIn, run_underlying hi, run_underlying hn, typeInfo, hinfo, hcomp]
theorem eq_ifc_int {ti tn : TypeId} {ms : Array (String × TypeId)} {i : TypeInfo} {k : IntKind} (a b : Int)
    (hi : P.underlying ti = some (.interface ms)) (hn : P.underlying tn = some (.int k)) (hinfo : P.info? tn = some i) (hcomp : i.comparable = true) :
    (binOp .eql ti (.iface tn (.int k a)) (.iface tn (.int k b))).run P w = .ok (.bool (a == b)) w := by
  simp only [binOp]
  simp [Op.equal, Op.maxDepth, eqIn_ifc_int w 9998 a b hi hn hinfo hcomp]
end
/-- An error's value: its number, or the outermost step. -/
def evV (c : Int) : List (Nat × ByteArray × Int) → Value
  | [] => if c = 0 then .nilIface else .iface 22 (.int .i64 c)
  | x :: _ => .iface 51 (.pointer (some ⟨x.1, 0, none⟩))
/-- The steps stand in memory. -/
def chainOk (w : World) (c : Int) : List (Nat × ByteArray × Int) → Prop
  | [] => True
  | x :: l => w.heap[x.1]? = some (.cells #[.string x.2.1, .int .i64 x.2.2, evV c l] 53 (0, 0)) ∧ chainOk w c l
theorem chainOk.keep {w w' : World} {c : Int} : ∀ {l : List (Nat × ByteArray × Int)}, chainOk w c l → (∀ x ∈ l, w'.heap[x.1]? = w.heap[x.1]?) → chainOk w' c l
  | [], _, _ => trivial
  | x :: l, h, hk => ⟨(hk x (by simp)).trans h.1, chainOk.keep h.2 fun y hy => hk y (by simp [hy])⟩
theorem chainOk.lt {w : World} {c : Int} : ∀ {l : List (Nat × ByteArray × Int)}, chainOk w c l → ∀ x ∈ l, x.1 < w.heap.size
  | y :: l, h, x, hx => by
    rcases List.mem_cons.1 hx with rfl | hx
    · rcases Nat.lt_or_ge x.1 w.heap.size with h1 | h1
      · exact h1
      · have := h.1
        rw [Array.getElem?_eq_none h1] at this
        cases this
    · exact chainOk.lt h.2 x hx
theorem chainOk.below {w w' : World} {c : Int} {l : List (Nat × ByteArray × Int)} (h : chainOk w c l) (hb : Below w.heap.size w w') : chainOk w' c l := h.keep fun x hx => hb.block _ (h.lt x hx)
theorem chainOk.drop {w : World} {c : Int} : ∀ {l : List (Nat × ByteArray × Int)} (j : Nat), chainOk w c l → chainOk w c (l.drop j)
  | l, 0, h => h
  | [], j + 1, h => trivial
  | x :: l, j + 1, h => chainOk.drop j h.2
/-! ### What the model's entries for reflectlite give at this program's types -/
theorem fr_valueOfPC (t : Addr) (w : World) : (ReflectliteValue.unpack (.iface 57 (.pointer (some t)))).run Tryd.prog w = .ok (.agg #[.pointer (some ⟨1, 57, none⟩), .pointer (some ⟨w.heap.size, 0, none⟩), .int .u64 150]) (w.alloc (.cells #[.pointer (some t)] 57)) := by kernel_rfl
theorem fr_valueOfPF (t : Addr) (w : World) : (ReflectliteValue.unpack (.iface 56 (.pointer (some t)))).run Tryd.prog w = .ok (.agg #[.pointer (some ⟨1, 56, none⟩), .pointer (some ⟨w.heap.size, 0, none⟩), .int .u64 150]) (w.alloc (.cells #[.pointer (some t)] 56)) := by kernel_rfl
theorem fr_valueOfF (t : Addr) (w : World) : (ReflectliteValue.unpack (.iface 51 (.pointer (some t)))).run Tryd.prog w = .ok (.agg #[.pointer (some ⟨1, 51, none⟩), .pointer (some ⟨w.heap.size, 0, none⟩), .int .u64 150]) (w.alloc (.cells #[.pointer (some t)] 51)) := by kernel_rfl
theorem fr_valueOfC (c : Int) (w : World) : (ReflectliteValue.unpack (.iface 22 (.int .i64 c))).run Tryd.prog w = .ok (.agg #[.pointer (some ⟨1, 22, none⟩), .pointer (some ⟨w.heap.size, 0, none⟩), .int .u64 130]) (w.alloc (.cells #[.int .i64 c] 22)) := by kernel_rfl
theorem fr_typePC (a : Addr) (w : World) : (ReflectliteValue.methodAny (ReflectliteValue.valueError "reflectlite.Value.Type" 0) (fun t _ _ _ => ReflectliteType.toType t) #[.agg #[.pointer (some ⟨1, 57, none⟩), .pointer (some a), .int .u64 150]]).run Tryd.prog w = .ok (.iface 73 (.agg #[.pointer (some ⟨1, 57, none⟩)])) w := by kernel_rfl
theorem fr_typePF (a : Addr) (w : World) : (ReflectliteValue.methodAny (ReflectliteValue.valueError "reflectlite.Value.Type" 0) (fun t _ _ _ => ReflectliteType.toType t) #[.agg #[.pointer (some ⟨1, 56, none⟩), .pointer (some a), .int .u64 150]]).run Tryd.prog w = .ok (.iface 73 (.agg #[.pointer (some ⟨1, 56, none⟩)])) w := by kernel_rfl
theorem fr_mKind (h : Value) (w : World) : (Go.method 218 73 (.agg #[h]) "Kind").run Tryd.prog w = .ok (43, h) w := by kernel_rfl
theorem fr_mElem (h : Value) (w : World) : (Go.method 218 73 (.agg #[h]) "Elem").run Tryd.prog w = .ok (55, .agg #[h]) w := by kernel_rfl
theorem fr_mImplements (h : Value) (w : World) : (Go.method 218 73 (.agg #[h]) "Implements").run Tryd.prog w = .ok (56, .agg #[h]) w := by kernel_rfl
theorem fr_mAssignableTo (h : Value) (w : World) : (Go.method 218 73 (.agg #[h]) "AssignableTo").run Tryd.prog w = .ok (53, .agg #[h]) w := by kernel_rfl
theorem fr_mComparable (h : Value) (w : World) : (Go.method 218 73 (.agg #[h]) "Comparable").run Tryd.prog w = .ok (54, .agg #[h]) w := by kernel_rfl
theorem fr_mUnwrap (v : Value) (w : World) : (Go.method 218 51 v "Unwrap").run Tryd.prog w = .ok (48, v) w := by kernel_rfl
theorem fr_kindPC (w : World) : ((ReflectliteType.abiMethod fun t => (fun a : Nat => Value.int IntKind.u8 (a : Int)) <$> Rtype.kind t) #[.pointer (some ⟨1, 57, none⟩)]).run Tryd.prog w = .ok (.int .u8 22) w := by kernel_rfl
theorem fr_kindPF (w : World) : ((ReflectliteType.abiMethod fun t => (fun a : Nat => Value.int IntKind.u8 (a : Int)) <$> Rtype.kind t) #[.pointer (some ⟨1, 56, none⟩)]).run Tryd.prog w = .ok (.int .u8 22) w := by kernel_rfl
theorem fr_kindC (w : World) : ((ReflectliteType.abiMethod fun t => (fun a : Nat => Value.int IntKind.u8 (a : Int)) <$> Rtype.kind t) #[.pointer (some ⟨1, 22, none⟩)]).run Tryd.prog w = .ok (.int .u8 2) w := by kernel_rfl
theorem fr_kindF (w : World) : ((ReflectliteType.abiMethod fun t => (fun a : Nat => Value.int IntKind.u8 (a : Int)) <$> Rtype.kind t) #[.pointer (some ⟨1, 51, none⟩)]).run Tryd.prog w = .ok (.int .u8 22) w := by kernel_rfl
theorem fr_elemPC (w : World) : (ReflectliteType.method ReflectliteType.elem #[.agg #[.pointer (some ⟨1, 57, none⟩)]]).run Tryd.prog w = .ok (.iface 73 (.agg #[.pointer (some ⟨1, 22, none⟩)])) w := by kernel_rfl
theorem fr_elemPF (w : World) : (ReflectliteType.method ReflectliteType.elem #[.agg #[.pointer (some ⟨1, 56, none⟩)]]).run Tryd.prog w = .ok (.iface 73 (.agg #[.pointer (some ⟨1, 51, none⟩)])) w := by kernel_rfl
theorem fr_implC (w : World) : (ReflectliteType.relation "Implements" ReflectliteType.implements_ #[.agg #[.pointer (some ⟨1, 22, none⟩)], .iface 73 (.agg #[.pointer (some ⟨1, 25, none⟩)])]).run Tryd.prog w = .ok (.bool true) w := by kernel_rfl
theorem fr_typeOfC (v : Value) (w : World) : (ReflectliteType.typeOf #[.iface 22 v]).run Tryd.prog w = .ok (.iface 73 (.agg #[.pointer (some ⟨1, 22, none⟩)])) w := by kernel_rfl
theorem fr_implF (w : World) : (ReflectliteType.relation "Implements" ReflectliteType.implements_ #[.agg #[.pointer (some ⟨1, 51, none⟩)], .iface 73 (.agg #[.pointer (some ⟨1, 25, none⟩)])]).run Tryd.prog w = .ok (.bool true) w := by kernel_rfl
theorem fr_typeOfF (v : Value) (w : World) : (ReflectliteType.typeOf #[.iface 51 v]).run Tryd.prog w = .ok (.iface 73 (.agg #[.pointer (some ⟨1, 51, none⟩)])) w := by kernel_rfl
theorem fr_asgCC (w : World) : (ReflectliteType.relation "AssignableTo" ReflectliteType.assignableTo #[.agg #[.pointer (some ⟨1, 22, none⟩)], .iface 73 (.agg #[.pointer (some ⟨1, 22, none⟩)])]).run Tryd.prog w = .ok (.bool true) w := by kernel_rfl
theorem fr_asgCF (w : World) : (ReflectliteType.relation "AssignableTo" ReflectliteType.assignableTo #[.agg #[.pointer (some ⟨1, 22, none⟩)], .iface 73 (.agg #[.pointer (some ⟨1, 51, none⟩)])]).run Tryd.prog w = .ok (.bool false) w := by kernel_rfl
theorem fr_asgFC (w : World) : (ReflectliteType.relation "AssignableTo" ReflectliteType.assignableTo #[.agg #[.pointer (some ⟨1, 51, none⟩)], .iface 73 (.agg #[.pointer (some ⟨1, 22, none⟩)])]).run Tryd.prog w = .ok (.bool false) w := by kernel_rfl
theorem fr_asgFF (w : World) : (ReflectliteType.relation "AssignableTo" ReflectliteType.assignableTo #[.agg #[.pointer (some ⟨1, 51, none⟩)], .iface 73 (.agg #[.pointer (some ⟨1, 51, none⟩)])]).run Tryd.prog w = .ok (.bool true) w := by kernel_rfl
theorem fr_cmpC (w : World) : ((ReflectliteType.method fun t => do Rtype.noPackHeld "Comparable" t; pure (.bool (← typeInfo t).comparable)) #[.agg #[.pointer (some ⟨1, 22, none⟩)]]).run Tryd.prog w = .ok (.bool true) w := by kernel_rfl
/-! ### Entries that read or write memory -/
theorem frlm (z : Sem Value) (f : TypeId → Addr → Nat → Nat → Sem Value) (v : Value) :
    ReflectliteValue.method z f #[v] = (do match ← ReflectliteValue.parts v with | none => z | some (t, a, fl) => f t a fl (fl % 32)) := rfl
theorem frls (v x : Value) : ReflectliteValue.set #[v, x] = (do
    let (some (dst, a, fl), some (src, b, _)) := (← ReflectliteValue.parts v, ← ReflectliteValue.parts x)
      | unsupported (.noEntry "extern/(internal/reflectlite.Value).Set.zeroValue")
    if fl / ReflectliteValue.flagAddr % 2 == 0 then unsupported (.noEntry "extern/(internal/reflectlite.Value).Set.unaddressable")
    let val ← loadVar src b
    if ← Rtype.directlyAssignable dst src then storeVar dst a val
    else if ← Rtype.implements dst src then
      if (← Rtype.kind src) == 20 then
        match val with
        | .nilIface => unsupported (.noEntry "extern/reflectlite: a nil value of one interface type handed on as a value of another")
        | _ => storeVar dst a val
      else storeVar dst a (.iface src val)
    else panicString ("reflectlite.Set: value of type " ++ (← Rtype.spelt src) ++ " is not assignable to type " ++ (← Rtype.spelt dst))
    pure (.tuple #[])) := rfl
theorem fr_partsPC (a : Addr) (w : World) : (ReflectliteValue.parts (.agg #[.pointer (some ⟨1, 57, none⟩), .pointer (some a), .int .u64 150])).run Tryd.prog w = .ok (some (57, a, 150)) w := by kernel_rfl
theorem fr_isNilPC (a q : Addr) (W : World) (ha : W.cell? a = some (.pointer (some q))) :
    (ReflectliteValue.method (ReflectliteValue.valueError "reflectlite.Value.IsNil" 0) ReflectliteValue.isNil #[.agg #[.pointer (some ⟨1, 57, none⟩), .pointer (some a), .int .u64 150]]).run Tryd.prog W = .ok (.bool false) W := by
  rw [frlm]
  simp only [Sem.run_bind, fr_partsPC, Result.andThen]
  simp [ReflectliteValue.isNil, loadVar, isAgg, underlying, Tryd.underlying57, ha, Result.andThen]
theorem fr_elemOfPC (w : World) : (Rtype.elem? 57).run Tryd.prog w = .ok (some 22) w := by kernel_rfl
theorem fr_mkC (a : Addr) (w : World) : (ReflectliteValue.mk 22 a ReflectliteValue.flagAddr).run Tryd.prog w = .ok (.agg #[.pointer (some ⟨1, 22, none⟩), .pointer (some a), .int .u64 386]) w := by kernel_rfl
theorem fr_elemVPC (a q : Addr) (W : World) (ha : W.cell? a = some (.pointer (some q))) :
    (ReflectliteValue.method (ReflectliteValue.valueError "reflectlite.Value.Elem" 0) ReflectliteValue.elem #[.agg #[.pointer (some ⟨1, 57, none⟩), .pointer (some a), .int .u64 150]]).run Tryd.prog W
      = .ok (.agg #[.pointer (some ⟨1, 22, none⟩), .pointer (some q), .int .u64 386]) W := by
  rw [frlm]
  simp only [Sem.run_bind, fr_partsPC, Result.andThen]
  simp [ReflectliteValue.elem, loadVar, isAgg, underlying, Tryd.underlying57, ha, Result.andThen, fr_elemOfPC, fr_mkC]
theorem fr_partsCa (a : Addr) (w : World) : (ReflectliteValue.parts (.agg #[.pointer (some ⟨1, 22, none⟩), .pointer (some a), .int .u64 386])).run Tryd.prog w = .ok (some (22, a, 386)) w := by kernel_rfl
theorem fr_partsCb (a : Addr) (w : World) : (ReflectliteValue.parts (.agg #[.pointer (some ⟨1, 22, none⟩), .pointer (some a), .int .u64 130])).run Tryd.prog w = .ok (some (22, a, 130)) w := by kernel_rfl
theorem fr_directC (w : World) : (Rtype.directlyAssignable 22 22).run Tryd.prog w = .ok true w := by kernel_rfl
theorem fr_setC (ta b : Addr) (c : Int) (old : Value) (W : World) (hb : W.cell? b = some (.int .i64 c)) (ht : W.cell? ta = some old) (hf : W.frozen? ta = false) :
    (ReflectliteValue.set #[.agg #[.pointer (some ⟨1, 22, none⟩), .pointer (some ta), .int .u64 386], .agg #[.pointer (some ⟨1, 22, none⟩), .pointer (some b), .int .u64 130]]).run Tryd.prog W = .ok (.tuple #[]) (W.setCell ta (.int .i64 c)) := by
  rw [frls]
  simp only [Sem.run_bind, fr_partsCa, fr_partsCb, Result.andThen]
  simp [ReflectliteValue.flagAddr, loadVar, isAgg, underlying, Tryd.underlying22, hb, Result.andThen, fr_directC, storeVar, Value.cells, storeCells, Addr.add]
  rw [run_store Tryd.prog W ta _ _ (by rfl)]
  simp [ht, hf]
theorem fr_partsPF (a : Addr) (w : World) : (ReflectliteValue.parts (.agg #[.pointer (some ⟨1, 56, none⟩), .pointer (some a), .int .u64 150])).run Tryd.prog w = .ok (some (56, a, 150)) w := by kernel_rfl
theorem fr_isNilPF (a q : Addr) (W : World) (ha : W.cell? a = some (.pointer (some q))) :
    (ReflectliteValue.method (ReflectliteValue.valueError "reflectlite.Value.IsNil" 0) ReflectliteValue.isNil #[.agg #[.pointer (some ⟨1, 56, none⟩), .pointer (some a), .int .u64 150]]).run Tryd.prog W = .ok (.bool false) W := by
  rw [frlm]
  simp only [Sem.run_bind, fr_partsPF, Result.andThen]
  simp [ReflectliteValue.isNil, loadVar, isAgg, underlying, Tryd.underlying56, ha, Result.andThen]
theorem fr_elemOfPF (w : World) : (Rtype.elem? 56).run Tryd.prog w = .ok (some 51) w := by kernel_rfl
theorem fr_mkF (a : Addr) (w : World) : (ReflectliteValue.mk 51 a ReflectliteValue.flagAddr).run Tryd.prog w = .ok (.agg #[.pointer (some ⟨1, 51, none⟩), .pointer (some a), .int .u64 406]) w := by kernel_rfl
theorem fr_elemVPF (a q : Addr) (W : World) (ha : W.cell? a = some (.pointer (some q))) :
    (ReflectliteValue.method (ReflectliteValue.valueError "reflectlite.Value.Elem" 0) ReflectliteValue.elem #[.agg #[.pointer (some ⟨1, 56, none⟩), .pointer (some a), .int .u64 150]]).run Tryd.prog W
      = .ok (.agg #[.pointer (some ⟨1, 51, none⟩), .pointer (some q), .int .u64 406]) W := by
  rw [frlm]
  simp only [Sem.run_bind, fr_partsPF, Result.andThen]
  simp [ReflectliteValue.elem, loadVar, isAgg, underlying, Tryd.underlying56, ha, Result.andThen, fr_elemOfPF, fr_mkF]
theorem fr_partsFa (a : Addr) (w : World) : (ReflectliteValue.parts (.agg #[.pointer (some ⟨1, 51, none⟩), .pointer (some a), .int .u64 406])).run Tryd.prog w = .ok (some (51, a, 406)) w := by kernel_rfl
theorem fr_partsFb (a : Addr) (w : World) : (ReflectliteValue.parts (.agg #[.pointer (some ⟨1, 51, none⟩), .pointer (some a), .int .u64 150])).run Tryd.prog w = .ok (some (51, a, 150)) w := by kernel_rfl
theorem fr_directF (w : World) : (Rtype.directlyAssignable 51 51).run Tryd.prog w = .ok true w := by kernel_rfl
theorem fr_setF (ta b : Addr) (q : Addr) (old : Value) (W : World) (hb : W.cell? b = some (.pointer (some q))) (ht : W.cell? ta = some old) (hf : W.frozen? ta = false) :
    (ReflectliteValue.set #[.agg #[.pointer (some ⟨1, 51, none⟩), .pointer (some ta), .int .u64 406], .agg #[.pointer (some ⟨1, 51, none⟩), .pointer (some b), .int .u64 150]]).run Tryd.prog W = .ok (.tuple #[]) (W.setCell ta (.pointer (some q))) := by
  rw [frls]
  simp only [Sem.run_bind, fr_partsFa, fr_partsFb, Result.andThen]
  simp [ReflectliteValue.flagAddr, loadVar, isAgg, underlying, Tryd.underlying51, hb, Result.andThen, fr_directF, storeVar, Value.cells, storeCells, Addr.add]
  rw [run_store Tryd.prog W ta _ _ (by rfl)]
  simp [ht, hf]
/-! ### Assertions -/
theorem fr_aAsC (v : Value) (xT : TypeId) (w : World) : (Instr.typeAssert (.iface 22 v) xT 85 true).run Tryd.prog w = .ok (.tuple #[.nilIface, .bool false]) w := run_typeAssert_lacksB Tryd.underlying85 (by kernel_rfl) (by kernel_rfl) v xT w
theorem fr_aAsF (v : Value) (xT : TypeId) (w : World) : (Instr.typeAssert (.iface 51 v) xT 85 true).run Tryd.prog w = .ok (.tuple #[.nilIface, .bool false]) w := run_typeAssert_lacksB Tryd.underlying85 (by kernel_rfl) (by kernel_rfl) v xT w
theorem fr_aIsC (v : Value) (xT : TypeId) (w : World) : (Instr.typeAssert (.iface 22 v) xT 75 true).run Tryd.prog w = .ok (.tuple #[.nilIface, .bool false]) w := run_typeAssert_lacksB Tryd.underlying75 (by kernel_rfl) (by kernel_rfl) v xT w
theorem fr_aIsF (v : Value) (xT : TypeId) (w : World) : (Instr.typeAssert (.iface 51 v) xT 75 true).run Tryd.prog w = .ok (.tuple #[.nilIface, .bool false]) w := run_typeAssert_lacksB Tryd.underlying75 (by kernel_rfl) (by kernel_rfl) v xT w
theorem fr_aUwC (v : Value) (xT : TypeId) (w : World) : (Instr.typeAssert (.iface 22 v) xT 78 true).run Tryd.prog w = .ok (.tuple #[.nilIface, .bool false]) w := run_typeAssert_lacksB Tryd.underlying78 (by kernel_rfl) (by kernel_rfl) v xT w
theorem fr_aUsC (v : Value) (xT : TypeId) (w : World) : (Instr.typeAssert (.iface 22 v) xT 80 true).run Tryd.prog w = .ok (.tuple #[.nilIface, .bool false]) w := run_typeAssert_lacksB Tryd.underlying80 (by kernel_rfl) (by kernel_rfl) v xT w
theorem fr_aUwF (v : Value) (xT : TypeId) (w : World) : (Instr.typeAssert (.iface 51 v) xT 78 true).run Tryd.prog w = .ok (.tuple #[.iface 51 v, .bool true]) w := run_typeAssert_hasB Tryd.underlying78 (by kernel_rfl) v xT w
end Cw
