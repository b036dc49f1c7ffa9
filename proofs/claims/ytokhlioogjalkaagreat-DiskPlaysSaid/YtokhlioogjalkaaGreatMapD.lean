/- The disk's writes that wait: their numbers, sorted. -/
import Derived.Test.YtokhlioogjalkaaGreatMapK
namespace Cw
open Go Vc
open Go.Proofs
set_option maxRecDepth 100000
def keysRD : Go.Shelf.Ren := ⟨fun | 6 => 39 | 7 => 40 | 8 => 58 | 9 => 59 | 10 => 60 | 11 => 76 | n => n, fun | 3 => 69 | 4 => 4 | 23 => 56 | 24 => 44 | 26 => 3 | 27 => 74 | 28 => 75 | 33 => 84 | n => n, fun n => n⟩
theorem keysL6D : Go.Proofs.SlLaysZI.n6 Tryz.prog keysRD := {
mixed := by kernel_rfl
f6 := ⟨Tryz.f39.name, by decide, Tryz.func39.trans (congrArg some (by kernel_rfl))⟩
f8 := ⟨Tryz.f58.name, by decide, Tryz.func58.trans (congrArg some (by kernel_rfl))⟩
f11 := ⟨Tryz.f76.name, by decide, Tryz.func76.trans (congrArg some (by kernel_rfl))⟩
t0 := Tryz.underlying0
a0 := Tryz.isAgg0
z0 := Tryz.sizeOf0
v0 := Tryz.zeroValue0
t24 := Tryz.underlying44
a24 := Tryz.isAgg44
z24 := Tryz.sizeOf44
v24 := Tryz.zeroValue44
t26 := Tryz.underlying3
a26 := Tryz.isAgg3
z26 := Tryz.sizeOf3
v26 := Tryz.zeroValue3
t28 := Tryz.underlying75
a28 := Tryz.isAgg75
z28 := Tryz.sizeOf75
v28 := Tryz.zeroValue75
i26 := by kernel_rfl }
theorem keysL7D : Go.Proofs.SlLaysZI.n7 Tryz.prog keysRD := {
mixed := by kernel_rfl
f7 := ⟨Tryz.f40.name, by decide, Tryz.func40.trans (congrArg some (by kernel_rfl))⟩
f10 := ⟨Tryz.f60.name, by decide, Tryz.func60.trans (congrArg some (by kernel_rfl))⟩
t0 := Tryz.underlying0
a0 := Tryz.isAgg0
z0 := Tryz.sizeOf0
v0 := Tryz.zeroValue0
t4 := Tryz.underlying4
a4 := Tryz.isAgg4
z4 := Tryz.sizeOf4
v4 := Tryz.zeroValue4
t23 := Tryz.underlying56
a23 := Tryz.isAgg56
z23 := Tryz.sizeOf56
v23 := Tryz.zeroValue56
t26 := Tryz.underlying3
a26 := Tryz.isAgg3
z26 := Tryz.sizeOf3
v26 := Tryz.zeroValue3
t27 := Tryz.underlying74
a27 := Tryz.isAgg74
z27 := Tryz.sizeOf74
v27 := Tryz.zeroValue74
t28 := Tryz.underlying75
a28 := Tryz.isAgg75
z28 := Tryz.sizeOf75
v28 := Tryz.zeroValue75
t33 := Tryz.underlying84
a33 := Tryz.isAgg84
z33 := Tryz.sizeOf84
v33 := Tryz.zeroValue84 }
theorem sortsD (m : Nat) : Go.Proofs.AnyZI.SortsIn Tryz.prog keysRD Fence.wide m :=
  ⟨fun blk off cap ss W hH hblk hsz => callsIn_wide.2 (Tryz.slices_Sort_int blk off cap ss W hH hblk hsz), fun p cap W => callsIn_wide.2 (Tryz.slices_Sort_int_none p cap W)⟩
theorem keysD {H : HL} {nx k : Nat} : FnH Tryz.prog 40 [.c (.mp k)] H nx ⟨.t (.c (.fn (.func 60) [(nx, 0)])), [(true, .cells [.mp k] 56)], [], []⟩ := keys_of rfl rfl rfl keysL7D
theorem sortedD {H : HL} {nx q k : Nat} {b1 b2 : Bool} {T : TypeId} {m : List (Int × Value)} (hq : lookH H q = some (b1, .cells [.mp k] T)) (hm : lookH H k = some (b2, .mp m)) (hz : m.length ≤ 1000000) :
    FnH Tryz.prog 39 [.c (.fn (.func 60) [(q, 0)])] H nx ⟨.t (.c (.nm nx)), [(true, .own 3 1 m.length (ivs (srtI (m.map Prod.fst))))], [], []⟩ :=
  sorted_of rfl rfl rfl keysL6D keysL7D sortsD (enters_of Tryz.func59 (by kernel_rfl) rfl) (enters_of Tryz.func60 (by kernel_rfl) rfl) hq hm hz
end Cw
