/- The disk's writes that wait: their numbers, sorted. -/
import Derived.Test.YtbbcnkoodmafdaaMapK
namespace Cw
open Go Vc
open Go.Proofs
set_option maxRecDepth 100000
def keysRD : Go.Shelf.Ren := ⟨fun | 6 => 27 | 7 => 28 | 8 => 35 | 9 => 36 | 10 => 37 | 11 => 47 | n => n, fun | 3 => 65 | 4 => 4 | 23 => 54 | 24 => 45 | 26 => 3 | 27 => 67 | 28 => 68 | 33 => 73 | n => n, fun n => n⟩
theorem keysL6D : Go.Proofs.SlLaysZI.n6 Try.prog keysRD := {
mixed := by kernel_rfl
f6 := ⟨Try.f27.name, by decide, Try.func27.trans (congrArg some (by kernel_rfl))⟩
f8 := ⟨Try.f35.name, by decide, Try.func35.trans (congrArg some (by kernel_rfl))⟩
f11 := ⟨Try.f47.name, by decide, Try.func47.trans (congrArg some (by kernel_rfl))⟩
t0 := Try.underlying0
a0 := Try.isAgg0
z0 := Try.sizeOf0
v0 := Try.zeroValue0
t24 := Try.underlying45
a24 := Try.isAgg45
z24 := Try.sizeOf45
v24 := Try.zeroValue45
t26 := Try.underlying3
a26 := Try.isAgg3
z26 := Try.sizeOf3
v26 := Try.zeroValue3
t28 := Try.underlying68
a28 := Try.isAgg68
z28 := Try.sizeOf68
v28 := Try.zeroValue68
i26 := by kernel_rfl }
theorem keysL7D : Go.Proofs.SlLaysZI.n7 Try.prog keysRD := {
mixed := by kernel_rfl
f7 := ⟨Try.f28.name, by decide, Try.func28.trans (congrArg some (by kernel_rfl))⟩
f10 := ⟨Try.f37.name, by decide, Try.func37.trans (congrArg some (by kernel_rfl))⟩
t0 := Try.underlying0
a0 := Try.isAgg0
z0 := Try.sizeOf0
v0 := Try.zeroValue0
t4 := Try.underlying4
a4 := Try.isAgg4
z4 := Try.sizeOf4
v4 := Try.zeroValue4
t23 := Try.underlying54
a23 := Try.isAgg54
z23 := Try.sizeOf54
v23 := Try.zeroValue54
t26 := Try.underlying3
a26 := Try.isAgg3
z26 := Try.sizeOf3
v26 := Try.zeroValue3
t27 := Try.underlying67
a27 := Try.isAgg67
z27 := Try.sizeOf67
v27 := Try.zeroValue67
t28 := Try.underlying68
a28 := Try.isAgg68
z28 := Try.sizeOf68
v28 := Try.zeroValue68
t33 := Try.underlying73
a33 := Try.isAgg73
z33 := Try.sizeOf73
v33 := Try.zeroValue73 }
theorem sortsD (m : Nat) : Go.Proofs.AnyZI.SortsIn Try.prog keysRD Fence.wide m :=
  ⟨fun blk off cap ss W hH hblk hsz => callsIn_wide.2 (Try.slices_Sort_int blk off cap ss W hH hblk hsz), fun p cap W => callsIn_wide.2 (Try.slices_Sort_int_none p cap W)⟩
theorem keysD {H : HL} {nx k : Nat} : FnH Try.prog 28 [.c (.mp k)] H nx ⟨.t (.c (.fn (.func 37) [(nx, 0)])), [(true, .cells [.mp k] 54)], [], []⟩ := keys_of rfl rfl rfl keysL7D
theorem sortedD {H : HL} {nx q k : Nat} {b1 b2 : Bool} {T : TypeId} {m : List (Int × Value)} (hq : lookH H q = some (b1, .cells [.mp k] T)) (hm : lookH H k = some (b2, .mp m)) (hz : m.length ≤ 1000000) :
    FnH Try.prog 27 [.c (.fn (.func 37) [(q, 0)])] H nx ⟨.t (.c (.nm nx)), [(true, .own 3 1 m.length (ivs (srtI (m.map Prod.fst))))], [], []⟩ :=
  sorted_of rfl rfl rfl keysL6D keysL7D sortsD (enters_of Try.func36 (by kernel_rfl) rfl) (enters_of Try.func37 (by kernel_rfl) rfl) hq hm hz
end Cw
