/- The walk by reckoning, for this program: a step, calls of functions that only read, slices of patches. -/
import Derived.Test.YtjnbdhgkoolhnaaGreatVcFld
import Derived.Test.YtjnbdhgkoolhnaaGreatInoSpec
import Derived.Test.YtjnbdhgkoolhnaaGreatGeomW
import Derived.Test.YtjnbdhgkoolhnaaGreatWireW
namespace Cw
open Go Vc
open Go.Proofs
def geoT (a b c : Int) : TV := .agg [iT a, iT b, iT c]
theorem check0 (a b c : Int) : Fn0 Tryz.prog 53 [geoT a b c] (.t (.c (iT (gcheck a b c)))) := ⟨fun w => check_any a b c w⟩
end Cw
namespace Cw
open Go Vc
open Go.Proofs
set_option maxRecDepth 100000
theorem text0 (n x : Nat) (hn : n ≤ 8) (hx : x < 9223372036854775808) : Fn0 Tryz.prog 79 [.c (iT x), .c (iT n)] (.t (.c (.s (S (le n x))))) := ⟨fun w => text_any n x hn hx w⟩
theorem num0 (s : ByteArray) (o n : Nat) (hn : n ≤ 7) (h : o + n ≤ s.size) (hs : s.size ≤ 9223372036854775807) : Fn0 Tryz.prog 103 [.c (.s s), .c (iT o), .c (iT n)] (.t (.c (iT (numAt s o n : Nat)))) :=
  ⟨fun w => (num_any s o n hn h hs w).mono fun e w' ⟨h, hw⟩ => ⟨h, hw ▸ RowKit.Below.refl _ _⟩⟩
theorem byteAt_num (s : ByteArray) (o : Nat) (h : o < s.size) : byteAt s o = (numAt s o 1 : Nat) := by
  rw [num1 s o h, byteAt, getElem?_pos s o h]
  rfl
theorem sz2 (x y : UInt8) : (⟨#[x, y]⟩ : ByteArray).size = 2 := rfl
theorem sz1 (x : UInt8) : (⟨#[x]⟩ : ByteArray).size = 1 := rfl
theorem getn_num {s : ByteArray} (hs : s.size = 64) (o n : Nat) (hn : n = 1 ∨ n = 2 ∨ n = 4) (ho : o + n ≤ 64) : getn s (o : Int) (n : Int) = numAt s o n := by
  have h1 : gete (s.size : Nat) (o : Int) (n : Int) = 0 := by
    rw [hs, gete, if_neg (by simp), if_pos]
    refine ⟨?_, ?_⟩
    · simp only [fwide, decide_eq_true_eq]; omega
    · simp only [finside, decide_eq_true_eq]; omega
  rw [getn, if_pos h1]
  rfl
end Cw
