/- The walks of the document's One, Patched. -/
import Derived.Test.YtigaallhjlmhbaaPatchW
namespace Cw
open Go Go.RowKit Go.IntWalk
open Go.Proofs

theorem one_eq (s : ByteArray) (o : Nat) (t : ByteArray) (hs : s.size = 64) (h : o + t.size ≤ 64) : s.extract 0 o ++ t ++ s.extract (o + t.size) 64 = S (one s.data.toList (o, t)) := by
  apply ByteArray.ext
  apply Array.toList_inj.1
  have e : t.data.toList.length = t.size := rfl
  have e2 : s.data.toList.length = 64 := hs
  simp only [ByteArray.data_append, ByteArray.data_extract, Array.toList_append, Array.toList_extract, one, over, S, Int.toNat_natCast, List.toList_toArray, e]
  rw [List.append_assoc]
  congr 2
  rw [List.extract_eq_take_drop, List.take_of_length_le (by rw [List.length_drop, e2]; exact Nat.le_refl _)]

theorem S_self (s : ByteArray) : S s.data.toList = s := by simp [S]

end Cw
