/- WireTurned answers true. -/
import Derived.Test.YtekgkkohiindkaaWireLaws
import Derived.StillTailTactics
namespace Cw
open Go Go.RowKit Go.IntWalk
open Go.Proofs

/-- Bytes of a block of the call's own, one of them stored anew. -/
theorem Row.set_ {w : World} {g : Nat} {l : List UInt8} (h : Row w g l) (i : Nat) (hi : i < l.length) (b : UInt8) : Row (w.setCell ⟨g, i, none⟩ (.int .u8 b.toNat)) g (l.set i b) := by
  obtain ⟨cur, t, fz, rest, hg, hc, hfz⟩ := h
  refine ⟨cur.setIfInBounds i (.int .u8 b.toNat), t, fz, rest, ?_, ?_, by simpa using hfz⟩
  · rw [setCell_eq_setRow w g i cur t fz _ hg]
    exact setRow_heap w g _ _ t fz hg
  · rw [Array.toList_setIfInBounds, hc, List.set_append_left _ _ (by rw [bcells_length]; exact hi)]
    congr 1
    simp [bcells, List.map_set]
theorem Row.free {w : World} {g : Nat} {l : List UInt8} (h : Row w g l) (i : Nat) (hi : i < l.length) : w.frozen? ⟨g, i, none⟩ = false := by
  obtain ⟨cur, t, ⟨lo, hi'⟩, rest, hg, hc, hfz⟩ := h
  simp only [World.frozen?, hg, Bool.and_eq_false_iff, decide_eq_false_iff_not]
  rcases hfz with h | h
  · left; simp only at h; omega
  · right; simp only at h; omega
theorem Row.at_ {w : World} {g : Nat} {l : List UInt8} (h : Row w g l) (i : Nat) (hi : i < l.length) : w.cell? ⟨g, i, none⟩ = some (.int .u8 (l[i]).toNat) := by
  have := h.cell i (.int .u8 (l[i]).toNat) (by rw [bcells, List.getElem?_map, List.getElem?_eq_getElem hi]; rfl)
  rwa [lit_add] at this
theorem Row.drew {w : World} {g : Nat} {l : List UInt8} (h : Row w g l) : Row w.drew g l := h

theorem among_nat (x : Int) (n : Nat) (h : 0 < n) : ∃ k : Nat, k < n ∧ x % (n : Int) = k := by
  have h0 := Int.emod_nonneg x (show (n : Int) ≠ 0 by omega)
  have h1 := Int.emod_lt_of_pos x (show 0 < (n : Int) by omega)
  exact ⟨(x % (n : Int)).toNat, by omega, by omega⟩

theorem mbytes_not (l : List UInt8) (h : l.length ≠ 13) : mdece l = 210 := by
  rw [mdece, if_neg]
  simp only [dok, decide_eq_true_eq]
  exact fun h2 => h h2.1

theorem wdec_no (s : ByteArray) (hs : s.size ≤ 9223372036854775807) (h : dok s.data.toList = false) (w : World) : Calls Try.prog 45 #[.string s] w fun e w' => e = .returned (.tuple #[mval mzero, .int .i64 210]) ∧ Below w.heap.size w w' := by
  have := wdec_any s hs w
  rw [show mdec s.data.toList = mzero by rw [mdec, h]; rfl, show mdece s.data.toList = 210 by rw [mdece, h]; rfl] at this
  exact this
theorem dok_len (l : List UInt8) (h : l.length ≠ 13) : dok l = false := by
  simp only [dok, decide_eq_false_iff_not]
  exact fun h2 => h h2.1

theorem turn_byte (x : UInt8) (k : Nat) (hk : k < 255) : x + UInt8.ofNat (1 + k) ≠ x ∧ IntKind.u8.wrap ((x.toNat : Int) + IntKind.u8.wrap (IntKind.i64.wrap (1 + (k : Int)))) = ((x + UInt8.ofNat (1 + k)).toNat : Int) := by
  have h1 := x.toNat_lt
  constructor
  · intro e
    have := congrArg UInt8.toNat e
    rw [UInt8.toNat_add, UInt8.toNat_ofNat'] at this
    omega
  · rw [IntWalk.i64_in _ (by omega), IntKind.wrap_u8, IntKind.wrap_u8, UInt8.toNat_add, UInt8.toNat_ofNat']
    omega

end Cw
