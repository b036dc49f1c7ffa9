/- Lists of patches in memory; the walks of field.Patched and of the document's One, Patched. -/
import Derived.Test.YtaopblgnaoojkaaFieldW3
import Derived.Test.YtaopblgnaoojkaaTwo
import Derived.StillTailTactics
import Derived.Test.YtaopblgnaoojkaaFit
namespace Cw
open Go Go.RowKit Go.IntWalk
open Go.Proofs

/-- A patch: its place, its text. -/
abbrev Pt := Int × ByteArray
/-- A slice value that holds these patches. -/
def Sl (w : World) (v : Value) (l : List Pt) : Prop := ∃ (a : Option Addr) (c : Nat), v = .slice a l.length c ∧ l.length ≤ c ∧ c ≤ maxLen ∧
  (∀ b, a = some b → 0 < l.length → b.block < w.heap.size) ∧ (∀ i (h : i < l.length), ∃ b, a = some b ∧ w.cell? (b.add (i * 2)) = some (.int .i64 l[i].1) ∧ w.cell? (b.add (i * 2 + 1)) = some (.string l[i].2))
theorem Sl.step {w w1 : World} {v : Value} {l : List Pt} (h : Sl w v l) (hb : Below w.heap.size w w1) : Sl w1 v l := by
  obtain ⟨a, c, h1, h2, h3, h4, h5⟩ := h
  refine ⟨a, c, h1, h2, h3, fun b hb' h0 => Nat.lt_of_lt_of_le (h4 b hb' h0) hb.size, fun i hi => ?_⟩
  obtain ⟨b, e, h6, h7⟩ := h5 i hi
  have hk := h4 b e (by omega)
  have blk : ∀ n, (b.add n).block = b.block := fun n => by unfold Addr.add; split <;> rfl
  exact ⟨b, e, (hb.cell (p := b.add (i * 2)) (by rw [blk]; exact hk)).trans h6, (hb.cell (p := b.add (i * 2 + 1)) (by rw [blk]; exact hk)).trans h7⟩

def okp (p : Pt) : Bool := finside p.1 p.2.size
/-- Bytes, patched by one, by all. -/
def one (s : List UInt8) (p : Pt) : List UInt8 := over s p.1.toNat p.2.data.toList
def patchAll (s : List UInt8) (l : List Pt) : List UInt8 := l.foldl one s
def pte (s : ByteArray) (l : List Pt) : Int := if s.size ≠ 64 then 4 else if 1024 < l.length then 2 else if l.all okp then 0 else 1
def pt (s : ByteArray) (l : List Pt) : ByteArray := if pte s l = 0 then S (patchAll s.data.toList l) else ⟨#[]⟩

theorem okp_iff {p : Pt} (h : okp p = true) : 0 ≤ p.1 ∧ 0 < p.2.size ∧ p.2.size ≤ 64 ∧ p.1 ≤ 64 - p.2.size := by
  have := h
  simp [okp, finside] at this
  omega
theorem one_length (s : List UInt8) (p : Pt) (hs : s.length = 64) (h : okp p = true) : (one s p).length = 64 := by
  have := okp_iff h
  rw [one, over_length, hs]
  have e : p.2.data.toList.length = p.2.size := rfl
  omega
theorem patchAll_length (l : List Pt) : ∀ (s : List UInt8), s.length = 64 → l.all okp = true → (patchAll s l).length = 64 := by
  induction l with
  | nil => intro s hs _; exact hs
  | cons p l ih =>
    intro s hs h
    simp only [List.all_cons, Bool.and_eq_true] at h
    exact ih (one s p) (one_length s p hs h.1) h.2
theorem patchAll_take (s : List UInt8) (l : List Pt) (k : Nat) (hk : k < l.length) : patchAll s (l.take (k + 1)) = one (patchAll s (l.take k)) l[k] := by
  rw [← List.take_append_getElem hk, patchAll, List.foldl_append]
  rfl
theorem all_take (l : List Pt) (k : Nat) (hk : k < l.length) (h : (l.take k).all okp = true) (h1 : okp l[k] = true) : (l.take (k + 1)).all okp = true := by
  rw [← List.take_append_getElem hk, List.all_append, h]
  simpa using h1
theorem not_all (l : List Pt) (k : Nat) (hk : k < l.length) (h1 : okp l[k] = false) : l.all okp = false := by
  rw [List.all_eq_false]
  exact ⟨l[k], List.getElem_mem hk, by simp [h1]⟩

theorem Row.lt {w : World} {g : Nat} {l : List UInt8} (h : Row w g l) : g < w.heap.size := by
  obtain ⟨cur, t, fz, rest, hg, _⟩ := h
  rcases Nat.lt_or_ge g w.heap.size with h | h
  · exact h
  · rw [Array.getElem?_eq_none h] at hg; cases hg
theorem add_succ (b : Addr) (n : Nat) : b.add (n + 1) = ⟨(b.add n).block, (b.add n).off + 1, none⟩ := by
  obtain ⟨b, o, sp⟩ := b
  unfold Addr.add
  rw [if_neg (by omega)]
  split <;> simp_all [Nat.add_assoc]
theorem add_block (b : Addr) (n : Nat) : (b.add n).block = b.block := by unfold Addr.add; split <;> rfl

end Cw
/- The walks of the document's One, Patched. -/
namespace Cw
open Go Go.RowKit Go.IntWalk
open Go.Proofs

theorem one_eq (s : ByteArray) (o : Nat) (t : ByteArray) (hs : s.size = 64) (h : o + t.size ≤ 64) : s.extract 0 o ++ t ++ s.extract (o + t.size) 64 = S (one s.data.toList (o, t)) := by
  apply ByteArray.ext
  apply Array.toList_inj.1
  have e : t.data.toList.length = t.size := rfl
  have e2 : s.data.toList.length = 64 := hs
  simp only [ByteArray.data_append, ByteArray.data_extract, Array.toList_append, Array.toList_extract, one, over, S, Int.toNat_natCast, List.toList_toArray, e]
  rw [List.append_assoc]
  congr 2
  rw [List.extract_eq_take_drop, List.take_of_length_le (by rw [List.length_drop, e2]; exact Nat.le_refl _)]

theorem S_self (s : ByteArray) : S s.data.toList = s := by simp [S]

end Cw
