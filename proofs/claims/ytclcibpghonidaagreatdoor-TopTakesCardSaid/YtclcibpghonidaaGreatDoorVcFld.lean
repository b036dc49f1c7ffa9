/- The walk by reckoning, for the package field: calls of functions that only read, slices of patches. -/
import Derived.Test.YtclcibpghonidaaGreatDoorVcRun
import Derived.Test.YtclcibpghonidaaGreatDoorFieldW
namespace Cw
open Go Vc
open Go.Proofs
def patT (off : Int) (l : List UInt8) : TV := .agg [iT off, .s (S l)]
theorem put0 (o b n : Int) : Fn0 Tryz.prog 32 [.c (iT o), .c (iT b), .c (iT n)] (.tup [patT (putoff o b n) (putb o b n), .c (iT (pute o b n))]) := ⟨fun w => put_any o b n w⟩
theorem get0 (s : ByteArray) (o n : Int) (hs : s.size ≤ 9223372036854775807) : Fn0 Tryz.prog 54 [.c (.s s), .c (iT o), .c (iT n)] (.tup [.c (iT (getn s o n : Nat)), .c (iT (gete s.size o n))]) := ⟨fun w => get_any s o n hs w⟩
def B0 : ByteArray := S (List.replicate 64 0)
theorem blank0 : Fn0 Tryz.prog 73 [] (.t (.c (.s B0))) := ⟨fun w => blank_any w⟩
theorem among0 (x n : Int) (h0 : 0 < n) (h1 : n ≤ 1000000000) : Fn0 Tryz.prog 13 [.c (iT x), .c (iT n)] (.t (.c (iT (x % n)))) := ⟨fun w => (among_any x n h0 h1 w).mono fun e w' ⟨h, hw⟩ => ⟨h, hw ▸ RowKit.Below.refl _ _⟩⟩
/-- Patches in cells. -/
def pcells (l : List Pt) : List Value := (l.map fun p => [Value.int .i64 p.1, Value.string p.2]).flatten
theorem pcells_length (l : List Pt) : (pcells l).length = l.length * 2 := by
  induction l with
  | nil => rfl
  | cons p l ih => simp only [pcells, List.map_cons, List.flatten_cons, List.length_append, List.length_cons] at *; simp at *; omega
theorem pcells_get : ∀ (l : List Pt) (i : Nat) (h : i < l.length), (pcells l)[i * 2]? = some (.int .i64 l[i].1) ∧ (pcells l)[i * 2 + 1]? = some (.string l[i].2)
  | p :: l, 0, _ => ⟨rfl, rfl⟩
  | p :: l, i + 1, h => by
    have := pcells_get l i (by simpa using h)
    rw [show (i + 1) * 2 = i * 2 + 2 by omega]
    exact ⟨this.1, this.2⟩
theorem sl_own {w : World} {T : TypeId} {v : Value} {n : Nat} {xs : List Value} {l : List Pt} (h : w.ownsRow 0 T 2 v n xs) (hx : xs = pcells l) : Sl w v l := by
  subst hx
  have hn : l.length = n := by
    have := h.1
    rw [pcells_length] at this
    omega
  subst hn
  rcases h.2 with ⟨rfl, h0⟩ | ⟨g, cap, cur, rfl, _, hg, h1, h2, _⟩
  · have hl : l = [] := List.eq_nil_of_length_eq_zero h0
    subst hl
    exact ⟨none, 0, rfl, Nat.le_refl _, by decide, by simp, by simp⟩
  · refine ⟨some ⟨g, 0, none⟩, cap, rfl, h1, h2, fun b hb _ => ?_, fun i hi => ⟨_, rfl, ?_, ?_⟩⟩
    · cases hb
      exact (Array.getElem?_eq_some_iff.1 hg).1
    · exact h.cells (g := g) rfl _ _ (pcells_get l i hi).1
    · exact h.cells (g := g) rfl _ _ (pcells_get l i hi).2
/-- A slice of cells that are known, as patches. -/
theorem sl_cells {e : Env} {w : World} {n : Nat} {cs : List CV} {T : TypeId} (h : w.heap[e.blk n]? = some (.cells (cs.map (CV.den e)).toArray T (0, 0))) {l : List Pt} {m : Nat} (hm : m = l.length) (hx : cs.map (CV.den e) = pcells l) (hz : l.length ≤ maxLen) : Sl w (.slice (some ⟨e.blk n, 0, none⟩) m m) l := by
  subst hm
  refine ⟨some ⟨e.blk n, 0, none⟩, l.length, rfl, Nat.le_refl _, hz, fun b hb _ => ?_, fun i hi => ⟨_, rfl, ?_, ?_⟩⟩
  · cases hb
    exact (Array.getElem?_eq_some_iff.1 h).1
  · rw [lit_add, cell_of_row w (e.blk n) _ _ T (0, 0) h, hx]
    simpa using (pcells_get l i hi).1
  · rw [lit_add, cell_of_row w (e.blk n) _ _ T (0, 0) h, hx]
    simpa using (pcells_get l i hi).2
/-- field.Patched, of a row of the call's own. -/
theorem patched_own (s : ByteArray) (l : List Pt) (hp : ∀ p ∈ l, p.2.size ≤ 9223372036854775807) (hs : s.size ≤ 9223372036854775807) {H : HL} {nx k n : Nat} {b : Bool} {T : TypeId} {xs : List Value} (hk : lookH H k = some (b, .own T 2 n xs)) (hx : xs = pcells l) :
    FnH Tryz.prog 72 [.c (.s s), .c (.nm k)] H nx ⟨.tup [.c (.s (pt s l)), .c (iT (pte s l))], [], [], []⟩ := by
  refine ⟨fun _ _ e w M => ?_⟩
  obtain ⟨⟨hown, _⟩, _⟩ := M.ob k b _ hk
  refine Calls.mono (patched_any s (e.val k) l hp hs w (sl_own hown hx)) ?_
  rintro en w' ⟨rfl, hb⟩
  exact ⟨e, rfl, Mv.of_below hb⟩
/-- field.Patched, of a slice that is built for the call. -/
theorem patched_lit (s : ByteArray) (l : List Pt) (hp : ∀ p ∈ l, p.2.size ≤ 9223372036854775807) (hs : s.size ≤ 9223372036854775807) (hz : l.length ≤ maxLen) {H : HL} {nx k m : Nat} {b : Bool} {T : TypeId} {cs : List CV} (hk : lookH H k = some (b, .cells cs T)) (hm : m = l.length)
    (hx : ∀ e, cs.map (CV.den e) = pcells l) : FnH Tryz.prog 72 [.c (.s s), .c (.sl k 0 m m)] H nx ⟨.tup [.c (.s (pt s l)), .c (iT (pte s l))], [], [], []⟩ := by
  refine ⟨fun _ _ e w M => ?_⟩
  obtain ⟨⟨_, hblk⟩, _⟩ := M.ob k b _ hk
  refine Calls.mono (patched_any s _ l hp hs w (sl_cells hblk hm (hx e) hz)) ?_
  rintro en w' ⟨rfl, hb⟩
  exact ⟨e, rfl, Mv.of_below hb⟩
end Cw
