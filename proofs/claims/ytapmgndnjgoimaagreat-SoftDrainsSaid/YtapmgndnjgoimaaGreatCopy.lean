/- 'copy' of a text into bytes of the call's own; the text of such bytes. No program in sight. -/
import Derived.Test.YtapmgndnjgoimaaGreatBytes
import Derived.Laws.CopyRow
import Derived.Lib.ConvBytes
namespace Cw
open Go Go.RowKit

/-- Bytes laid over others from a place on. -/
def over (cur : List UInt8) (off : Nat) (l : List UInt8) : List UInt8 := cur.take off ++ (l ++ cur.drop (off + l.length))
theorem over_length (cur : List UInt8) (off : Nat) (l : List UInt8) (h : off + l.length ≤ cur.length) : (over cur off l).length = cur.length := by simp [over]; omega

/-- A block that begins with these bytes, and into which they may be written. -/
def Row (w : World) (g : Nat) (l : List UInt8) : Prop := ∃ cur t fz rest, w.heap[g]? = some (.cells cur t fz) ∧ cur.toList = bcells l ++ rest ∧ (l.length ≤ fz.1 ∨ fz.2 = 0)

theorem Row.cell {w : World} {g : Nat} {l : List UInt8} (h : Row w g l) : ∀ j v, (bcells l)[j]? = some v → w.cell? ((⟨g, 0, none⟩ : Addr).add j) = some v := by
  obtain ⟨cur, t, fz, rest, hg, hc, _⟩ := h
  intro j v hv
  have hadd : (⟨g, 0, none⟩ : Addr).add j = ⟨g, j, none⟩ := by unfold Addr.add; split <;> simp_all
  rw [hadd, cell_of_row w g j cur t fz hg, ← Array.getElem?_toList, hc, List.getElem?_append_left (by rcases Nat.lt_or_ge j (bcells l).length with h | h; exact h; rw [List.getElem?_eq_none h] at hv; cases hv)]
  exact hv

theorem Row.kept {B : Nat} {w w' : World} {g : Nat} {l : List UInt8} (h : Row w g l) (hb : Below B w w') (hg : g < B) : Row w' g l := by
  obtain ⟨cur, t, fz, rest, h1, h2, h3⟩ := h
  exact ⟨cur, t, fz, rest, by rw [hb.block g hg]; exact h1, h2, h3⟩

theorem Row.text {P : Program} {w : World} {g : Nat} {l : List UInt8} (h : Row w g l) (src dst e : TypeId) (hs : P.underlying src = some (.slice e)) (he : P.underlying e = some (.int .u8)) (hd : P.underlying dst = some .string) (n c : Nat) (hn : n = l.length) :
    (convert src dst (.slice (some ⟨g, 0, none⟩) n c)).run P w = .ok (.string (S l)) w := by
  subst hn
  exact run_str w src dst e hs he hd _ l c h.cell

theorem row_make (w : World) (l : List UInt8) (C : Array Value) (t : TypeId) (hC : C.toList = bcells l) : Row (w.alloc (.cells C t)) w.heap.size l :=
  ⟨C, t, (0, 0), [], heap_alloc_new w _, by simp [hC], .inr rfl⟩

theorem row_bytes (w : World) (s : ByteArray) (e : TypeId) : Row (Lib.bytesWorld w e s) w.heap.size s.data.toList := by
  refine ⟨_, _, _, List.replicate (grownCap w s.size 0 e - s.size) (.int .u8 0), Lib.bytesWorld_at_new w e s, ?_, .inl ?_⟩
  · simp [Lib.bytesCells, bcells]
  · simp [Lib.bytesCells]
theorem below_bytes (w : World) (s : ByteArray) (e : TypeId) : Below w.heap.size w (Lib.bytesWorld w e s) :=
  ⟨rfl, rfl, rfl, by rw [Lib.bytesWorld_size]; omega, fun k hk => Lib.bytesWorld_at_old w e s k hk⟩

/-- Cells stored into a row, clear of its frozen range. -/
theorem run_storeCells_clear {P : Program} (g o : Nat) (t : TypeId) (fz : Nat × Nat) : ∀ (vs : List Value) (i : Nat) (cur : Array Value) (w : World), w.heap[g]? = some (.cells cur t fz) → (o + i + vs.length ≤ fz.1 ∨ fz.2 = 0) → o + i + vs.length ≤ cur.size → (∀ v ∈ vs, v.oneCell' = true) →
    (storeCells ⟨g, o, none⟩ vs i).run P w = .ok () (w.setRow g (cur.toList.take (o + i) ++ vs ++ cur.toList.drop (o + i + vs.length)).toArray)
  | [], i, cur, w, hg, _, _, _ => by
    simp only [storeCells, List.append_nil, List.length_nil, Nat.add_zero, List.take_append_drop, Array.toArray_toList]
    rw [setRow_self w g cur t fz hg]
    rfl
  | v :: rest, i, cur, w, hg, hfz, hl, h1 => by
    have hi : o + i < cur.size := by simp at hl; omega
    have hadd : (⟨g, o, none⟩ : Addr).add i = ⟨g, o + i, none⟩ := by unfold Addr.add; split <;> simp_all
    have hcell : w.cell? ⟨g, o + i, none⟩ = some cur[o + i] := by simp [World.cell?, hg, hi]
    have hfro : w.frozen? ⟨g, o + i, none⟩ = false := by
      obtain ⟨lo, hi'⟩ := fz
      simp only [World.frozen?, hg, Bool.and_eq_false_iff, decide_eq_false_iff_not]
      simp only [List.length_cons] at hfz
      rcases hfz with h | h
      · left; omega
      · right; omega
    have hst : (store ((⟨g, o, none⟩ : Addr).add i) v).run P w = .ok () (w.setRow g (cur.setIfInBounds (o + i) v)) := by
      rw [hadd, run_store P w _ v _ (h1 v (by simp)), hcell]
      simp [hfro, setCell_eq_setRow w g (o + i) cur t fz v hg]
    have ih := run_storeCells_clear (P := P) g o t fz rest (i + 1) (cur.setIfInBounds (o + i) v) (w.setRow g (cur.setIfInBounds (o + i) v)) (setRow_heap w g cur _ t _ hg) (by simp at hfz ⊢; omega) (by simp at hl ⊢; omega) (fun x hx => h1 x (by simp [hx]))
    simp only [storeCells, Sem.run_bind, hst, Result.andThen_ok, ih, setRow_setRow]
    congr 3
    have e := list_seg_step cur.toList (o + i) v rest (by simp at hl ⊢; omega)
    simpa [Array.toList_setIfInBounds, Nat.add_assoc] using e

theorem bcells_one (l : List UInt8) : ∀ v ∈ bcells l, v.oneCell' = true := by
  intro v hv
  simp only [bcells, List.mem_map] at hv
  obtain ⟨b, _, rfl⟩ := hv
  rfl
theorem bcells_append (l m : List UInt8) : bcells (l ++ m) = bcells l ++ bcells m := by simp [bcells]
theorem bcells_take (l : List UInt8) (n : Nat) : bcells (l.take n) = (bcells l).take n := by simp [bcells, List.map_take]
theorem bcells_drop (l : List UInt8) (n : Nat) : bcells (l.drop n) = (bcells l).drop n := by simp [bcells, List.map_drop]

/-- 'copy(b[off:], t)': the walk's law. -/
theorem wpList_copy_str {P : Program} {w : World} {ops : Array Oper} {rest : List Oper} {o : Oper} {a : Act} {Q : Exit → Act → World → Prop} (hgd : o.guard = none) (d s : Operand) (dT sT : TypeId)
    (ho : o.op = .call { callee := .builtin .copy, args := #[d, s], argTypes := #[dT, sT] }) (elem : TypeId) (hu : P.underlying dT = some (.slice elem)) (hsz : (P.info? elem).map (·.size) = some 1)
    (g off dLen dCap : Nat) (t : ByteArray) (hd : a.eval d = .slice (some ⟨g, off, none⟩) dLen dCap) (hs : a.eval s = .string t) (l : List UInt8) (hR : Row w g l) (hfit : off + min t.size dLen ≤ l.length)
    (B : Nat) (w0 : World) (hb : Below B w0 w) (hBg : B ≤ g)
    (h : ∀ w', Row w' g (over l off (t.data.toList.take dLen)) → Below B w0 w' → wpList P ops Q rest (a.put o.dst (goInt (min t.size dLen : Nat))) w') : wpList P ops Q (o :: rest) a w := by
  obtain ⟨cur, ct, fz, rst, hg, hc, hfz⟩ := hR
  have hlen : (bcells (t.data.toList.take dLen)).length = min t.size dLen := by rw [bcells_length, List.length_take, Nat.min_comm]; rfl
  have hcs : cur.size = l.length + rst.length := by rw [← Array.length_toList, hc, List.length_append, bcells_length]
  have hst := run_storeCells_clear (P := P) g off ct fz (bcells (t.data.toList.take dLen)) 0 cur w hg (by rw [hlen]; simp; omega) (by rw [hlen]; simp; omega) (bcells_one _)
  simp only [Nat.add_zero] at hst
  have hrun : (Builtin.copy_ #[dT, sT] o.type #[.slice (some ⟨g, off, none⟩) dLen dCap, .string t]).run P w = .ok (goInt (min t.size dLen : Nat)) (w.setRow g (cur.toList.take off ++ bcells (t.data.toList.take dLen) ++ cur.toList.drop (off + (bcells (t.data.toList.take dLen)).length)).toArray) := by
    have htk : List.take (Nat.min t.size dLen) (List.map (fun b : UInt8 => Value.int IntKind.u8 (b.toNat : Int)) t.data.toList) = bcells (t.data.toList.take dLen) := by
      rw [bcells_take]
      apply List.ext_getElem?
      intro j
      simp only [List.getElem?_take, bcells]
      have hsz : t.size = t.data.toList.length := rfl
      by_cases h1 : j < dLen <;> by_cases h2 : j < t.size
      · rw [if_pos (Nat.lt_min.2 ⟨h2, h1⟩), if_pos h1]
      · rw [if_neg (fun h => h2 (Nat.lt_min.1 h).1), if_pos h1, List.getElem?_eq_none (by simp; omega)]
      · rw [if_neg (fun h => h1 (Nat.lt_min.1 h).2), if_neg h1]
      · rw [if_neg (fun h => h1 (Nat.lt_min.1 h).2), if_neg h1]
    cases hq : P.info? elem with
    | none => simp [hq] at hsz
    | some i =>
      simp [Builtin.copy_, run_underlying hu, Builtin.lenOf, Builtin.firstCells, Go.sizeOf, typeInfo, hq]
      rw [htk, hst]
      simp [Result.andThen]
  refine wpList_plain hgd fun K hK => ?_
  unfold Oper.wp
  simp only [execOp, ho, resolve, invoke, builtin, Sem.run_bind, Sem.run_pure, Result.andThen_ok, List.map_toArray, List.map_cons, List.map_nil, hd, hs, hrun]
  refine hK _ _ (h _ ?_ (hb.trans ⟨rfl, rfl, rfl, by simp [World.setRow], fun k hk => setRow_other w g k _ (by omega)⟩))
  refine ⟨_, ct, fz, rst, setRow_heap w g cur _ ct fz hg, ?_, ?_⟩
  · have hl : (bcells l).length = l.length := bcells_length l
    rw [hc, List.take_append_of_le_length (by omega), List.drop_append_of_le_length (by rw [hlen]; omega), bcells_length, ← bcells_take, ← bcells_drop, over, bcells_append, bcells_append]
    simp
  · rw [over_length _ _ _ (by rw [← bcells_length, hlen]; exact hfit)]
    exact hfz
end Cw
