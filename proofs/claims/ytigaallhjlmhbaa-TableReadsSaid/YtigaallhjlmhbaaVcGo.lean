/- The walk by reckoning, for this program: a step, calls of functions that only read, slices of patches. -/
import Derived.Test.YtigaallhjlmhbaaVcSeat
import Derived.Test.YtigaallhjlmhbaaInoSpec
import Derived.Test.YtigaallhjlmhbaaPatchW
import Derived.Test.YtigaallhjlmhbaaGeomW2
import Derived.Test.YtigaallhjlmhbaaFieldW2
import Derived.Test.YtigaallhjlmhbaaFit
import Derived.Test.YtigaallhjlmhbaaWireW3
namespace Cw
open Go Vc
open Go.Proofs
abbrev iT (x : Int) : CV := .i .i64 x
def geoT (a b c : Int) : TV := .agg [iT a, iT b, iT c]
def patT (off : Int) (l : List UInt8) : TV := .agg [iT off, .s (S l)]
/-- A piece of text, up to where it stops. -/
theorem rn {F : Frm} {Q : Exit → Act → World → Prop} {c : Code} {ks : List KI} {L : LL} {H : HL} {nx : Nat} (orc : List (Nat × Orc)) {rk : RK} {L' : LL} {H' : HL} {nx' : Nat} {ps : List Prop}
    (h : run (step Try.prog tys fns orc) orc F.N 400 c ks L H nx [] = some (rk, ⟨L', H', nx'⟩, ps)) (hp : allP ps) (hg : Goal Try.prog F Q rk L' H' nx') : At Try.prog F Q c ks L H nx := At.run orc 400 (sd orc) mo h hp hg
theorem rnA {F : Frm} {Q : Exit → Act → World → Prop} {ks : List KI} {L : LL} {H : HL} {nx : Nat} (orc : List (Nat × Orc)) {rk : RK} {L' : LL} {H' : HL} {nx' : Nat} {ps : List Prop}
    (h : run (step Try.prog tys fns orc) orc F.N 400 .skip ks L H nx [] = some (rk, ⟨L', H', nx'⟩, ps)) (hp : allP ps) (hg : Goal Try.prog F Q rk L' H' nx') : Aft Try.prog F Q ks L H nx := Aft.run orc 400 (sd orc) mo h hp hg

/-- A function that reads memory that has names, and keeps all of it: out of a walk from names of its own. -/
theorem fnR {f : FuncId} {fn : Func} {c : Code} (N : Nat) (hf : Try.prog.funcs[f]? = some fn) (hb : fn.body = some c) (hN : fn.ntmps = N) {args args' : List TV} {H H' : HL} {nx nx' : Nat} {v : SV}
    (hM : ∀ e w, MemOk H e w → ∃ e', Mem (fun _ => False) H' e' w ∧ args.map (TV.den e) = args'.map (TV.den e')) (hl : Nat.ble args'.length N = true) (hW : wfL nx' (argsL 0 (args'.map .t)) = true) (hW2 : wfH nx' H' = true)
    (hv : bare v.ns = true) (hg : ∀ w, At Try.prog ⟨w, fun _ => False, N⟩ (bodyPost Try.prog fn fun en w' => en = .returned (v.den e0) ∧ RowKit.Below w.heap.size w w') c [] (argsL 0 (args'.map .t)) H' nx') : FnH Try.prog f args H nx ⟨v, [], [], []⟩ := by
  refine ⟨fun _ _ e w M => ?_⟩
  obtain ⟨e', M', he⟩ := hM e w M
  have := call_at N hf hb hN (args'.map .t) e' H' nx' (fun _ => False) (w := w) (by simpa using Nat.le_of_ble_eq_true hl) (wf hW hW2) M' (hg w)
  rw [List.map_map] at this
  rw [he]
  refine Calls.mono this ?_
  rintro en w' ⟨rfl, hb⟩
  exact ⟨e, by rw [bare_sv hv e], Mv.of_below hb⟩
/-- One block, or row, under the name 0. -/
theorem mem_one {H : HL} {k : Nat} {b : Bool} {o : Ob} (hk : lookH H k = some (b, o)) {e : Env} {w : World} (M : MemOk H e w) {o' : Ob} (ho : allP (o.eqs [(0, k)] o')) : Mem (fun _ => False) [(0, some (false, o'))] (e.ren [(0, k)]) w := by
  have hr : Vc.ren [(0, k)] 0 = k := rfl
  refine ⟨fun n b' q h => ?_, fun n q m c q' h => ?_⟩
  · rw [lookH_cons] at h
    split at h
    · rename_i hn
      cases h
      subst hn
      obtain ⟨h1, h2⟩ := M.ob k b o hk
      exact ⟨Ob.eqs_ok (e := e) ho h1, fun g hg => ⟨h2 g hg, fun h => by cases h⟩⟩
    · cases h
  · rw [lookH_cons] at h
    split at h
    · cases h
    · cases h
theorem check0 (a b c : Int) : Fn0 Try.prog 64 [geoT a b c] (.t (.c (iT (gcheck a b c)))) := ⟨fun w => check_any a b c w⟩
theorem inodes0 (a b c : Int) : Fn0 Try.prog 65 [geoT a b c] (.t (.c (iT (ginodes a b c)))) := ⟨fun w => inodes_any a b c w⟩
theorem put0 (o b n : Int) : Fn0 Try.prog 47 [.c (iT o), .c (iT b), .c (iT n)] (.tup [patT (putoff o b n) (putb o b n), .c (iT (pute o b n))]) := ⟨fun w => put_any o b n w⟩
theorem get0 (s : ByteArray) (o n : Int) (hs : s.size ≤ 9223372036854775807) : Fn0 Try.prog 51 [.c (.s s), .c (iT o), .c (iT n)] (.tup [.c (iT (getn s o n : Nat)), .c (iT (gete s.size o n))]) := ⟨fun w => get_any s o n hs w⟩
def B0 : ByteArray := S (List.replicate 64 0)
theorem blank0 : Fn0 Try.prog 41 [] (.t (.c (.s B0))) := ⟨fun w => blank_any w⟩
theorem fit0 (s : ByteArray) (hs : s.size ≤ 9223372036854775807) : Fn0 Try.prog 69 [.c (.s s)] (.t (.c (.s (fit s)))) := ⟨fun w => fit_any s hs w⟩
theorem among0 (x n : Int) (h0 : 0 < n) (h1 : n ≤ 1000000000) : Fn0 Try.prog 39 [.c (iT x), .c (iT n)] (.t (.c (iT (x % n)))) := ⟨fun w => (among_any x n h0 h1 w).mono fun e w' ⟨h, hw⟩ => ⟨h, hw ▸ RowKit.Below.refl _ _⟩⟩
theorem gc_false {a b c : Int} (h : (gcheck a b c != 0) = false) : Gok a b c := by
  by_cases hg : Gok a b c
  · exact hg
  · simp [gcheck, hg] at h
theorem gc_true {a b c : Int} (h : (gcheck a b c != 0) = true) : ¬ Gok a b c := by
  intro hg
  simp [gcheck, hg] at h

theorem bt_inj {a b : ByteArray} (h : a.toList = b.toList) : a = b := by
  rw [ByteArray.toList_eq, ByteArray.toList_eq] at h
  exact ByteArray.ext (Array.toList_inj.1 h)
theorem bt_iff (a b : ByteArray) : (a.toList == b.toList) = decide (a = b) := by
  by_cases h : a = b
  · subst h; simp
  · rw [decide_eq_false h]
    exact beq_eq_false_iff_ne.2 fun e => h (bt_inj e)
theorem bt_iff2 {a b : ByteArray} : a.toList = b.toList ↔ a = b := ⟨bt_inj, fun h => h ▸ rfl⟩

theorem bq (a b : ByteArray) : (a == b) = decide (a = b) := by
  by_cases h : a = b
  · subst h
    rw [decide_eq_true rfl]
    obtain ⟨x⟩ := a
    show (x == x) = true
    simp
  · rw [decide_eq_false h]
    obtain ⟨x⟩ := a
    obtain ⟨y⟩ := b
    have : x ≠ y := fun e => h (by rw [e])
    show (x == y) = false
    simpa using this
/-- Patches in cells. -/
def pcells (l : List Pt) : List Value := (l.map fun p => [Value.int .i64 p.1, Value.string p.2]).flatten
theorem pcells_length (l : List Pt) : (pcells l).length = l.length * 2 := by
  induction l with
  | nil => rfl
  | cons p l ih => simp only [pcells, List.map_cons, List.flatten_cons, List.length_append, List.length_cons] at *; simp at *; omega
theorem pcells_get : ∀ (l : List Pt) (i : Nat) (h : i < l.length), (pcells l)[i * 2]? = some (.int .i64 l[i].1) ∧ (pcells l)[i * 2 + 1]? = some (.string l[i].2)
  | p :: l, 0, _ => ⟨rfl, rfl⟩
  | p :: l, i + 1, h => by
    have := pcells_get l i (by simpa using h)
    rw [show (i + 1) * 2 = i * 2 + 2 by omega]
    exact ⟨this.1, this.2⟩
theorem sl_own {w : World} {T : TypeId} {v : Value} {n : Nat} {xs : List Value} {l : List Pt} (h : w.ownsRow 0 T 2 v n xs) (hx : xs = pcells l) : Sl w v l := by
  subst hx
  have hn : l.length = n := by
    have := h.1
    rw [pcells_length] at this
    omega
  subst hn
  rcases h.2 with ⟨rfl, h0⟩ | ⟨g, cap, cur, rfl, _, hg, h1, h2, _⟩
  · have hl : l = [] := List.eq_nil_of_length_eq_zero h0
    subst hl
    exact ⟨none, 0, rfl, Nat.le_refl _, by decide, by simp, by simp⟩
  · refine ⟨some ⟨g, 0, none⟩, cap, rfl, h1, h2, fun b hb _ => ?_, fun i hi => ⟨_, rfl, ?_, ?_⟩⟩
    · cases hb
      exact (Array.getElem?_eq_some_iff.1 hg).1
    · exact h.cells (g := g) rfl _ _ (pcells_get l i hi).1
    · exact h.cells (g := g) rfl _ _ (pcells_get l i hi).2
/-- A slice of cells that are known, as patches. -/
theorem sl_cells {e : Env} {w : World} {n : Nat} {cs : List CV} {T : TypeId} (h : w.heap[e.blk n]? = some (.cells (cs.map (CV.den e)).toArray T (0, 0))) {l : List Pt} {m : Nat} (hm : m = l.length) (hx : cs.map (CV.den e) = pcells l) (hz : l.length ≤ maxLen) : Sl w (.slice (some ⟨e.blk n, 0, none⟩) m m) l := by
  subst hm
  refine ⟨some ⟨e.blk n, 0, none⟩, l.length, rfl, Nat.le_refl _, hz, fun b hb _ => ?_, fun i hi => ⟨_, rfl, ?_, ?_⟩⟩
  · cases hb
    exact (Array.getElem?_eq_some_iff.1 h).1
  · rw [lit_add, cell_of_row w (e.blk n) _ _ T (0, 0) h, hx]
    simpa using (pcells_get l i hi).1
  · rw [lit_add, cell_of_row w (e.blk n) _ _ T (0, 0) h, hx]
    simpa using (pcells_get l i hi).2
/-- field.Patched, of a row of the call's own. -/
theorem patched_own (s : ByteArray) (l : List Pt) (hp : ∀ p ∈ l, p.2.size ≤ 9223372036854775807) (hs : s.size ≤ 9223372036854775807) {H : HL} {nx k n : Nat} {b : Bool} {T : TypeId} {xs : List Value} (hk : lookH H k = some (b, .own T 2 n xs)) (hx : xs = pcells l) :
    FnH Try.prog 40 [.c (.s s), .c (.nm k)] H nx ⟨.tup [.c (.s (pt s l)), .c (iT (pte s l))], [], [], []⟩ := by
  refine ⟨fun _ _ e w M => ?_⟩
  obtain ⟨⟨hown, _⟩, _⟩ := M.ob k b _ hk
  refine Calls.mono (patched_any s (e.val k) l hp hs w (sl_own hown hx)) ?_
  rintro en w' ⟨rfl, hb⟩
  exact ⟨e, rfl, Mv.of_below hb⟩
/-- field.Patched, of a slice that is built for the call. -/
theorem patched_lit (s : ByteArray) (l : List Pt) (hp : ∀ p ∈ l, p.2.size ≤ 9223372036854775807) (hs : s.size ≤ 9223372036854775807) (hz : l.length ≤ maxLen) {H : HL} {nx k m : Nat} {b : Bool} {T : TypeId} {cs : List CV} (hk : lookH H k = some (b, .cells cs T)) (hm : m = l.length)
    (hx : ∀ e, cs.map (CV.den e) = pcells l) : FnH Try.prog 40 [.c (.s s), .c (.sl k 0 m m)] H nx ⟨.tup [.c (.s (pt s l)), .c (iT (pte s l))], [], [], []⟩ := by
  refine ⟨fun _ _ e w M => ?_⟩
  obtain ⟨⟨_, hblk⟩, _⟩ := M.ob k b _ hk
  refine Calls.mono (patched_any s _ l hp hs w (sl_cells hblk hm (hx e) hz)) ?_
  rintro en w' ⟨rfl, hb⟩
  exact ⟨e, rfl, Mv.of_below hb⟩
theorem wrap_small {x : Int} (h0 : -1000000000000 ≤ x) (h1 : x ≤ 1000000000000) : IntKind.i64.wrap x = x := by rw [IntKind.wrap_i64]; omega
theorem ble_self (n : Nat) : Nat.ble n n = true := by simp
theorem blt_succ (n : Nat) : Nat.blt n (n + 1) = true := by simp [Nat.blt_eq]
theorem inR_one (nx : Nat) : inR nx (nx + 1) [nx] = true := by
  unfold inR
  rw [ble_self, blt_succ]
  rfl
theorem ren_one (n k : Nat) : Vc.ren [(n, k)] n = k := by simp [Vc.ren, Vc.look]
end Cw
