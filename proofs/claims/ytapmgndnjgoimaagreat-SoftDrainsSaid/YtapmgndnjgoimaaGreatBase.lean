/- Small laws that the walks of this seat use: facts on a block of the call's own carried from world to world, regions that draw their order and whose calls make memory. No program in sight. -/
import Derived.WalkKit
import Derived.WalkSpells
import Derived.WalkLawsBesides
import Derived.BigQuiet
import Derived.Handy
import Derived.Lib.Hide
namespace Cw
open Go Go.RowKit

theorem below_step {B B' : Nat} {w W w1 : World} (h : Below B' W w1) (hB : B ≤ B') (h0 : Below B w W) : Below B w w1 := h0.trans (h.mono hB)
theorem carry {B : Nat} {W w1 : World} {g : Nat} {cs : Array Value} (hb : Below B W w1) (hg : g < B) (h : ∀ o, W.cell? ⟨g, o, none⟩ = cs[o]?) : ∀ o, w1.cell? ⟨g, o, none⟩ = cs[o]? :=
  fun o => (hb.cell (p := ⟨g, o, none⟩) hg).trans (h o)
theorem start_facts (w : World) (cs : Array Value) (t : TypeId) : Below w.heap.size w (w.alloc (.cells cs t)) ∧ (∀ o, (w.alloc (.cells cs t)).cell? ⟨w.heap.size, o, none⟩ = cs[o]?) ∧ w.heap.size < (w.alloc (.cells cs t)).heap.size :=
  ⟨(Below.refl _ _).alloc (Nat.le_refl _) _, fun o => cell_of_row (w.alloc (.cells cs t)) w.heap.size o cs t (0, 0) (heap_alloc_new w _), by simp⟩
theorem adv {w w0 w1 : World} {g : Nat} {cs : Array Value} (hB : Below w.heap.size w w0) (hb : Below w0.heap.size w0 w1) (hc : ∀ o, w0.cell? ⟨g, o, none⟩ = cs[o]?) (hz : g < w0.heap.size) :
    Below w.heap.size w w1 ∧ (∀ o, w1.cell? ⟨g, o, none⟩ = cs[o]?) ∧ g < w1.heap.size :=
  ⟨below_step hb hB.size hB, carry hb hz hc, Nat.lt_of_lt_of_le hz hb.size⟩
theorem adv0 {w w0 w1 : World} (hB : Below w.heap.size w w0) (hb : Below w0.heap.size w0 w1) : Below w.heap.size w w1 := below_step hb hB.size hB

theorem below_drewN {B : Nat} {a w : World} (h : Below B a w) (n : Nat) : Below B a (w.drewN n) := ⟨h.os, h.tape, h.output, h.size, h.block⟩

theorem ret_int {k : IntKind} {a b : Int} (h : a = b) : Ending.returned (.int k a) = .returned (.int k b) := by rw [h]
theorem ret_bool {a b : Bool} (h : a = b) : Ending.returned (.bool a) = .returned (.bool b) := by rw [h]
theorem results_tmp4 {fn : Func} {t u v x : Tmp} (h : fn.results = #[.tmp t, .tmp u, .tmp v, .tmp x]) (tmps : Array Value) (P : Program) (w : World) :
    (results fn tmps).run P w = .ok (.tuple #[tmps.getD t undef, tmps.getD u undef, tmps.getD v undef, tmps.getD x undef]) w := by simp [results, h]

/-- A region that draws its order: every operation reads, or calls what leaves old memory as it was: one walk in the order of the text, in whatever world F n. -/
theorem region_held {P : Program} {id : Nat} {l : List Oper} {Q : Exit → Act → World → Prop} {a : Act} {w : World} (hm : P.follows .mixedOrders = true) (hB : Region.lexB .any l.toArray = true)
    (h : ∀ (τ : Type) (_ : Nonempty τ) (F : τ → World), (∀ n, Below w.heap.size w (F n)) → (∀ w', Below w.heap.size w w' → ∃ m, w' = F m) →
      wpQuiet P l.toArray (fun w' => ∃ n, w' = F n) (fun a' => ∀ n, Q .normal a' (F n)) l a) : (Code.region id l.toArray true).wp P Q a w := by
  refine wp_region_quiet (C := fun w' => ∃ n : {w' : World // Below w.heap.size w w'}, w' = n.1) hm hB ⟨⟨{ w with drawn := w.drawn + 1 }, (Below.refl _ _).drew⟩, rfl⟩ ?_
  have := h {w' : World // Below w.heap.size w w'} ⟨⟨w, Below.refl _ _⟩⟩ (fun n => n.1) (fun n => n.2) (fun w' hw => ⟨⟨w', hw⟩, rfl⟩)
  have h2 : (fun a' => ∀ w' : World, (∃ n : {w' : World // Below w.heap.size w w'}, w' = n.1) → Q .normal a' w') = (fun a' => ∀ n : {w' : World // Below w.heap.size w w'}, Q .normal a' n.1) := by
    funext a'
    simp
  rw [h2]
  simpa using this

theorem below_grown {base : Nat} {w w' : World} {row : Option Nat} (hg : w.grownBy w' row) (hr : ∀ k, row = some k → base ≤ k) (hb : base ≤ w.heap.size) : Below base w w' :=
  (Below.refl base w).grown hg hb hr

section push
variable {P : Program} {ops : Array Oper} {rest : List Oper} {o : Oper} {a : Act} {Q : Exit → Act → World → Prop} {w : World}
/-- 'append(s, x)', x a value of 'size' cells that has just been laid in a block of its own: what s owns is one more. -/
theorem wpList_push (hgd : o.guard = none) (s x : Operand) (t : TypeId) (ho : o.op = .call { callee := .builtin .append, args := #[s, x], argTypes := #[t, t] })
    (base : Nat) (e : TypeId) (i : TypeInfo) (z : Value) (size bytes : Nat) (ht : P.underlying t = some (.slice e)) (hi : P.info? e = some i) (hz : i.zero = some z)
    (hsize : i.size = size) (hby : i.bytes = bytes) (hzs : z.cells.size = size) (hsz : 0 < size)
    (v : Value) (n : Nat) (xs : List Value) (hs : a.eval s = v) (hown : w.ownsRow base e size v n xs)
    (cs : List Value) (c : Nat) (hx : a.eval x = .slice (some ⟨w.heap.size, 0, none⟩) 1 c) (hcs : cs.length = size) (h1 : ∀ u ∈ cs, u.oneCell' = true)
    (h63 : n + 1 ≤ maxLen) (hbytes : (n + 1) * bytes ≤ 140737488355328) (hbase : base ≤ w.heap.size)
    (h : ∀ v' w', w'.ownsRow base e size v' (n + 1) (xs ++ cs) → Below base w w' → wpList P ops Q rest (a.put o.dst v') w') : wpList P ops Q (o :: rest) a (w.alloc (.cells cs.toArray e)) := by
  have hnew : Go.World.heap (w.alloc (.cells cs.toArray e)) = w.heap.push (.cells cs.toArray e) := rfl
  refine wpList_append_own _ hgd s x t ho base e i z size bytes ht hi hz hsize hby hzs hsz v n xs hs (hown.alloc _) ⟨w.heap.size, 0, none⟩ 1 c cs hx (by omega) ?_ h1 h63 hbytes (by simp; omega) ?_
  · intro j u hu
    have hadd : (⟨w.heap.size, 0, none⟩ : Addr).add j = ⟨w.heap.size, j, none⟩ := by unfold Addr.add; split <;> simp_all
    rw [hadd, cell_of_row (w.alloc (.cells cs.toArray e)) w.heap.size j cs.toArray e (0, 0) (heap_alloc_new w _)]
    simpa using hu
  · intro v' w' h2 h3 _
    refine h v' w' h2 ((Below.refl base w).alloc hbase _ |>.trans (below_grown h3 (fun k hk => (hown.lt k hk).1) (by simp; omega)))
end push
end Cw
