/- Small laws that the walks of this seat use: facts on a block of the call's own carried from world to world, regions that draw their order and whose calls make memory. No program in sight. -/
import Derived.WalkKit
import Derived.WalkSpells
import Derived.WalkLawsBesides
import Derived.BigQuiet
import Derived.Handy
import Derived.Lib.Hide
import Derived.Lib.ConvBytes
namespace Cw
open Go Go.RowKit

theorem below_step {B B' : Nat} {w W w1 : World} (h : Below B' W w1) (hB : B ≤ B') (h0 : Below B w W) : Below B w w1 := h0.trans (h.mono hB)
theorem carry {B : Nat} {W w1 : World} {g : Nat} {cs : Array Value} (hb : Below B W w1) (hg : g < B) (h : ∀ o, W.cell? ⟨g, o, none⟩ = cs[o]?) : ∀ o, w1.cell? ⟨g, o, none⟩ = cs[o]? :=
  fun o => (hb.cell (p := ⟨g, o, none⟩) hg).trans (h o)
theorem start_facts (w : World) (cs : Array Value) (t : TypeId) : Below w.heap.size w (w.alloc (.cells cs t)) ∧ (∀ o, (w.alloc (.cells cs t)).cell? ⟨w.heap.size, o, none⟩ = cs[o]?) ∧ w.heap.size < (w.alloc (.cells cs t)).heap.size :=
  ⟨(Below.refl _ _).alloc (Nat.le_refl _) _, fun o => cell_of_row (w.alloc (.cells cs t)) w.heap.size o cs t (0, 0) (heap_alloc_new w _), by simp⟩
theorem adv {w w0 w1 : World} {g : Nat} {cs : Array Value} (hB : Below w.heap.size w w0) (hb : Below w0.heap.size w0 w1) (hc : ∀ o, w0.cell? ⟨g, o, none⟩ = cs[o]?) (hz : g < w0.heap.size) :
    Below w.heap.size w w1 ∧ (∀ o, w1.cell? ⟨g, o, none⟩ = cs[o]?) ∧ g < w1.heap.size :=
  ⟨below_step hb hB.size hB, carry hb hz hc, Nat.lt_of_lt_of_le hz hb.size⟩
theorem below_drewN {B : Nat} {a w : World} (h : Below B a w) (n : Nat) : Below B a (w.drewN n) := ⟨h.os, h.tape, h.output, h.size, h.block⟩

theorem ret_int {k : IntKind} {a b : Int} (h : a = b) : Ending.returned (.int k a) = .returned (.int k b) := by rw [h]
theorem ret_bool {a b : Bool} (h : a = b) : Ending.returned (.bool a) = .returned (.bool b) := by rw [h]
theorem results_tmp4 {fn : Func} {t u v x : Tmp} (h : fn.results = #[.tmp t, .tmp u, .tmp v, .tmp x]) (tmps : Array Value) (P : Program) (w : World) :
    (results fn tmps).run P w = .ok (.tuple #[tmps.getD t undef, tmps.getD u undef, tmps.getD v undef, tmps.getD x undef]) w := by simp [results, h]

/-- A region that draws its order: every operation reads, or calls what leaves old memory as it was: one walk in the order of the text, in whatever world F n. -/
theorem region_held {P : Program} {id : Nat} {l : List Oper} {Q : Exit → Act → World → Prop} {a : Act} {w : World} (hm : P.follows .mixedOrders = true) (hB : Region.lexB .any l.toArray = true)
    (h : ∀ (τ : Type) (_ : Nonempty τ) (F : τ → World), (∀ n, Below w.heap.size w (F n)) → (∀ w', Below w.heap.size w w' → ∃ m, w' = F m) →
      wpQuiet P l.toArray (fun w' => ∃ n, w' = F n) (fun a' => ∀ n, Q .normal a' (F n)) l a) : (Code.region id l.toArray true).wp P Q a w := by
  refine wp_region_quiet (C := fun w' => ∃ n : {w' : World // Below w.heap.size w w'}, w' = n.1) hm hB ⟨⟨{ w with drawn := w.drawn + 1 }, (Below.refl _ _).drew⟩, rfl⟩ ?_
  have := h {w' : World // Below w.heap.size w w'} ⟨⟨w, Below.refl _ _⟩⟩ (fun n => n.1) (fun n => n.2) (fun w' hw => ⟨⟨w', hw⟩, rfl⟩)
  have h2 : (fun a' => ∀ w' : World, (∃ n : {w' : World // Below w.heap.size w w'}, w' = n.1) → Q .normal a' w') = (fun a' => ∀ n : {w' : World // Below w.heap.size w w'}, Q .normal a' n.1) := by
    funext a'
    simp
  rw [h2]
  simpa using this

section push
variable {P : Program} {ops : Array Oper} {rest : List Oper} {o : Oper} {a : Act} {Q : Exit → Act → World → Prop} {w : World}
end push
end Cw
namespace Cw
/-- A text out of its bytes. -/
def S (l : List UInt8) : ByteArray := ⟨l.toArray⟩
def fwide (n : Int) : Bool := decide (n = 1 ∨ n = 2 ∨ n = 4)
def finside (off n : Int) : Bool := decide (0 ≤ off ∧ 0 < n ∧ n ≤ 64 ∧ off ≤ 64 - n)
/-- A number's bytes, the lowest first. -/
def le (n x : Nat) : List UInt8 := (List.range n).map fun i => UInt8.ofNat (x / 256 ^ i)
def Pok (off n x : Int) : Prop := (n = 1 ∨ n = 2 ∨ n = 4) ∧ 0 ≤ off ∧ off ≤ 64 - n ∧ 0 ≤ x ∧ x < 256 ^ n.toNat
instance (off n x : Int) : Decidable (Pok off n x) := by unfold Pok; infer_instance
def pute (off n x : Int) : Int := if Pok off n x then 0 else 1
def putoff (off n x : Int) : Int := if Pok off n x then off else 0
def putb (off n x : Int) : List UInt8 := if Pok off n x then le n.toNat x.toNat else []
theorem S_data (l : List UInt8) : (S l).data.toList = l := by simp [S]
end Cw
namespace Cw
open Go Go.RowKit

def bcells (l : List UInt8) : List Value := l.map fun b => .int .u8 b.toNat
theorem bcells_length (l : List UInt8) : (bcells l).length = l.length := by simp [bcells]
theorem foldl_push (l : List UInt8) : ∀ s : ByteArray, (l.map fun b : UInt8 => (b.toNat : Int)).foldl (fun r n => r.push (UInt8.ofNat n.toNat)) s = ⟨s.data ++ l.toArray⟩ := by
  induction l with
  | nil => intro s; simp
  | cons b l ih =>
    intro s
    simp only [List.map_cons, List.foldl_cons]
    rw [ih]
    simp [ByteArray.push]

/-- 'string(b)', b a slice over cells that hold the bytes l. -/
theorem run_str {P : Program} (w : World) (src dst e : TypeId) (hs : P.underlying src = some (.slice e)) (he : P.underlying e = some (.int .u8)) (hd : P.underlying dst = some .string)
    (a : Addr) (l : List UInt8) (c : Nat) (h : ∀ j v, (bcells l)[j]? = some v → w.cell? (a.add j) = some v) :
    (convert src dst (.slice (some a) l.length c)).run P w = .ok (.string (S l)) w := by
  rw [run_convert_bytes_string w src dst e (some a) l.length c hs he hd]
  have hl := run_loadCells_list (P := P) w a (bcells l) h
  rw [bcells_length] at hl
  rw [run_bytesToString w a l.length c (l.map fun b : UInt8 => (b.toNat : Int)) (by rw [hl]; simp [bcells])]
  rw [foldl_push]
  simp [S]

/-- 'string(b)', b the whole of a block that has just been laid and written. -/
theorem run_str_lit {P : Program} (src dst e : TypeId) (hs : P.underlying src = some (.slice e)) (he : P.underlying e = some (.int .u8)) (hd : P.underlying dst = some .string)
    (W : World) (ns : List Int) (c : Nat) : (convert src dst (.slice (some ⟨W.heap.size, 0, none⟩) ns.length c)).run P (W.alloc (.cells (ns.map (Value.int .u8)).toArray e)) =
      .ok (.string (S (ns.map fun n => UInt8.ofNat n.toNat))) (W.alloc (.cells (ns.map (Value.int .u8)).toArray e)) := by
  rw [run_convert_bytes_string _ src dst e _ ns.length c hs he hd]
  have hl := run_loadCells_list (P := P) (W.alloc (.cells (ns.map (Value.int .u8)).toArray e)) ⟨W.heap.size, 0, none⟩ (ns.map (Value.int .u8)) (fun j v hv => by
    have hadd : (⟨W.heap.size, 0, none⟩ : Addr).add j = ⟨W.heap.size, j, none⟩ := by unfold Addr.add; split <;> simp_all
    rw [hadd, cell_of_row _ W.heap.size j _ e (0, 0) (heap_alloc_new W _)]
    simpa using hv)
  rw [List.length_map] at hl
  rw [run_bytesToString _ _ ns.length c ns (by rw [hl])]
  have key : ∀ (l : List Int) (s : ByteArray), l.foldl (fun r n => r.push (UInt8.ofNat n.toNat)) s = ⟨s.data ++ (l.map fun n => UInt8.ofNat n.toNat).toArray⟩ := by
    intro l
    induction l with
    | nil => intro s; simp
    | cons b l ih => intro s; simp only [List.foldl_cons]; rw [ih]; simp [ByteArray.push]
  rw [key]
  simp [S]

theorem le_length (n x : Nat) : (le n x).length = n := by simp [le]
theorem ofNat_mod (x : Nat) : UInt8.ofNat (x % 256) = UInt8.ofNat x := by
  apply UInt8.toNat_inj.1
  simp only [UInt8.toNat_ofNat']
  omega
theorem le1 (x : Nat) : S [UInt8.ofNat x] = S (le 1 x) := by simp [le, List.range_succ]
theorem le2 (x : Nat) : S [UInt8.ofNat (x % 256), UInt8.ofNat (x / 256)] = S (le 2 x) := by simp [le, List.range_succ, ofNat_mod]
theorem le4 (x : Nat) : S [UInt8.ofNat (x % 256), UInt8.ofNat (x / 256 % 256), UInt8.ofNat (x / 65536 % 256), UInt8.ofNat (x / 16777216)] = S (le 4 x) := by simp [le, List.range_succ, ofNat_mod]
end Cw
