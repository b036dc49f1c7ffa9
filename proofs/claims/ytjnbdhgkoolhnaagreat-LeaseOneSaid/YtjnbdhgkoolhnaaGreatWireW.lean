/- What the package wire computes, as plain functions, and the plain laws of its statements. No program in sight. -/
import Derived.Test.YtjnbdhgkoolhnaaGreatFieldW
import Derived.Deep.DeepCutAuto
namespace Cw
open Go Go.RowKit

structure Ms where
  k : Int
  f : Int
  t : Int
  r : Int
  s : Int
  e : Int
def Ok (m : Ms) : Prop := 1 ≤ m.k ∧ m.k ≤ 3 ∧ 0 ≤ m.f ∧ m.f ≤ 1 ∧ m.t = 1 - m.f ∧ 0 ≤ m.r ∧ m.r ≤ 2047 ∧ 0 ≤ m.s ∧ m.s ≤ 16777215 ∧ 0 ≤ m.e ∧ m.e ≤ 4294967295 ∧ (m.k = 3 → m.r = 0 ∧ m.s = 0)
instance (m : Ms) : Decidable (Ok m) := by unfold Ok; infer_instance
def mok (m : Ms) : Bool := decide (Ok m)
def mcheck (m : Ms) : Int := if mok m = true then 0 else 210
def mbody (m : Ms) : List UInt8 := le 1 m.k.toNat ++ (le 1 m.f.toNat ++ (le 2 m.r.toNat ++ (le 4 m.s.toNat ++ le 4 m.e.toNat)))
def bsum (l : List UInt8) : UInt8 := l.foldl (· + ·) 0
def mbytes (m : Ms) : List UInt8 := mbody m ++ [bsum (mbody m)]
def menc (m : Ms) : List UInt8 := if mok m = true then mbytes m else []
def mzero : Ms := ⟨0, 0, 0, 0, 0, 0⟩
def dm (l : List UInt8) : Ms := ⟨num (l.take 1), num ((l.drop 1).take 1), 1 - (num ((l.drop 1).take 1) : Int), num ((l.drop 2).take 2), num ((l.drop 4).take 4), num ((l.drop 8).take 4)⟩
def dok (l : List UInt8) : Bool := decide (l.length = 13 ∧ mok (dm l) = true ∧ mbytes (dm l) = l)
def mdec (l : List UInt8) : Ms := if dok l = true then dm l else mzero
def mdece (l : List UInt8) : Int := if dok l = true then 0 else 210

theorem le_one (x : Nat) : le 1 x = [UInt8.ofNat x] := by simp [le, List.range_succ]
theorem le_two (x : Nat) : le 2 x = [UInt8.ofNat x, UInt8.ofNat (x / 256)] := by simp [le, List.range_succ]
theorem le_four (x : Nat) : le 4 x = [UInt8.ofNat x, UInt8.ofNat (x / 256), UInt8.ofNat (x / 65536), UInt8.ofNat (x / 16777216)] := by simp [le, List.range_succ]
theorem mbody_length (m : Ms) : (mbody m).length = 12 := by simp [mbody, le_one, le_two, le_four]
theorem mbytes_length (m : Ms) : (mbytes m).length = 13 := by simp [mbytes, mbody_length]

theorem dm_mbytes (m : Ms) (h : mok m = true) : dm (mbytes m) = m := by
  obtain ⟨k, f, t, r, s, e⟩ := m
  have h1 : Ok ⟨k, f, t, r, s, e⟩ := by simpa [mok] using h
  simp only [Ok] at h1
  obtain ⟨h1, h2, h3, h4, h5, h6, h7, h8, h9, h10, h11, h12⟩ := h1
  obtain ⟨k, rfl⟩ := Int.eq_ofNat_of_zero_le (show 0 ≤ k by omega)
  obtain ⟨f, rfl⟩ := Int.eq_ofNat_of_zero_le h3
  obtain ⟨r, rfl⟩ := Int.eq_ofNat_of_zero_le h6
  obtain ⟨s, rfl⟩ := Int.eq_ofNat_of_zero_le h8
  obtain ⟨e, rfl⟩ := Int.eq_ofNat_of_zero_le h10
  simp only [dm, mbytes, mbody, le_one, le_two, le_four, Int.toNat_natCast, List.cons_append, List.nil_append, List.take_succ_cons, List.take_zero, List.drop_succ_cons, List.drop_zero, num, List.foldr_cons, List.foldr_nil, UInt8.toNat_ofNat', Ms.mk.injEq]
  omega

theorem mbytes_inj (a b : Ms) (ha : mok a = true) (hb : mok b = true) : mbytes a = mbytes b ↔ a = b := by
  constructor
  · intro h
    rw [← dm_mbytes a ha, h, dm_mbytes b hb]
  · rintro rfl; rfl

theorem dok_mbytes (m : Ms) (h : mok m = true) : dok (mbytes m) = true := by
  simp only [dok, decide_eq_true_eq, dm_mbytes m h, mbytes_length]
  exact ⟨trivial, h, trivial⟩

/-- A byte that is turned is seen by the sum. -/
theorem bsum_append (l m : List UInt8) : bsum (l ++ m) = bsum l + bsum m := by
  have key : ∀ (m : List UInt8) (a : UInt8), m.foldl (· + ·) a = a + m.foldl (· + ·) 0 := by
    intro m
    induction m with
    | nil => intro a; simp
    | cons x m ih => intro a; rw [List.foldl_cons, List.foldl_cons, ih (a + x), ih (0 + x)]; simp [UInt8.add_assoc]
  rw [bsum, List.foldl_append, key]
  rfl
theorem bsum_set (l : List UInt8) : ∀ (i : Nat) (b : UInt8) (h : i < l.length), bsum (l.set i b) + l[i] = bsum l + b := by
  induction l with
  | nil => intro i b h; simp at h
  | cons x l ih =>
    intro i b h
    have e : ∀ (y : UInt8) (m : List UInt8), bsum (y :: m) = y + bsum m := fun y m => by
      have := bsum_append [y] m
      simpa [bsum] using this
    cases i with
    | zero =>
      simp only [List.set_cons_zero, e, List.getElem_cons_zero]
      ac_rfl
    | succ i =>
      have := ih i b (by simpa using h)
      simp only [List.set_cons_succ, e, List.getElem_cons_succ]
      rw [UInt8.add_assoc, this]
      ac_rfl
theorem dok_sum (l : List UInt8) (h : dok l = true) : l.length = 13 ∧ bsum (l.take 12) = l.getD 12 0 := by
  simp only [dok, decide_eq_true_eq] at h
  obtain ⟨h1, _, h3⟩ := h
  refine ⟨h1, ?_⟩
  have hl := mbody_length (dm l)
  rw [← h3, mbytes, List.take_append_of_le_length (by omega), List.take_of_length_le (by omega), List.getD_eq_getElem?_getD, List.getElem?_append_right (by omega), hl]
  simp
theorem turned_not (m : Ms) (h : mok m = true) (i : Nat) (hi : i < 13) (b : UInt8) (hb : b ≠ (mbytes m).getD i 0) : dok ((mbytes m).set i b) = false := by
  rw [Bool.eq_false_iff]
  intro hd
  obtain ⟨l1, s1⟩ := dok_sum _ (dok_mbytes m h)
  obtain ⟨l2, s2⟩ := dok_sum _ hd
  generalize mbytes m = l at *
  apply hb
  by_cases h12 : i = 12
  · subst h12
    rw [List.take_set_of_le (Nat.le_refl _), s1] at s2
    rw [s2]
    simp only [List.getD_eq_getElem?_getD, List.getElem?_set_self (show 12 < l.length by omega), Option.getD_some]
  · have hlt : i < (l.take 12).length := by rw [List.length_take]; omega
    have h3 := bsum_set (l.take 12) i b hlt
    rw [List.take_set] at s2
    rw [s2, s1] at h3
    have e1 : (l.set i b).getD 12 0 = l.getD 12 0 := by
      simp only [List.getD_eq_getElem?_getD, List.getElem?_set_ne h12]
    rw [e1] at h3
    have h4 : (l.take 12)[i] = b := by
      have h5 := congrArg UInt8.toNat h3
      simp only [UInt8.toNat_add] at h5
      have h6 := ((l.take 12)[i]).toNat_lt
      have h7 := b.toNat_lt
      exact UInt8.toNat_inj.1 (by omega)
    rw [← h4]
    simp [List.getD_eq_getElem?_getD, List.getElem_take, List.getElem?_eq_getElem (show i < l.length by omega)]
end Cw
namespace Cw
open Go Go.RowKit Go.IntWalk
open Go.Proofs

abbrev mval (m : Ms) : Value := .agg #[.int .i64 m.k, .int .i64 m.f, .int .i64 m.t, .int .i64 m.r, .int .i64 m.s, .int .i64 m.e]
abbrev mcells (m : Ms) : Array Value := #[.int .i64 m.k, .int .i64 m.f, .int .i64 m.t, .int .i64 m.r, .int .i64 m.s, .int .i64 m.e]
theorem six {w : World} {g : Nat} {a b c d e f : Value} (h : ∀ o, w.cell? ⟨g, o, none⟩ = #[a, b, c, d, e, f][o]?) : w.cell? ⟨g, 0, none⟩ = some a ∧ w.cell? ⟨g, 1, none⟩ = some b ∧ w.cell? ⟨g, 2, none⟩ = some c ∧ w.cell? ⟨g, 3, none⟩ = some d ∧ w.cell? ⟨g, 4, none⟩ = some e ∧ w.cell? ⟨g, 5, none⟩ = some f :=
  ⟨h 0, h 1, h 2, h 3, h 4, h 5⟩

def wends (m : Ms) : Bool := decide (0 ≤ m.f ∧ m.f ≤ 1 ∧ m.t = 1 - m.f)
def wsizes (m : Ms) : Bool := decide (0 ≤ m.r ∧ m.r ≤ 2047 ∧ 0 ≤ m.s ∧ m.s ≤ 16777215 ∧ 0 ≤ m.e ∧ m.e ≤ 4294967295)
def wbare (m : Ms) : Bool := decide (m.k = 3 → m.r = 0 ∧ m.s = 0)
theorem ok_parts (m : Ms) : Ok m ↔ (1 ≤ m.k ∧ m.k ≤ 3) ∧ (0 ≤ m.f ∧ m.f ≤ 1 ∧ m.t = 1 - m.f) ∧ (0 ≤ m.r ∧ m.r ≤ 2047 ∧ 0 ≤ m.s ∧ m.s ≤ 16777215 ∧ 0 ≤ m.e ∧ m.e ≤ 4294967295) ∧ (m.k = 3 → m.r = 0 ∧ m.s = 0) :=
  ⟨fun ⟨a, b, c, d, e, f, g, h, i, j, k, l⟩ => ⟨⟨a, b⟩, ⟨c, d, e⟩, ⟨f, g, h, i, j, k⟩, l⟩, fun ⟨⟨a, b⟩, ⟨c, d, e⟩, ⟨f, g, h, i, j, k⟩, l⟩ => ⟨a, b, c, d, e, f, g, h, i, j, k, l⟩⟩
theorem mok_parts (m : Ms) : mok m = (decide (1 ≤ m.k ∧ m.k ≤ 3) && (wends m && (wsizes m && wbare m))) := by
  rw [Bool.eq_iff_iff, mok, wends, wsizes, wbare, Bool.and_eq_true, Bool.and_eq_true, Bool.and_eq_true, decide_eq_true_iff, decide_eq_true_iff, decide_eq_true_iff, decide_eq_true_iff, decide_eq_true_iff]
  exact ok_parts m

end Cw
namespace Cw
open Go Go.RowKit Go.IntWalk
open Go.Proofs

theorem bsum_take (l : List UInt8) (k : Nat) (h : k < l.length) : ((bsum (l.take (k + 1))).toNat : Int) = (((bsum (l.take k)).toNat : Int) + (l[k].toNat : Int)) % 256 := by
  rw [← List.take_append_getElem h, bsum_append]
  have e : bsum [l[k]] = l[k] := by simp [bsum]
  rw [e, UInt8.toNat_add]
  omega
theorem S_append (a b : List UInt8) : S a ++ S b = S (a ++ b) := by
  apply ByteArray.ext
  simp [S]
theorem strOf (s : ByteArray) : S s.data.toList = s := by simp [S]

theorem put_fit (n x : Int) (h : n = 1 ∨ n = 2 ∨ n = 4) (h0 : 0 ≤ x) (h1 : x < 256 ^ n.toNat) (w : World) : Calls Tryz.prog 138 #[.int .i64 0, .int .i64 n, .int .i64 x] w fun e w' => e = .returned (.tuple #[.agg #[.int .i64 0, .string (S (le n.toNat x.toNat))], .int .i64 0]) ∧ Below w.heap.size w w' := by
  have hp : Pok 0 n x := ⟨h, by omega, by omega, h0, h1⟩
  have := put_any 0 n x w
  rw [show pute 0 n x = 0 by rw [pute, if_pos hp], show putoff 0 n x = 0 by rw [putoff, if_pos hp], show putb 0 n x = le n.toNat x.toNat by rw [putb, if_pos hp]] at this
  exact this

theorem put_n1 (x : Int) (h0 : 0 ≤ x) (h1 : x < 256) (w : World) : Calls Tryz.prog 138 #[.int .i64 0, .int .i64 1, .int .i64 x] w fun e w' => e = .returned (.tuple #[.agg #[.int .i64 0, .string (S (le 1 x.toNat))], .int .i64 0]) ∧ Below w.heap.size w w' := put_fit 1 x (by omega) h0 h1 w
theorem put_n2 (x : Int) (h0 : 0 ≤ x) (h1 : x < 65536) (w : World) : Calls Tryz.prog 138 #[.int .i64 0, .int .i64 2, .int .i64 x] w fun e w' => e = .returned (.tuple #[.agg #[.int .i64 0, .string (S (le 2 x.toNat))], .int .i64 0]) ∧ Below w.heap.size w w' := put_fit 2 x (by omega) h0 h1 w
theorem put_n4 (x : Int) (h0 : 0 ≤ x) (h1 : x < 4294967296) (w : World) : Calls Tryz.prog 138 #[.int .i64 0, .int .i64 4, .int .i64 x] w fun e w' => e = .returned (.tuple #[.agg #[.int .i64 0, .string (S (le 4 x.toNat))], .int .i64 0]) ∧ Below w.heap.size w w' := put_fit 4 x (by omega) h0 h1 w

/-- The first parts' bytes. -/
def mpre (m : Ms) : Nat → List UInt8
  | 0 => []
  | 1 => le 1 m.k.toNat
  | 2 => le 1 m.k.toNat ++ le 1 m.f.toNat
  | 3 => le 1 m.k.toNat ++ le 1 m.f.toNat ++ le 2 m.r.toNat
  | 4 => le 1 m.k.toNat ++ le 1 m.f.toNat ++ le 2 m.r.toNat ++ le 4 m.s.toNat
  | _ => mbody m
theorem five {w : World} {a b c d e : Value} {T : TypeId} : ∀ o, (w.alloc (.cells #[a, b, c, d, e] T)).cell? ⟨w.heap.size, o, none⟩ = #[a, b, c, d, e][o]? :=
  fun o => cell_of_row (w.alloc (.cells _ T)) w.heap.size o _ T (0, 0) (heap_alloc_new w _)

theorem mpre_bound (m : Ms) (h : mok m = true) : (0 ≤ m.k ∧ m.k < 256) ∧ (0 ≤ m.f ∧ m.f < 256) ∧ (0 ≤ m.r ∧ m.r < 65536) ∧ (0 ≤ m.s ∧ m.s < 4294967296) ∧ (0 ≤ m.e ∧ m.e < 4294967296) := by
  have h1 : Ok m := by simpa [mok] using h
  obtain ⟨h1, h2, h3, h4, h5, h6, h7, h8, h9, h10, h11, h12⟩ := h1
  omega

end Cw
namespace Cw
open Go Go.RowKit Go.IntWalk
open Go.Proofs

theorem get_ok (s : ByteArray) (off n : Int) (hs : s.size = 64) (hn : n = 1 ∨ n = 2 ∨ n = 4) (h0 : 0 ≤ off) (h1 : off ≤ 64 - n) (w : World) : Calls Tryz.prog 100 #[.string s, .int .i64 off, .int .i64 n] w fun e w' => e = .returned (.tuple #[.int .i64 (numAt s off.toNat n.toNat : Nat), .int .i64 0]) ∧ Below w.heap.size w w' := by
  have h := get_any s off n (by omega) w
  have e1 : gete s.size off n = 0 := by
    rw [gete, if_neg (by omega), if_pos]
    exact ⟨by simpa [fwide] using hn, by simp [finside]; omega⟩
  rw [getn, if_pos e1, e1] at h
  exact h

theorem numAt_two (s : ByteArray) (o a b : Nat) : numAt s o (a + b) = numAt s o a + 256 ^ a * numAt s (o + a) b := by
  have key : ∀ (l : List UInt8) (a b : Nat), num (l.take (a + b)) = num (l.take a) + 256 ^ a * num ((l.drop a).take b) := by
    intro l a
    induction a generalizing l with
    | zero => intro b; simp [num]
    | succ a ih =>
      intro b
      cases l with
      | nil => simp [num]
      | cons x l =>
        rw [show a + 1 + b = (a + b) + 1 by omega, List.take_succ_cons, List.take_succ_cons, List.drop_succ_cons]
        have := ih l b
        simp only [num, List.foldr_cons] at this ⊢
        rw [this, Nat.pow_succ, Nat.mul_add]
        rw [← Nat.mul_assoc, Nat.mul_comm 256 (256 ^ a)]
        omega
  rw [numAt, key, numAt, numAt, List.drop_drop]

theorem wide_eq (a b c m : Nat) (h1 : a < 281474976710656) (h2 : b < 281474976710656) (h3 : c < 281474976710656) (h : a = b + m * c) (hk : m ≤ 65536) : (a : Int) = wrap64 (↑b + wrap64 (↑c * (m : Int))) := by
  have h4 : c * m ≤ a := by rw [h, Nat.mul_comm]; omega
  have h5 : ((c * m : Nat) : Int) = (c : Int) * m := by push_cast; rfl
  rw [Nat.mul_comm] at h
  rw [← h5, wrap64_in ((c * m : Nat) : Int) (by omega), wrap64_in _ (by omega)]
  omega

theorem wide_both (a b c d e : Nat) (h1 : a < 281474976710656) (h2 : b < 281474976710656) (h3 : c < 281474976710656) (h4 : d < 281474976710656) (h5 : e < 281474976710656) (h : a = b + 65536 * c) (h' : b = d + 256 * e) :
    (a : Int) = wrap64 (↑b + wrap64 (↑c * 65536)) ∧ ((b : Int) == wrap64 (↑d + wrap64 (↑e * 256))) = true := by
  have W1 := wide_eq a b c 65536 h1 h2 h3 h (by decide)
  have W2 := wide_eq b d e 256 h2 h4 h5 h' (by decide)
  exact ⟨W1, beq_iff_eq.2 W2⟩

end Cw
namespace Cw
open Go Go.RowKit Go.IntWalk
open Go.Proofs

/-- The bytes ahead of the others. -/
theorem one_front (s : List UInt8) (t : ByteArray) : one s (0, t) = t.data.toList ++ s.drop t.size := by
  have e : t.data.toList.length = t.size := rfl
  simp [one, over]
theorem numAt_front (s : List UInt8) (t : ByteArray) (o n : Nat) (h : o + n ≤ t.size) : numAt (S (one s (0, t))) o n = num ((t.data.toList.drop o).take n) := by
  have e : t.data.toList.length = t.size := rfl
  rw [numAt, S_data, one_front, List.drop_append_of_le_length (by omega), List.take_append_of_le_length (by rw [List.length_drop]; omega)]

theorem str_ne {a b : ByteArray} (h : a ≠ b) : (a.toList == b.toList) = false := by
  rw [ByteArray.toList_eq, ByteArray.toList_eq]
  simp only [beq_eq_false_iff_ne]
  exact fun e => h (ByteArray.ext (Array.toList_inj.1 e))

/-- A block's cells, one of them stored anew. -/
theorem set_block {w : World} {g : Nat} {cs : Array Value} {T : TypeId} (h : w.heap[g]? = some (.cells cs T (0, 0))) (i : Nat) (v : Value) : (w.setCell ⟨g, i, none⟩ v).heap[g]? = some (.cells (cs.setIfInBounds i v) T (0, 0)) := by
  rw [setCell_eq_setRow w g i cs T (0, 0) v h]
  exact setRow_heap w g _ _ T _ h
theorem blk_cell {w : World} {g : Nat} {cs : Array Value} {T : TypeId} (h : w.heap[g]? = some (.cells cs T (0, 0))) (o : Nat) : w.cell? ⟨g, o, none⟩ = cs[o]? := cell_of_row w g o cs T (0, 0) h
theorem blk_free {w : World} {g : Nat} {cs : Array Value} {T : TypeId} (h : w.heap[g]? = some (.cells cs T (0, 0))) (o : Nat) : w.frozen? ⟨g, o, none⟩ = false := by simp [World.frozen?, h]
theorem set_cell {w : World} {g : Nat} {cs : Array Value} {T : TypeId} (h : w.heap[g]? = some (.cells cs T (0, 0))) (i : Nat) (hi : i < cs.size) (v : Value) : (w.setCell ⟨g, i, none⟩ v).cell? ⟨g, i, none⟩ = some v := by
  rw [blk_cell (set_block h i v)]
  simp [hi]
theorem stored6 {w : World} {g : Nat} {T : TypeId} {x0 x1 x2 x3 x4 x5 : Value} (h : w.heap[g]? = some (.cells #[x0, x1, x2, x3, x4, x5] T (0, 0))) (a b c d e f : Value) :
    (w.setCell ⟨g, 0, none⟩ a).cell? ⟨g, 0, none⟩ = some a ∧ ((w.setCell ⟨g, 0, none⟩ a).setCell ⟨g, 1, none⟩ b).cell? ⟨g, 1, none⟩ = some b ∧ (((w.setCell ⟨g, 0, none⟩ a).setCell ⟨g, 1, none⟩ b).setCell ⟨g, 2, none⟩ c).cell? ⟨g, 2, none⟩ = some c ∧
    ((((w.setCell ⟨g, 0, none⟩ a).setCell ⟨g, 1, none⟩ b).setCell ⟨g, 2, none⟩ c).setCell ⟨g, 3, none⟩ d).cell? ⟨g, 3, none⟩ = some d ∧
    (((((w.setCell ⟨g, 0, none⟩ a).setCell ⟨g, 1, none⟩ b).setCell ⟨g, 2, none⟩ c).setCell ⟨g, 3, none⟩ d).setCell ⟨g, 4, none⟩ e).cell? ⟨g, 4, none⟩ = some e ∧
    ((((((w.setCell ⟨g, 0, none⟩ a).setCell ⟨g, 1, none⟩ b).setCell ⟨g, 2, none⟩ c).setCell ⟨g, 3, none⟩ d).setCell ⟨g, 4, none⟩ e).setCell ⟨g, 5, none⟩ f).cell? ⟨g, 5, none⟩ = some f := by
  have h1 := set_block h 0 a
  have h2 := set_block h1 1 b
  have h3 := set_block h2 2 c
  have h4 := set_block h3 3 d
  have h5 := set_block h4 4 e
  exact ⟨set_cell h 0 (by simp) a, set_cell h1 1 (by simp) b, set_cell h2 2 (by simp) c, set_cell h3 3 (by simp) d, set_cell h4 4 (by simp) e, set_cell h5 5 (by simp) f⟩
theorem blk_lt {w : World} {g : Nat} {o : Obj} (h : w.heap[g]? = some o) : g < w.heap.size := by
  rcases Nat.lt_or_ge g w.heap.size with h' | h'
  · exact h'
  · rw [Array.getElem?_eq_none h'] at h; cases h

/-- The parts that are got. -/
def vp (l : List UInt8) : Nat → Nat
  | 0 => num (l.take 1)
  | 1 => num ((l.drop 1).take 1)
  | 2 => num ((l.drop 2).take 2)
  | 3 => num ((l.drop 4).take 4)
  | _ => num ((l.drop 8).take 4)
def wat : Nat → Int
  | 0 => 0 | 1 => 1 | 2 => 2 | 3 => 4 | 4 => 8 | _ => 12
def arr (v : Nat → Nat) (j : Nat) : Array Value := #[.int .i64 (if 0 < j then v 0 else 0 : Nat), .int .i64 (if 1 < j then v 1 else 0 : Nat), .int .i64 (if 2 < j then v 2 else 0 : Nat), .int .i64 (if 3 < j then v 3 else 0 : Nat), .int .i64 (if 4 < j then v 4 else 0 : Nat)]
theorem arr_set (v : Nat → Nat) (j : Nat) (h : j < 5) : (arr v j).setIfInBounds j (.int .i64 (v j)) = arr v (j + 1) := by
  rcases (show j = 0 ∨ j = 1 ∨ j = 2 ∨ j = 3 ∨ j = 4 by omega) with rfl | rfl | rfl | rfl | rfl <;> rfl

end Cw
