/- What the package wire computes, as plain functions, and the plain laws of its statements. No program in sight. -/
import Derived.Test.YtekgkkohiindkaaFieldW2
namespace Cw
open Go Go.RowKit

structure Ms where
  k : Int
  f : Int
  t : Int
  r : Int
  s : Int
  e : Int
def Ok (m : Ms) : Prop := 1 ≤ m.k ∧ m.k ≤ 3 ∧ 0 ≤ m.f ∧ m.f ≤ 1 ∧ m.t = 1 - m.f ∧ 0 ≤ m.r ∧ m.r ≤ 2047 ∧ 0 ≤ m.s ∧ m.s ≤ 16777215 ∧ 0 ≤ m.e ∧ m.e ≤ 4294967295 ∧ (m.k = 3 → m.r = 0 ∧ m.s = 0)
instance (m : Ms) : Decidable (Ok m) := by unfold Ok; infer_instance
def mok (m : Ms) : Bool := decide (Ok m)
def mcheck (m : Ms) : Int := if mok m = true then 0 else 210
def mbody (m : Ms) : List UInt8 := le 1 m.k.toNat ++ (le 1 m.f.toNat ++ (le 2 m.r.toNat ++ (le 4 m.s.toNat ++ le 4 m.e.toNat)))
def bsum (l : List UInt8) : UInt8 := l.foldl (· + ·) 0
def mbytes (m : Ms) : List UInt8 := mbody m ++ [bsum (mbody m)]
def menc (m : Ms) : List UInt8 := if mok m = true then mbytes m else []
def mzero : Ms := ⟨0, 0, 0, 0, 0, 0⟩
def dm (l : List UInt8) : Ms := ⟨num (l.take 1), num ((l.drop 1).take 1), 1 - (num ((l.drop 1).take 1) : Int), num ((l.drop 2).take 2), num ((l.drop 4).take 4), num ((l.drop 8).take 4)⟩
def dok (l : List UInt8) : Bool := decide (l.length = 13 ∧ mok (dm l) = true ∧ mbytes (dm l) = l)
def mdec (l : List UInt8) : Ms := if dok l = true then dm l else mzero
def mdece (l : List UInt8) : Int := if dok l = true then 0 else 210

theorem le_one (x : Nat) : le 1 x = [UInt8.ofNat x] := by simp [le, List.range_succ]
theorem le_two (x : Nat) : le 2 x = [UInt8.ofNat x, UInt8.ofNat (x / 256)] := by simp [le, List.range_succ]
theorem le_four (x : Nat) : le 4 x = [UInt8.ofNat x, UInt8.ofNat (x / 256), UInt8.ofNat (x / 65536), UInt8.ofNat (x / 16777216)] := by simp [le, List.range_succ]
theorem mbody_length (m : Ms) : (mbody m).length = 12 := by simp [mbody, le_one, le_two, le_four]
theorem mbytes_length (m : Ms) : (mbytes m).length = 13 := by simp [mbytes, mbody_length]

theorem dm_mbytes (m : Ms) (h : mok m = true) : dm (mbytes m) = m := by
  obtain ⟨k, f, t, r, s, e⟩ := m
  have h1 : Ok ⟨k, f, t, r, s, e⟩ := by simpa [mok] using h
  simp only [Ok] at h1
  obtain ⟨h1, h2, h3, h4, h5, h6, h7, h8, h9, h10, h11, h12⟩ := h1
  obtain ⟨k, rfl⟩ := Int.eq_ofNat_of_zero_le (show 0 ≤ k by omega)
  obtain ⟨f, rfl⟩ := Int.eq_ofNat_of_zero_le h3
  obtain ⟨r, rfl⟩ := Int.eq_ofNat_of_zero_le h6
  obtain ⟨s, rfl⟩ := Int.eq_ofNat_of_zero_le h8
  obtain ⟨e, rfl⟩ := Int.eq_ofNat_of_zero_le h10
  simp only [dm, mbytes, mbody, le_one, le_two, le_four, Int.toNat_natCast, List.cons_append, List.nil_append, List.take_succ_cons, List.take_zero, List.drop_succ_cons, List.drop_zero, num, List.foldr_cons, List.foldr_nil, UInt8.toNat_ofNat', Ms.mk.injEq]
  omega

theorem mbytes_inj (a b : Ms) (ha : mok a = true) (hb : mok b = true) : mbytes a = mbytes b ↔ a = b := by
  constructor
  · intro h
    rw [← dm_mbytes a ha, h, dm_mbytes b hb]
  · rintro rfl; rfl

theorem dok_mbytes (m : Ms) (h : mok m = true) : dok (mbytes m) = true := by
  simp only [dok, decide_eq_true_eq, dm_mbytes m h, mbytes_length]
  exact ⟨trivial, h, trivial⟩

/-- A byte that is turned is seen by the sum. -/
theorem bsum_append (l m : List UInt8) : bsum (l ++ m) = bsum l + bsum m := by
  have key : ∀ (m : List UInt8) (a : UInt8), m.foldl (· + ·) a = a + m.foldl (· + ·) 0 := by
    intro m
    induction m with
    | nil => intro a; simp
    | cons x m ih => intro a; rw [List.foldl_cons, List.foldl_cons, ih (a + x), ih (0 + x)]; simp [UInt8.add_assoc]
  rw [bsum, List.foldl_append, key]
  rfl
theorem bsum_set (l : List UInt8) : ∀ (i : Nat) (b : UInt8) (h : i < l.length), bsum (l.set i b) + l[i] = bsum l + b := by
  induction l with
  | nil => intro i b h; simp at h
  | cons x l ih =>
    intro i b h
    have e : ∀ (y : UInt8) (m : List UInt8), bsum (y :: m) = y + bsum m := fun y m => by
      have := bsum_append [y] m
      simpa [bsum] using this
    cases i with
    | zero =>
      simp only [List.set_cons_zero, e, List.getElem_cons_zero]
      ac_rfl
    | succ i =>
      have := ih i b (by simpa using h)
      simp only [List.set_cons_succ, e, List.getElem_cons_succ]
      rw [UInt8.add_assoc, this]
      ac_rfl
theorem dok_sum (l : List UInt8) (h : dok l = true) : l.length = 13 ∧ bsum (l.take 12) = l.getD 12 0 := by
  simp only [dok, decide_eq_true_eq] at h
  obtain ⟨h1, _, h3⟩ := h
  refine ⟨h1, ?_⟩
  have hl := mbody_length (dm l)
  rw [← h3, mbytes, List.take_append_of_le_length (by omega), List.take_of_length_le (by omega), List.getD_eq_getElem?_getD, List.getElem?_append_right (by omega), hl]
  simp
theorem turned_not (m : Ms) (h : mok m = true) (i : Nat) (hi : i < 13) (b : UInt8) (hb : b ≠ (mbytes m).getD i 0) : dok ((mbytes m).set i b) = false := by
  rw [Bool.eq_false_iff]
  intro hd
  obtain ⟨l1, s1⟩ := dok_sum _ (dok_mbytes m h)
  obtain ⟨l2, s2⟩ := dok_sum _ hd
  generalize mbytes m = l at *
  apply hb
  by_cases h12 : i = 12
  · subst h12
    rw [List.take_set_of_le (Nat.le_refl _), s1] at s2
    rw [s2]
    simp only [List.getD_eq_getElem?_getD, List.getElem?_set_self (show 12 < l.length by omega), Option.getD_some]
  · have hlt : i < (l.take 12).length := by rw [List.length_take]; omega
    have h3 := bsum_set (l.take 12) i b hlt
    rw [List.take_set] at s2
    rw [s2, s1] at h3
    have e1 : (l.set i b).getD 12 0 = l.getD 12 0 := by
      simp only [List.getD_eq_getElem?_getD, List.getElem?_set_ne h12]
    rw [e1] at h3
    have h4 : (l.take 12)[i] = b := by
      have h5 := congrArg UInt8.toNat h3
      simp only [UInt8.toNat_add] at h5
      have h6 := ((l.take 12)[i]).toNat_lt
      have h7 := b.toNat_lt
      exact UInt8.toNat_inj.1 (by omega)
    rw [← h4]
    simp [List.getD_eq_getElem?_getD, List.getElem_take, List.getElem?_eq_getElem (show i < l.length by omega)]
end Cw
