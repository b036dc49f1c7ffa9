/- What the package wire computes, as plain functions, and the plain laws of its statements. No program in sight. -/
import Derived.Test.YtclcibpghonidaaGreatDoorFieldW
import Derived.Deep.DeepCutAuto
namespace Cw
open Go Go.RowKit

structure Ms where
  k : Int
  f : Int
  t : Int
  r : Int
  s : Int
  e : Int
def Ok (m : Ms) : Prop := 1 ≤ m.k ∧ m.k ≤ 3 ∧ 0 ≤ m.f ∧ m.f ≤ 1 ∧ m.t = 1 - m.f ∧ 0 ≤ m.r ∧ m.r ≤ 2047 ∧ 0 ≤ m.s ∧ m.s ≤ 16777215 ∧ 0 ≤ m.e ∧ m.e ≤ 4294967295 ∧ (m.k = 3 → m.r = 0 ∧ m.s = 0)
instance (m : Ms) : Decidable (Ok m) := by unfold Ok; infer_instance
def mok (m : Ms) : Bool := decide (Ok m)
def mcheck (m : Ms) : Int := if mok m = true then 0 else 210
def mbody (m : Ms) : List UInt8 := le 1 m.k.toNat ++ (le 1 m.f.toNat ++ (le 2 m.r.toNat ++ (le 4 m.s.toNat ++ le 4 m.e.toNat)))
def bsum (l : List UInt8) : UInt8 := l.foldl (· + ·) 0
def mbytes (m : Ms) : List UInt8 := mbody m ++ [bsum (mbody m)]
def menc (m : Ms) : List UInt8 := if mok m = true then mbytes m else []
def mzero : Ms := ⟨0, 0, 0, 0, 0, 0⟩
def dm (l : List UInt8) : Ms := ⟨num (l.take 1), num ((l.drop 1).take 1), 1 - (num ((l.drop 1).take 1) : Int), num ((l.drop 2).take 2), num ((l.drop 4).take 4), num ((l.drop 8).take 4)⟩
def dok (l : List UInt8) : Bool := decide (l.length = 13 ∧ mok (dm l) = true ∧ mbytes (dm l) = l)
def mdec (l : List UInt8) : Ms := if dok l = true then dm l else mzero
def mdece (l : List UInt8) : Int := if dok l = true then 0 else 210

theorem le_one (x : Nat) : le 1 x = [UInt8.ofNat x] := by simp [le, List.range_succ]
theorem le_two (x : Nat) : le 2 x = [UInt8.ofNat x, UInt8.ofNat (x / 256)] := by simp [le, List.range_succ]
end Cw
namespace Cw
open Go Go.RowKit Go.IntWalk
open Go.Proofs

abbrev mval (m : Ms) : Value := .agg #[.int .i64 m.k, .int .i64 m.f, .int .i64 m.t, .int .i64 m.r, .int .i64 m.s, .int .i64 m.e]
abbrev mcells (m : Ms) : Array Value := #[.int .i64 m.k, .int .i64 m.f, .int .i64 m.t, .int .i64 m.r, .int .i64 m.s, .int .i64 m.e]
def wends (m : Ms) : Bool := decide (0 ≤ m.f ∧ m.f ≤ 1 ∧ m.t = 1 - m.f)
def wsizes (m : Ms) : Bool := decide (0 ≤ m.r ∧ m.r ≤ 2047 ∧ 0 ≤ m.s ∧ m.s ≤ 16777215 ∧ 0 ≤ m.e ∧ m.e ≤ 4294967295)
def wbare (m : Ms) : Bool := decide (m.k = 3 → m.r = 0 ∧ m.s = 0)
end Cw
namespace Cw
open Go Go.RowKit Go.IntWalk
open Go.Proofs

/-- The first parts' bytes. -/
def mpre (m : Ms) : Nat → List UInt8
  | 0 => []
  | 1 => le 1 m.k.toNat
  | 2 => le 1 m.k.toNat ++ le 1 m.f.toNat
  | 3 => le 1 m.k.toNat ++ le 1 m.f.toNat ++ le 2 m.r.toNat
  | 4 => le 1 m.k.toNat ++ le 1 m.f.toNat ++ le 2 m.r.toNat ++ le 4 m.s.toNat
  | _ => mbody m
end Cw
namespace Cw
open Go Go.RowKit Go.IntWalk
open Go.Proofs

end Cw
namespace Cw
open Go Go.RowKit Go.IntWalk
open Go.Proofs

theorem blk_cell {w : World} {g : Nat} {cs : Array Value} {T : TypeId} (h : w.heap[g]? = some (.cells cs T (0, 0))) (o : Nat) : w.cell? ⟨g, o, none⟩ = cs[o]? := cell_of_row w g o cs T (0, 0) h
theorem blk_free {w : World} {g : Nat} {cs : Array Value} {T : TypeId} (h : w.heap[g]? = some (.cells cs T (0, 0))) (o : Nat) : w.frozen? ⟨g, o, none⟩ = false := by simp [World.frozen?, h]
theorem blk_lt {w : World} {g : Nat} {o : Obj} (h : w.heap[g]? = some o) : g < w.heap.size := by
  rcases Nat.lt_or_ge g w.heap.size with h' | h'
  · exact h'
  · rw [Array.getElem?_eq_none h'] at h; cases h

/-- The parts that are got. -/
def vp (l : List UInt8) : Nat → Nat
  | 0 => num (l.take 1)
  | 1 => num ((l.drop 1).take 1)
  | 2 => num ((l.drop 2).take 2)
  | 3 => num ((l.drop 4).take 4)
  | _ => num ((l.drop 8).take 4)
def wat : Nat → Int
  | 0 => 0 | 1 => 1 | 2 => 2 | 3 => 4 | 4 => 8 | _ => 12
def arr (v : Nat → Nat) (j : Nat) : Array Value := #[.int .i64 (if 0 < j then v 0 else 0 : Nat), .int .i64 (if 1 < j then v 1 else 0 : Nat), .int .i64 (if 2 < j then v 2 else 0 : Nat), .int .i64 (if 3 < j then v 3 else 0 : Nat), .int .i64 (if 4 < j then v 4 else 0 : Nat)]
end Cw
