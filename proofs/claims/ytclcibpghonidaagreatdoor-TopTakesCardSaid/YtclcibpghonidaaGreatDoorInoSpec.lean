/- What the package inode computes, as plain functions; plain laws. No program in sight. -/
import Derived.Test.YtclcibpghonidaaGreatDoorGeoSpec
import Derived.Test.YtclcibpghonidaaGreatDoorFieldW
namespace Cw
open Go Go.RowKit

structure Ino where
  k : Int
  l : Int
  z : Int
  p : Int
  g : Int
  d : Nat → Int
  m : Int
def ival (n : Ino) : Value := .agg #[.int .i64 n.k, .int .i64 n.l, .int .i64 n.z, .int .i64 n.p, .int .i64 n.g, .int .i64 (n.d 0), .int .i64 (n.d 1), .int .i64 (n.d 2), .int .i64 (n.d 3), .int .i64 (n.d 4), .int .i64 (n.d 5), .int .i64 (n.d 6), .int .i64 (n.d 7), .int .i64 n.m]
/-- May a number be a block's, or 0? -/
def okb (a b c x : Int) : Bool := (x == 0) || ((we a b c x == 0) && (wk a b c x == 6))
def ids (n : Ino) : List Int := [n.d 0, n.d 1, n.d 2, n.d 3, n.d 4, n.d 5, n.d 6, n.d 7]
def ibad (n : Ino) : Bool := decide (n.g < 0 ∨ 65535 < n.g ∨ n.l < 0 ∨ 255 < n.l ∨ n.z < 0 ∨ 2560 < n.z)
def ibare (n : Ino) : Bool := (n.k == 0) && (n.l == 0) && (n.z == 0) && (n.p == 0) && ((ids n).all (· == 0)) && (n.m == 0)
def idir (a b c : Int) (n : Ino) : Bool := decide (n.z % 64 = 0 ∧ 1 ≤ n.p ∧ n.p ≤ ginodes a b c)
def iblk (a b c : Int) (n : Ino) : Bool := (ids n ++ [n.m]).all (okb a b c)
def iok (a b c : Int) (n : Ino) : Bool := !ibad n && (if n.k = 0 then ibare n else if n.k = 2 then idir a b c n && iblk a b c n else if n.k = 1 then (n.p == 0) && iblk a b c n else false)
def ichk (a b c : Int) (n : Ino) : Int := if Gok a b c then (if iok a b c n = true then 0 else 60) else 4

theorem all_no {p : Int → Bool} (L : List Int) (k : Nat) (h : k < L.length) (hp : p (L[k]'h) = false) : L.all p = false := by
  rw [List.all_eq_false]
  exact ⟨L[k], List.getElem_mem h, by simp [hp]⟩
theorem okb_take {p : Int → Bool} (L : List Int) (k : Nat) (h : k < L.length) (hk : (L.take k).all p = true) (hp : p (L[k]'h) = true) : (L.take (k + 1)).all p = true := by
  rw [← List.take_append_getElem h, List.all_append, hk]
  simp [hp]
end Cw
