/- The leases on a disk: the table of a disk, who holds what, turns, by reckoning. -/
import Derived.Test.YtclcibpghonidaaGreatDoorTabB
import Derived.Test.YtclcibpghonidaaGreatDoorDisk
import Derived.Test.YtclcibpghonidaaGreatDoorFnAs
namespace Cw
open Go Vc
open Go.Proofs
set_option maxRecDepth 100000
/-- The table's sectors of a disk. -/
def tT (S : List ByteArray) (m : Nat) : List ByteArray := (S.drop 2).take m
theorem nilDq2 {H : HL} {nx d bk : Nat} {S : List ByteArray} {Y : List (Int × Wr)} {last : Int} {b1 : Bool} (hd : lookH H d = some (b1, .ab (dP S Y last bk))) {Lc : LL} {o : Oper} {x y : Operand} (hop : o.op = .binOp .eql 42 x y 42) (hx : ev Lc x = some (.c (.nm d))) (hy : ev Lc y = some (.c .np)) : Spec Tryz.prog Lc H nx o ⟨.t (.c (.b false)), [], [], []⟩ :=
  spec_nil tysOk hop hx hy rfl rfl hd (NotNil.pins (disk_pins _ _ _ _))
section
variable {H : HL} {nx d b N n : Nat} {S : List ByteArray} {W : List (Int × Wr)} {last a bb c : Int}
end
end Cw
namespace Cw
open Go Vc
open Go.Proofs
set_option maxRecDepth 100000
/-- The leases of a disk's table, and what is wrong with it. -/
def tbM (S : List ByteArray) (a bb c : Int) : Nat := nsec (gregions a bb c).toNat
def tbL (S : List ByteArray) (a bb c : Int) : List Ls := dl (tT S (tbM S a bb c)) (gregions a bb c).toNat
open Classical in
noncomputable def tbE (S : List ByteArray) (a bb c : Int) : Int := if ¬ Gok a bb c then 4 else if 2 + tbM S a bb c ≤ S.length ∧ Tdok (tT S (tbM S a bb c)) (gregions a bb c).toNat then 0 else 80
theorem tbL_len (S : List ByteArray) (a bb c : Int) : (tbL S a bb c).length = (gregions a bb c).toNat := dl_length _ _
theorem tbL_le (S : List ByteArray) (a bb c : Int) : (tbL S a bb c).length ≤ 132 := by
  rw [tbL_len]
  have := regions_bd a bb c
  omega
noncomputable def snE (S : List ByteArray) (a bb c node : Int) : Int := if tbE S a bb c ≠ 0 then tbE S a bb c else if node < 0 ∨ 2 ≤ node then 1 else 0
noncomputable def rgE (S : List ByteArray) (a bb c node r : Int) : Int := if snE S a bb c node ≠ 0 then snE S a bb c node else if r < 0 ∨ ((tbL S a bb c).length : Int) ≤ r then 1 else 0
noncomputable def lsX (S : List ByteArray) (a bb c node r : Int) : Ls := if rgE S a bb c node r = 0 then (tbL S a bb c).getD r.toNat (0, 0) else (0, 0)
section
variable {H : HL} {nx d b N n : Nat} {S : List ByteArray} {W : List (Int × Wr)} {last a bb c : Int}
/-- What a node holds. -/
def hdL (S : List ByteArray) (a bb c o : Int) : List Int := held (tbL S a bb c) o (tbL S a bb c).length
/-- Who turns leases. -/
def hdT (d : Nat) (a bb c node ep : Int) : TV := .agg [.nm d, iT a, iT bb, iT c, iT node, iT ep]
end
end Cw
namespace Cw
open Go Vc
open Go.Proofs
set_option maxRecDepth 100000
/-- A lease is turned. -/
def tnE (S : List ByteArray) (a bb c node ep r : Int) (x : Ls) (o : Int) : Int :=
  if gve x o ≠ 0 then gve x o else if tpe a bb c r x.1 x.2 ≠ 0 then tpe a bb c r x.1 x.2 else if tpe a bb c r (gvx x o).1 (gvx x o).2 ≠ 0 then tpe a bb c r (gvx x o).1 (gvx x o).2
  else swE S node ep (tps a bb c r x.1 x.2) (tpp a bb c r x.1 x.2) (tpp a bb c r (gvx x o).1 (gvx x o).2)
def tnS (S : List ByteArray) (a bb c node ep r : Int) (x : Ls) (o : Int) : List ByteArray :=
  if gve x o ≠ 0 then S else if tpe a bb c r x.1 x.2 ≠ 0 then S else if tpe a bb c r (gvx x o).1 (gvx x o).2 ≠ 0 then S
  else swS S node ep (tps a bb c r x.1 x.2) (tpp a bb c r x.1 x.2) (tpp a bb c r (gvx x o).1 (gvx x o).2)
section
variable {H : HL} {nx d b N n : Nat} {S : List ByteArray} {W : List (Int × Wr)} {last a bb c : Int}
end
/-- A region is claimed. -/
noncomputable def clE (S : List ByteArray) (a bb c node ep r : Int) : Int :=
  if rgE S a bb c node r ≠ 0 then rgE S a bb c node r else if (lsX S a bb c node r).1 = node + 1 then 0 else if 0 < (lsX S a bb c node r).1 then 230 else tnE S a bb c node ep r (lsX S a bb c node r) (node + 1)
noncomputable def clS (S : List ByteArray) (a bb c node ep r : Int) : List ByteArray :=
  if rgE S a bb c node r ≠ 0 then S else if (lsX S a bb c node r).1 = node + 1 then S else if 0 < (lsX S a bb c node r).1 then S else tnS S a bb c node ep r (lsX S a bb c node r) (node + 1)
/-- A region goes away. -/
noncomputable def awE (S : List ByteArray) (a bb c node ep r o : Int) : Int :=
  if rgE S a bb c node r ≠ 0 then rgE S a bb c node r else if (lsX S a bb c node r).1 ≠ node + 1 then 230 else tnE S a bb c node ep r (lsX S a bb c node r) o
noncomputable def awS (S : List ByteArray) (a bb c node ep r o : Int) : List ByteArray :=
  if rgE S a bb c node r ≠ 0 then S else if (lsX S a bb c node r).1 ≠ node + 1 then S else tnS S a bb c node ep r (lsX S a bb c node r) o
section
variable {H : HL} {nx d b N n : Nat} {S : List ByteArray} {W : List (Int × Wr)} {last a bb c : Int}
/-- The other node's mark. -/
def oth (node : Int) : Int := IntKind.i64.wrap (IntKind.i64.wrap (1 - node) + 1)
/-- What is seized, one by one: what went wrong, and the disk behind it. -/
def szR (a bb c node ep : Int) (L : List Ls) : List Int → List ByteArray → Int × List ByteArray
  | [], S => (0, S)
  | r :: rs, S => if tnE S a bb c node ep r (L.getD r.toNat (0, 0)) (node + 1) ≠ 0 then (tnE S a bb c node ep r (L.getD r.toNat (0, 0)) (node + 1), tnS S a bb c node ep r (L.getD r.toNat (0, 0)) (node + 1))
    else szR a bb c node ep L rs (tnS S a bb c node ep r (L.getD r.toNat (0, 0)) (node + 1))
end
end Cw
namespace Cw
open Go Vc
open Go.Proofs
set_option maxRecDepth 100000
/-- A disk that has a table of these leases, and these epochs. -/
structure TbI (S : List ByteArray) (a bb c : Int) (L : List Ls) (f0 f1 N : Nat) : Prop where
  g : Gok a bb c
  hn : gregions a bb c = (L.length : Nat)
  tk : L.all (fun x => tok x.1 x.2) = true
  ln : 2 + nsec L.length ≤ N
  tb : tT S (nsec L.length) = tsecs (tz L L.length) (nsec L.length)
  w : s1 S = wallB f0 f1
  f0 : f0 < 4294967296
  f1 : f1 < 4294967296
  ok : DOk N S [] 0
section
variable {S : List ByteArray} {a bb c : Int} {L : List Ls} {f0 f1 N : Nat}
theorem TbI.tl (h : TbI S a bb c L f0 f1 N) : (gregions a bb c).toNat = L.length := by rw [h.hn]; omega
theorem TbI.e (h : TbI S a bb c L f0 f1 N) : tbE S a bb c = 0 := by
  unfold tbE tbM
  rw [h.tl, if_neg (fun hg => hg h.g), if_pos]
  rw [h.ok.len, h.tb]
  exact ⟨h.ln, tdok_back L h.tk⟩
theorem TbI.l (h : TbI S a bb c L f0 f1 N) : tbL S a bb c = L := by
  unfold tbL tbM
  rw [h.tl, h.tb]
  exact dl_back L h.tk
theorem TbI.le (h : TbI S a bb c L f0 f1 N) : L.length ≤ 132 := by rw [← h.l]; exact tbL_le _ _ _ _
/-- A node's fence. -/
def fnc (f0 f1 : Nat) (node : Int) : Nat := if node = 0 then f0 else f1
end
end Cw
namespace Cw
open Go Vc
open Go.Proofs
set_option maxRecDepth 100000
/-- What a call leaves of the leases: each as it was, or turned once. -/
structure Stp (L L' : List Ls) (out : Bool) (B : Int) : Prop where
  len : L'.length = L.length
  st : ∀ (j : Nat) (h : j < L.length) (h' : j < L'.length), L'[j] = L[j] ∨ (out = false ∧ L'[j].2 = L[j].2 + 1)
  bd : ∀ x ∈ L', x.2 ≤ B + 1
theorem Stp.same {L : List Ls} {out : Bool} {B : Int} (h : ∀ x ∈ L, x.2 ≤ B) : Stp L L out B := ⟨rfl, fun j h h' => .inl rfl, fun x hx => by have := h x hx; omega⟩
theorem Stp.set {L : List Ls} {B o : Int} (h : ∀ x ∈ L, x.2 ≤ B) {r : Nat} (hr : r < L.length) : Stp L (L.set r (o, L[r].2 + 1)) false B := by
  refine ⟨List.length_set .., fun j hj h' => ?_, fun x hx => ?_⟩
  · rw [List.getElem_set]
    split
    · rename_i h1; subst h1; exact .inr ⟨rfl, rfl⟩
    · exact .inl rfl
  · rcases List.mem_or_eq_of_mem_set hx with h1 | h1
    · have := h x h1; omega
    · rw [h1]
      have := h _ (List.getElem_mem hr)
      show L[r].2 + 1 ≤ B + 1
      omega
section
variable {S : List ByteArray} {a bb c : Int} {L : List Ls} {f0 f1 N : Nat} {B : Int}
/-- All of the other's seized. -/
def szL (L : List Ls) (node : Int) : List Ls := L.map fun x => if x.1 = 2 - node then (node + 1, x.2 + 1) else x
end
end Cw
