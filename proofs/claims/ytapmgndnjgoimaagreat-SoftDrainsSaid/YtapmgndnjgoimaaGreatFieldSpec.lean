/- What the program's package field computes, as plain functions of integers and lists of bytes. No program in sight. -/
namespace Cw
/-- A text out of its bytes. -/
def S (l : List UInt8) : ByteArray := ⟨l.toArray⟩
def fwide (n : Int) : Bool := decide (n = 1 ∨ n = 2 ∨ n = 4)
def finside (off n : Int) : Bool := decide (0 ≤ off ∧ 0 < n ∧ n ≤ 64 ∧ off ≤ 64 - n)
/-- A number's bytes, the lowest first. -/
def le (n x : Nat) : List UInt8 := (List.range n).map fun i => UInt8.ofNat (x / 256 ^ i)
def Pok (off n x : Int) : Prop := (n = 1 ∨ n = 2 ∨ n = 4) ∧ 0 ≤ off ∧ off ≤ 64 - n ∧ 0 ≤ x ∧ x < 256 ^ n.toNat
instance (off n x : Int) : Decidable (Pok off n x) := by unfold Pok; infer_instance
def pute (off n x : Int) : Int := if Pok off n x then 0 else 1
def putoff (off n x : Int) : Int := if Pok off n x then off else 0
def putb (off n x : Int) : List UInt8 := if Pok off n x then le n.toNat x.toNat else []
theorem S_data (l : List UInt8) : (S l).data.toList = l := by simp [S]
end Cw
