/- What the package table computes, as plain functions; plain laws. No program in sight. -/
import Derived.Test.YtigaallhjlmhbaaGeoSpec
import Derived.Test.YtigaallhjlmhbaaBackLaw
namespace Cw
open Go Go.RowKit

def tok (o s : Int) : Bool := decide (0 ≤ o ∧ o ≤ 2 ∧ 0 ≤ s ∧ s ≤ 16777215)
/-- A lease's number. -/
def lv (o s : Int) : Nat := o.toNat + 256 * s.toNat
def tpe (a b c r o s : Int) : Int := if te a b c r ≠ 0 then te a b c r else if tok o s = true then 0 else 80
def tps (a b c r o s : Int) : Int := if tpe a b c r o s = 0 then ts a b c r else 0
def tpp (a b c r o s : Int) : Pt := if tpe a b c r o s = 0 then (toff a b c r, S (le 4 (lv o s))) else (0, ⟨#[]⟩)

theorem tok_iff {o s : Int} (h : tok o s = true) : 0 ≤ o ∧ o ≤ 2 ∧ 0 ≤ s ∧ s ≤ 16777215 := by simpa [tok] using h
theorem lv_lt {o s : Int} (h : tok o s = true) : lv o s < 4294967296 := by
  have := tok_iff h
  unfold lv
  omega
theorem te_ok {a b c r : Int} (h : te a b c r = 0) : Gok a b c ∧ 0 ≤ r ∧ r < gregions a b c ∧ ts a b c r = 2 + r / 16 ∧ toff a b c r = r % 16 * 4 ∧ r ≤ 131 := by
  obtain ⟨h1, h2, h3⟩ := within_ok (a := a) (b := b) (c := c) (n := r) (m := gregions a b c) h
  have := regions_bd a b c
  refine ⟨h1, h2, h3, ?_, ?_, by omega⟩
  · rw [ts, if_neg (by omega)]
  · rw [toff, if_neg (by omega)]
theorem tpp_ok {a b c r o s : Int} (h : tpe a b c r o s = 0) : te a b c r = 0 ∧ tok o s = true := by
  unfold tpe at h
  split at h
  · omega
  · rename_i h1
    split at h
    · rename_i h2
      exact ⟨by omega, h2⟩
    · omega
theorem or8 (o s : Nat) (ho : o < 256) (hs : s < 16777216) : bits .or .i64 (o : Int) ((s : Int) * 256) = ((o + 256 * s : Nat) : Int) := by
  rw [show (s : Int) * 256 = ((s * 256 : Nat) : Int) by omega, i64_or_nat _ _ (by omega) (by omega), Nat.or_comm, or_add s o 8 256 rfl ho]
  congr 1
  omega
theorem okp_lease {a b c r o s : Int} (h : tpe a b c r o s = 0) : okp (tpp a b c r o s) = true := by
  obtain ⟨h1, h2⟩ := tpp_ok h
  obtain ⟨_, h3, _, _, h4, _⟩ := te_ok h1
  have : (S (le 4 (lv o s))).size = 4 := by rw [S_size, le_length]
  rw [tpp, if_pos h, h4]
  simp only [okp, finside, this]
  simp
  omega
/-- Two leases' patches overlap just if their regions have one place of their sectors. -/
theorem lease_both {a b c r o s r' o' s' : Int} (h : tpe a b c r o s = 0) (h' : tpe a b c r' o' s' = 0) : (decide (tps a b c r o s = tps a b c r' o' s') && both (tpp a b c r o s) (tpp a b c r' o' s')) = decide (r = r') := by
  obtain ⟨h1, h2⟩ := tpp_ok h
  obtain ⟨_, h3, _, h4, h5, _⟩ := te_ok h1
  obtain ⟨h1', h2'⟩ := tpp_ok h'
  obtain ⟨_, h3', _, h4', h5', _⟩ := te_ok h1'
  have z : (S (le 4 (lv o s))).size = 4 := by rw [S_size, le_length]
  have z' : (S (le 4 (lv o' s'))).size = 4 := by rw [S_size, le_length]
  rw [tps, if_pos h, tps, if_pos h', tpp, if_pos h, tpp, if_pos h', h4, h4', h5, h5', both]
  simp only [z, z']
  rw [Bool.eq_iff_iff]
  simp only [Bool.and_eq_true, decide_eq_true_eq]
  omega
end Cw
