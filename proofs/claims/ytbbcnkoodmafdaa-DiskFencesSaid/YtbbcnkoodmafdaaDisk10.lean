/- The statement DiskFences, by reckoning: what stays. -/
import Derived.Test.YtbbcnkoodmafdaaDisk7
namespace Cw
open Go Vc
open Go.Proofs
set_option maxRecDepth 100000
theorem mget_mput {k q : Int} {v : Value} : ∀ {M : List (Int × Value)}, mget k (mput q v M) = if k = q then some v else mget k M
  | [] => by
    by_cases h : q = k
    · subst h; simp [mput, mget]
    · simp [mput, mget, h, show ¬ k = q from fun e => h e.symm]
  | (r, u) :: l => by
    unfold mput
    by_cases h : r = q
    · rw [if_pos h]
      subst h
      unfold mget
      by_cases h2 : r = k
      · simp [h2]
      · rw [if_neg h2, if_neg (fun e => h2 e.symm)]
        have := mget_mput (k := k) (q := r) (v := v) (M := l)
        simp [mget, h2]
    · rw [if_neg h]
      unfold mget
      by_cases h2 : r = k
      · subst h2
        simp [h]
      · rw [if_neg h2, mget_mput (M := l)]
        simp [h2]
/-- What stays in DiskFences. -/
structure FOk (S : List ByteArray) (W : List (Int × Wr)) (last : Int) (M : List (Int × Value)) (want : List ByteArray) (e0 e1 : Nat) : Prop where
  dok : DOk 8 S W last
  f : s1 S = wallB e0 e1
  b0 : e0 < 5
  b1 : e1 < 5
  wl : want.length = 8
  we : ∀ k, k < 8 → k ≠ 1 → want.getD k ⟨#[]⟩ = S.getD k ⟨#[]⟩
  tx : ∀ p ∈ W, mget p.1 M = some (.string p.2.s)
  nd : ∀ p ∈ W, (p.2.node = 0 ∨ p.2.node = 1) ∧ 2 ≤ p.2.pl ∧ p.2.pl < 8
def en (e0 e1 : Nat) (node : Int) : Nat := if node = 0 then e0 else e1
section
variable {S : List ByteArray} {W : List (Int × Wr)} {last : Int} {M : List (Int × Value)} {want : List ByteArray} {e0 e1 : Nat}
theorem FOk.row (h : FOk S W last M want e0 e1) {k : Nat} (hk : k < 8) : Vc.rowAt (svs want) (0 + (k : Int).toNat * 1) [.s (want.getD k ⟨#[]⟩)] := by
  have hl := h.wl
  refine ⟨?_, trivial⟩
  rw [Nat.zero_add, Int.toNat_natCast, Nat.mul_one, svs_at (by omega), List.getD_eq_getElem?_getD, List.getElem?_eq_getElem (by omega)]
  rfl
theorem FOk.same (h : FOk S W last M want e0 e1) {k : Nat} (hk : k < 8) : k = 1 ∨ rdT S (k : Nat) = want.getD k ⟨#[]⟩ := by
  by_cases h1 : k = 1
  · exact .inl h1
  · right
    rw [h.we k hk h1, rdT, if_pos (inS_iff.2 ⟨by omega, by rw [h.dok.len]; omega⟩), Int.toNat_natCast]
theorem FOk.rdE (h : FOk S W last M want e0 e1) {k : Nat} (hk : k < 8) : rdE S.length (k : Nat) = 0 := by
  rw [Cw.rdE, if_pos (inS_iff.2 ⟨by omega, by rw [h.dok.len]; omega⟩)]
theorem FOk.ps (h : FOk S W last M want e0 e1) {node : Int} (hn : node = 0 ∨ node = 1) (ep : Int) : psD (s1 S) node ep = decide (((en e0 e1 node : Nat) : Int) ≤ ep) := by
  have := h.b0
  have := h.b1
  rw [h.f, psD_wall (by omega) (by omega) node ep hn]
  rfl
theorem en_row (e0 e1 : Nat) {node : Int} (hn : node = 0 ∨ node = 1) : Vc.rowAt (ivs [(e0 : Int), (e1 : Int)]) (0 + node.toNat * 1) [iT (en e0 e1 node : Nat)] := by
  rcases hn with h | h <;> subst h <;> exact ⟨rfl, trivial⟩
theorem FOk.init : FOk (S0 8) [] 0 [] (S0 8) 0 0 where
  dok := DOk.new (by decide)
  f := s1_new (by decide)
  b0 := by decide
  b1 := by decide
  wl := by simp [S0]
  we := fun _ _ _ => rfl
  tx := by simp
  nd := by simp
theorem FOk.isu (h : FOk S W last M want e0 e1) {node ep pl : Int} {t : ByteArray} (hn : node = 0 ∨ node = 1) (hp : 2 ≤ pl ∧ pl < 8) (he : isuE S W node ep pl t = 0) : FOk S (W ++ [(last + 1, ⟨node, ep, pl, t⟩)]) (last + 1) (mput (last + 1) (.string t) M) want e0 e1 := by
  have hd := h.dok.isu node ep pl t
  rw [isuW, isuL, if_pos he, if_pos he] at hd
  refine ⟨hd, h.f, h.b0, h.b1, h.wl, h.we, fun p hp' => ?_, fun p hp' => ?_⟩
  · rw [mget_mput]
    rcases List.mem_append.1 hp' with hp' | hp'
    · have := (h.dok.le p hp').2
      rw [if_neg (by omega)]
      exact h.tx p hp'
    · rw [List.mem_singleton.1 hp', if_pos rfl]
  · rcases List.mem_append.1 hp' with hp' | hp'
    · exact h.nd p hp'
    · rw [List.mem_singleton.1 hp']; exact ⟨hn, hp⟩
theorem FOk.ap (h : FOk S W last M want e0 e1) {k : Int} {x : Wr} (hx : wget k W = some x) : FOk (apS S W k) (wdel k W) last M (if psD (s1 S) x.node x.ep then want.set x.pl.toNat x.s else want) e0 e1 := by
  have hd := h.dok.ap k
  obtain ⟨h1, h2, h3⟩ := h.nd _ (wget_mem hx)
  have hS : apS S W k = if psD (s1 S) x.node x.ep then S.set x.pl.toNat x.s else S := by simp [apS, hx]
  have hlen := h.dok.len
  have hwl := h.wl
  simp only at h2 h3
  refine ⟨hd, ?_, h.b0, h.b1, ?_, fun j hj hj1 => ?_, fun p hp => h.tx p (wdel_mem hp), fun p hp => h.nd p (wdel_mem hp)⟩
  · rw [hS]
    split
    · rw [s1, List.getD_eq_getElem?_getD, List.getElem?_set_ne (by omega), ← List.getD_eq_getElem?_getD]; exact h.f
    · exact h.f
  · split
    · rw [List.length_set]; exact hwl
    · exact hwl
  · rw [hS]
    have := h.we j hj hj1
    split
    · rw [List.getD_eq_getElem?_getD, List.getD_eq_getElem?_getD, List.getElem?_set, List.getElem?_set]
      by_cases hjx : x.pl.toNat = j
      · rw [if_pos hjx, if_pos hjx, if_pos (by omega), if_pos (by omega)]
      · rw [if_neg hjx, if_neg hjx, ← List.getD_eq_getElem?_getD, ← List.getD_eq_getElem?_getD]
        exact this
    · exact this
theorem raiseE_wall {a b : Nat} (ha : a < 5) (hb : b < 5) {node ep : Int} (hn : node = 0 ∨ node = 1) (h0 : 0 ≤ ep) (h1 : ep < 5) : raiseE (wallB a b) node ep = if ((en a b node : Nat) : Int) ≤ ep then 0 else 1 := by
  have hm : mayE ep = true := mayE_iff.2 ⟨h0, by omega⟩
  rw [raiseE, if_pos (fok_wall (by omega) (by omega)), epN, ep_wall (by omega) (by omega)]
  by_cases hle : ((en a b node : Nat) : Int) ≤ ep
  · rw [if_pos hle]; exact if_pos ⟨hn, hm, hle⟩
  · rw [if_neg hle]; exact if_neg fun h => hle h.2.2
theorem setE_wall {a b : Nat} (ha : a < 5) (hb : b < 5) {node : Int} (hn : node = 0 ∨ node = 1) (m : Nat) : setE (wallB a b) node (m : Int) = wallB (if node = 0 then m else a) (if node = 0 then b else m) := by
  rw [setE, ep_wall (by omega) (by omega)]
  rcases hn with h | h <;> subst h <;> simp
theorem FOk.rs (h : FOk S W last M want e0 e1) {node : Int} {m : Nat} (hn : node = 0 ∨ node = 1) (hm : m < 5) (hle : ((en e0 e1 node : Nat) : Int) ≤ (m : Int)) : rsE S node m = 0 ∧ FOk (rsS S node m) W last M want (if node = 0 then m else e0) (if node = 0 then e1 else m) := by
  have hr : raiseE (s1 S) node (m : Int) = 0 := by rw [h.f, raiseE_wall h.b0 h.b1 hn (by omega) (by omega), if_pos hle]
  have hd := h.dok.rs node m
  have hS : rsS S node m = S.set 1 (setE (s1 S) node m) := by rw [rsS, if_pos hr]
  have hlen := h.dok.len
  refine ⟨by simp [rsE, hr], hd, ?_, ?_, ?_, h.wl, fun j hj hj1 => ?_, h.tx, h.nd⟩
  · rw [hS, s1, List.getD_eq_getElem?_getD, List.getElem?_set, if_pos rfl, if_pos (by omega)]
    show setE (s1 S) node m = _
    rw [h.f, setE_wall h.b0 h.b1 hn]
  · have := h.b0; split <;> omega
  · have := h.b1; split <;> omega
  · rw [hS, List.getD_eq_getElem?_getD, List.getD_eq_getElem?_getD, List.getElem?_set_ne (fun e => hj1 e.symm), ← List.getD_eq_getElem?_getD, ← List.getD_eq_getElem?_getD]
    exact h.we j hj hj1
theorem FOk.rsNo (h : FOk S W last M want e0 e1) {node : Int} {m : Nat} (hn : node = 0 ∨ node = 1) (hm : m < 5) (hle : ¬ ((en e0 e1 node : Nat) : Int) ≤ (m : Int)) : rsE S node m = 1 ∧ rsS S node m = S := by
  have hr : raiseE (s1 S) node (m : Int) = 1 := by rw [h.f, raiseE_wall h.b0 h.b1 hn (by omega) (by omega), if_neg hle]
  exact ⟨by simp [rsE, hr], by simp [rsS, hr]⟩
end
end Cw
