/- WireApart, WireBack answer true. -/
import Derived.Test.YtekgkkohiindkaaWireW3
namespace Cw
open Go Go.RowKit Go.IntWalk
open Go.Proofs

theorem ms_ext {a b : Ms} (h1 : a.k = b.k) (h2 : a.f = b.f) (h3 : a.t = b.t) (h4 : a.r = b.r) (h5 : a.s = b.s) (h6 : a.e = b.e) : a = b := by
  obtain ⟨k, f, t, r, s, e⟩ := a
  obtain ⟨k', f', t', r', s', e'⟩ := b
  simp only at h1 h2 h3 h4 h5 h6
  subst h1 h2 h3 h4 h5 h6
  rfl
theorem wex : S (menc ⟨1, 0, 1, 5, 0, 0⟩) = ⟨#[1, 0, 5, 0, 0, 0, 0, 0, 0, 0, 0, 0, 6]⟩ ∧ mcheck ⟨1, 0, 1, 5, 0, 0⟩ = 0 := by decide +kernel

theorem wapart (a b : Ms) (ha : mok a = true) (hb : mok b = true) : (a = b ∧ S (mbytes a) = S (mbytes b)) ∨ (a ≠ b ∧ S (mbytes a) ≠ S (mbytes b)) := by
  by_cases h : a = b
  · exact .inl ⟨h, by rw [h]⟩
  · refine .inr ⟨h, fun e => h ((mbytes_inj a b ha hb).1 ?_)⟩
    simpa only [S_data] using congrArg (fun x : ByteArray => x.data.toList) e

theorem two_six (w : World) (m n : Ms) (T : TypeId) : let w0 := (w.alloc (.cells (mcells m) T)).alloc (.cells (mcells n) T)
    w0.heap[w.heap.size]? = some (.cells (mcells m) T (0, 0)) ∧ w0.heap[w.heap.size + 1]? = some (.cells (mcells n) T (0, 0)) ∧ Below w.heap.size w w0 := by
  refine ⟨(Below.heap_alloc _ _ _ (by simp)).trans (heap_alloc_new w _), ?_, below_alloc (below_alloc (Below.refl _ _) _) _⟩
  have := heap_alloc_new (w.alloc (.cells (mcells m) T)) (.cells (mcells n) T)
  rwa [World.size_alloc] at this

theorem wback (s : ByteArray) : (mdece s.data.toList = 0 ∧ S (menc (mdec s.data.toList)) = s ∧ mcheck (mdec s.data.toList) = 0) ∨ (mdece s.data.toList = 210 ∧ mdec s.data.toList = mzero) := by
  by_cases h : dok s.data.toList = true
  · have h1 := h
    simp only [dok, decide_eq_true_eq] at h1
    left
    rw [mdece, mdec, if_pos h, if_pos h, menc, mcheck, if_pos h1.2.1, if_pos h1.2.1, h1.2.2]
    exact ⟨rfl, strOf s, rfl⟩
  · right
    rw [mdece, mdec, if_neg h, if_neg h]
    exact ⟨rfl, rfl⟩

end Cw
