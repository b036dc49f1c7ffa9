/- lease.Wanted. -/
import Derived.Test.YtmhbblieldglmaaLeaG
namespace Cw
open Go Vc
open Go.Proofs
set_option maxRecDepth 100000
def uq (l : List Int) : List Int := cpt (srt l)
def bnd (held u : List Int) : List Int := u.takeWhile fun r => decide (r ∈ held)
def mis (held u : List Int) : Int := (u.dropWhile fun r => decide (r ∈ held)).headD (-1)
theorem tw_at {p : Int → Bool} : ∀ {u : List Int} {k : Nat}, (u.take k).all p = true → ∀ (h : k < u.length), p u[k] = false → u.takeWhile p = u.take k ∧ u.dropWhile p = u.drop k
  | y :: u, 0, _, _, h2 => by
    have : p y = false := by simpa using h2
    simp [this]
  | y :: u, k + 1, h1, h, h2 => by
    have h3 : p y = true ∧ (u.take k).all p = true := by simpa [List.take_succ_cons] using h1
    have := tw_at h3.2 (by simpa using h) (by simpa using h2)
    simp [h3.1, this.1, this.2]
theorem tw_all {p : Int → Bool} : ∀ {u : List Int}, u.all p = true → u.takeWhile p = u ∧ u.dropWhile p = []
  | [], _ => ⟨rfl, rfl⟩
  | y :: u, h => by
    have h3 : p y = true ∧ u.all p = true := by simpa using h
    have := tw_all h3.2
    simp [h3.1, this.1, this.2]
end Cw
