/- The bag: its methods by reckoning. -/
import Derived.Test.YtclcibpghonidaaGreatDoorDelF
import Derived.Test.YtclcibpghonidaaGreatDoorWireV
import Derived.Test.YtclcibpghonidaaGreatDoorMapK
import Derived.Test.YtclcibpghonidaaGreatDoorAmV
namespace Cw
open Go Vc
open Go.Proofs
set_option maxRecDepth 100000
def keysRB : Go.Shelf.Ren := ⟨fun | 6 => 38 | 7 => 39 | 8 => 75 | 9 => 76 | 10 => 77 | 11 => 110 | n => n, fun | 3 => 31 | 4 => 4 | 23 => 81 | 24 => 34 | 26 => 3 | 27 => 95 | 28 => 96 | 33 => 98 | n => n, fun n => n⟩
def mV (m : Ms) : Value := .agg #[.int .i64 m.k, .int .i64 m.f, .int .i64 m.t, .int .i64 m.r, .int .i64 m.s, .int .i64 m.e]
def m0 : Ms := ⟨0, 0, 0, 0, 0, 0⟩
/-- A bag: the messages that are on their way, by their numbers. -/
def bagO (room last : Int) (L : List (Int × Ms)) (b : Nat) : List (Bool × Ob) :=
  [(true, .cells [iT room, iT last, .mp 1] 83), (true, .mp (gm mV L)), (false, .pin 0 b)]
def bagP (room last : Int) (L : List (Int × Ms)) (b : Nat) : AbP := absP (bagO room last L b) (.p 0 0)
def bagX (room last : Int) (L : List (Int × Ms)) : AbP := exP (bagP room last L)
/-- What may be of a bag. -/
structure BOk (room last : Int) (L : List (Int × Ms)) : Prop where
  r1 : 1 ≤ room
  r2 : room ≤ 1024
  len : (L.length : Int) ≤ room
  up : (L.map Prod.fst).Pairwise (· < ·)
  le : ∀ p ∈ L, 1 ≤ p.1 ∧ p.1 ≤ last
  l0 : 0 ≤ last
def bsE (room : Int) (L : List (Int × Ms)) (m : Ms) : Int := if mcheck m = 0 then (if room ≤ (L.length : Int) then 220 else 0) else mcheck m
def bsN (room last : Int) (L : List (Int × Ms)) (m : Ms) : Int := if bsE room L m = 0 then last + 1 else 0
def bsT (room last : Int) (L : List (Int × Ms)) (m : Ms) : Int := if bsE room L m = 0 then last + 1 else last
def bsL (room last : Int) (L : List (Int × Ms)) (m : Ms) : List (Int × Ms) := if bsE room L m = 0 then L ++ [(last + 1, m)] else L
theorem bOk_send {room last : Int} {L : List (Int × Ms)} (h : BOk room last L) (m : Ms) : BOk room (bsT room last L m) (bsL room last L m) := by
  unfold bsT bsL
  by_cases he : bsE room L m = 0
  · rw [if_pos he, if_pos he]
    have hl : (L.length : Int) < room := by
      unfold bsE at he
      split at he
      · split at he
        · cases he
        · omega
      · exact absurd he (by assumption)
    refine ⟨h.r1, h.r2, by simp; omega, ?_, fun p hp => ?_, by have := h.l0; omega⟩
    · rw [List.map_append, List.pairwise_append]
      refine ⟨h.up, by simp, fun a ha c hc => ?_⟩
      simp at hc
      obtain ⟨q, hq, rfl⟩ := List.mem_map.1 ha
      have := (h.le q hq).2
      omega
    · rcases List.mem_append.1 hp with hp | hp
      · have := h.le p hp; omega
      · simp at hp
        have := h.l0
        subst hp
        exact ⟨by show 1 ≤ last + 1; omega, Int.le_refl _⟩
  · rw [if_neg he, if_neg he]; exact h
theorem bOk_del {room last : Int} {L : List (Int × Ms)} (h : BOk room last L) (k : Int) : BOk room last (gdel k L) := by
  refine ⟨h.r1, h.r2, ?_, h.up.sublist gdel_fst, fun p hp => h.le p (gdel_mem hp), h.l0⟩
  have := gdel_fst (k := k) (W := L).length_le
  simp only [List.length_map] at this
  have := h.len
  omega
section
variable {H : HL} {nx d b : Nat} {room last : Int} {L : List (Int × Ms)}
/-- What is taken. -/
def btM (L : List (Int × Ms)) (k : Int) : Ms := (gget k L).getD m0
def btE (L : List (Int × Ms)) (k : Int) : Int := if (gget k L).isSome = true then 0 else 5
/-- What is sent once more. -/
def baE (room : Int) (L : List (Int × Ms)) (k : Int) : Int := if (gget k L).isSome = true then bsE room L (btM L k) else 5
def baN (room last : Int) (L : List (Int × Ms)) (k : Int) : Int := if (gget k L).isSome = true then bsN room last L (btM L k) else 0
def baT (room last : Int) (L : List (Int × Ms)) (k : Int) : Int := if (gget k L).isSome = true then bsT room last L (btM L k) else last
def baL (room last : Int) (L : List (Int × Ms)) (k : Int) : List (Int × Ms) := if (gget k L).isSome = true then bsL room last L (btM L k) else L
/-- What a text brings. -/
def rwM (s : ByteArray) : Ms := mdec s.data.toList
def brE (room : Int) (L : List (Int × Ms)) (s : ByteArray) : Int := if mdece s.data.toList = 0 then bsE room L (rwM s) else mdece s.data.toList
def brN (room last : Int) (L : List (Int × Ms)) (s : ByteArray) : Int := if mdece s.data.toList = 0 then bsN room last L (rwM s) else 0
def brT (room last : Int) (L : List (Int × Ms)) (s : ByteArray) : Int := if mdece s.data.toList = 0 then bsT room last L (rwM s) else last
def brL (room last : Int) (L : List (Int × Ms)) (s : ByteArray) : List (Int × Ms) := if mdece s.data.toList = 0 then bsL room last L (rwM s) else L
/-- Those to a node. -/
def forL (L : List (Int × Ms)) (u : Int) : List Int := (L.filter fun p => p.2.t == u).map Prod.fst
def notTo (L : List (Int × Ms)) (u k : Int) : Bool := (btM L k).t != u
def hcB (room last u : Int) (L : List (Int × Ms)) : HL := [(1, some (false, .cells [iT room, iT last, .mp 2] 83)), (2, some (false, .mp (gm mV L))), (4, some (false, .cells [.p 1 0] 23)), (5, some (false, .cells [iT u] 3))]
def okT (_ : Int) : Prop := True
end
theorem bOk_new {n : Int} (h0 : 1 ≤ n) (h1 : n ≤ 1024) : BOk n 0 [] := ⟨h0, h1, by simp; omega, List.Pairwise.nil, fun p hp => (by cases hp), Int.le_refl 0⟩
end Cw
namespace Cw
open Go Vc
open Go.Proofs
set_option maxRecDepth 100000
section
variable {H : HL} {nx d : Nat} {room last : Int} {L : List (Int × Ms)}
end
def mb : Ms := ⟨3, 0, 1, 0, 0, 0⟩
end Cw
