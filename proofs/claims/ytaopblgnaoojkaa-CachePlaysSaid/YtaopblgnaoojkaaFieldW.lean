/- The walks of the program's package field. -/
import Derived.Test.YtaopblgnaoojkaaProg
import Derived.Test.YtaopblgnaoojkaaBase
import Derived.Test.YtaopblgnaoojkaaBytes
import Derived.Test.YtaopblgnaoojkaaShelf
namespace Cw
open Go Go.RowKit
open Go.Proofs

theorem byte_info : (Try.prog.info? 5).map (fun i => (i.zero, i.size, i.bytes)) = some (some (.int .u8 0), 1, 1) := by kernel_rfl

abbrev patch (off : Int) (l : List UInt8) : Value := .agg #[.int .i64 off, .string (S l)]

theorem pok_cases {off n x : Int} (h : ¬ Pok off n x) : (n ≠ 1 ∧ n ≠ 2 ∧ n ≠ 4) ∨ ((n = 1 ∨ n = 2 ∨ n = 4) ∧ ¬ (0 ≤ off ∧ off ≤ 64 - n)) ∨ ((n = 1 ∨ n = 2 ∨ n = 4) ∧ (0 ≤ off ∧ off ≤ 64 - n) ∧ x < 0) ∨ ((n = 1 ∨ n = 2 ∨ n = 4) ∧ (0 ≤ off ∧ off ≤ 64 - n) ∧ 0 ≤ x ∧ 256 ^ n.toNat ≤ x) := by
  unfold Pok at h
  by_cases h1 : n = 1 ∨ n = 2 ∨ n = 4
  · by_cases h2 : 0 ≤ off ∧ off ≤ 64 - n
    · by_cases h3 : x < 0
      · exact .inr (.inr (.inl ⟨h1, h2, h3⟩))
      · refine .inr (.inr (.inr ⟨h1, h2, by omega, ?_⟩))
        by_cases h4 : 256 ^ n.toNat ≤ x
        · exact h4
        · exact absurd ⟨h1, h2.1, h2.2, by omega, by omega⟩ h
    · exact .inr (.inl ⟨h1, h2⟩)
  · exact .inl (by omega)

end Cw
