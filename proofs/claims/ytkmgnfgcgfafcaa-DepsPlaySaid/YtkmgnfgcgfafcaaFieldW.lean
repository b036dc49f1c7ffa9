/- The walks of the program's package field. -/
import Derived.Test.YtkmgnfgcgfafcaaProg
import Derived.Test.YtkmgnfgcgfafcaaBase
import Derived.Test.YtkmgnfgcgfafcaaBytes
import Derived.Test.YtkmgnfgcgfafcaaShelf
namespace Cw
open Go Go.RowKit
open Go.Proofs

theorem byte_info : (Try.prog.info? 5).map (fun i => (i.zero, i.size, i.bytes)) = some (some (.int .u8 0), 1, 1) := by kernel_rfl

set_option maxRecDepth 100000 in
set_option maxHeartbeats 400000 in
theorem inside_any (off n : Int) (hn : 0 ≤ n) (w : World) : Calls Try.prog 62 #[.int .i64 off, .int .i64 n] w fun e w' => e = .returned (.bool (finside off n)) ∧ w = w' := by
  by_cases h : 0 ≤ off ∧ 0 < n ∧ n ≤ 64 ∧ off ≤ 64 - n
  · have e := Lib.hid (show finside off n = true by simp [finside]; omega)
    obtain ⟨h1, h2, h3, h4⟩ := h
    go_enter Try.func62, Try.ntmps62
    go_wp2
    go_ret
    exact ⟨ret_bool e.out.symm, rfl⟩
  · have e := Lib.hid (show finside off n = false by simp [finside]; omega)
    have H := Lib.hid h
    clear h
    by_cases h1 : 0 ≤ off
    · by_cases h2 : 0 < n
      · by_cases h3 : n ≤ 64
        · have h4 : ¬ off ≤ 64 - n := fun h4 => H.out ⟨h1, h2, h3, h4⟩
          go_enter Try.func62, Try.ntmps62
          go_wp2
          go_ret
          exact ⟨ret_bool e.out.symm, rfl⟩
        · go_enter Try.func62, Try.ntmps62
          go_wp2
          go_ret
          exact ⟨ret_bool e.out.symm, rfl⟩
      · go_enter Try.func62, Try.ntmps62
        go_wp2
        go_ret
        exact ⟨ret_bool e.out.symm, rfl⟩
    · go_enter Try.func62, Try.ntmps62
      go_wp2
      go_ret
      exact ⟨ret_bool e.out.symm, rfl⟩

abbrev patch (off : Int) (l : List UInt8) : Value := .agg #[.int .i64 off, .string (S l)]

theorem pok_cases {off n x : Int} (h : ¬ Pok off n x) : (n ≠ 1 ∧ n ≠ 2 ∧ n ≠ 4) ∨ ((n = 1 ∨ n = 2 ∨ n = 4) ∧ ¬ (0 ≤ off ∧ off ≤ 64 - n)) ∨ ((n = 1 ∨ n = 2 ∨ n = 4) ∧ (0 ≤ off ∧ off ≤ 64 - n) ∧ x < 0) ∨ ((n = 1 ∨ n = 2 ∨ n = 4) ∧ (0 ≤ off ∧ off ≤ 64 - n) ∧ 0 ≤ x ∧ 256 ^ n.toNat ≤ x) := by
  unfold Pok at h
  by_cases h1 : n = 1 ∨ n = 2 ∨ n = 4
  · by_cases h2 : 0 ≤ off ∧ off ≤ 64 - n
    · by_cases h3 : x < 0
      · exact .inr (.inr (.inl ⟨h1, h2, h3⟩))
      · refine .inr (.inr (.inr ⟨h1, h2, by omega, ?_⟩))
        by_cases h4 : 256 ^ n.toNat ≤ x
        · exact h4
        · exact absurd ⟨h1, h2.1, h2.2, by omega, by omega⟩ h
    · exact .inr (.inl ⟨h1, h2⟩)
  · exact .inl (by omega)

end Cw
