/- ref01.Put; what all laws of the layer use: works, names; book.Among, book.Fit. -/
import Derived.Test.YtgigbkgdbhikmaaFieldW3
namespace Cw
open Go Go.RowKit Go.IntWalk
open Go.Proofs

theorem held2 {w : World} {g : Nat} {x y : Value} {T : TypeId} (h : w.heap[g]? = some (.cells #[x, y] T (0, 0))) :
    w.cell? ⟨g, 0, none⟩ = some x ∧ w.cell? ⟨g, 1, none⟩ = some y ∧ w.frozen? ⟨g, 0, none⟩ = false ∧ w.frozen? ⟨g, 1, none⟩ = false :=
  ⟨cell_of_row w g 0 _ T (0, 0) h, cell_of_row w g 1 _ T (0, 0) h, by simp [World.frozen?, h], by simp [World.frozen?, h]⟩

theorem stored2 {w : World} {g : Nat} {x y : Value} {T : TypeId} (h : w.heap[g]? = some (.cells #[x, y] T (0, 0))) (a b : Value) :
    (w.setCell ⟨g, 0, none⟩ a).cell? ⟨g, 0, none⟩ = some a ∧ ((w.setCell ⟨g, 0, none⟩ a).setCell ⟨g, 1, none⟩ b).cell? ⟨g, 1, none⟩ = some b := by
  have h1 := setCell_eq_setRow w g 0 #[x, y] T (0, 0) a h
  have hh1 : (w.setCell ⟨g, 0, none⟩ a).heap[g]? = some (.cells #[a, y] T (0, 0)) := by rw [h1]; exact setRow_heap w g _ _ T _ h
  have h2 := setCell_eq_setRow (w.setCell ⟨g, 0, none⟩ a) g 1 #[a, y] T (0, 0) b hh1
  have hh2 : ((w.setCell ⟨g, 0, none⟩ a).setCell ⟨g, 1, none⟩ b).heap[g]? = some (.cells #[a, b] T (0, 0)) := by rw [h2]; exact setRow_heap _ g _ _ T _ hh1
  exact ⟨(held2 hh1).1, (held2 hh2).2.1⟩
theorem below_setCell {B g : Nat} {w0 w : World} (hb : Below B w0 w) (hg : B ≤ g) (o : Nat) (v : Value) : Below B w0 (w.setCell ⟨g, o, none⟩ v) :=
  hb.trans ⟨rfl, rfl, rfl, by simp [World.setCell], fun k hk => Below.heap_setCell _ _ _ _ (fun e => by simp at e; omega)⟩

set_option maxRecDepth 100000 in
set_option maxHeartbeats 1000000 in
theorem rput_ok (off : Int) (n x : Nat) (hn : (n : Int) = 1 ∨ (n : Int) = 2 ∨ (n : Int) = 4) (h0 : 0 ≤ off) (h1 : off ≤ 64 - n) (hx : x < 256 ^ n) (w : World) : Calls Try.prog 105 #[.int .i64 off, .int .i64 n, .int .i64 x] w fun e w' => e = .returned (.tuple #[patch off (le n x), .int .i64 0]) ∧ Below w.heap.size w w' := by
  have e2 : finside off n = true := by simp [finside]; omega
  rcases (show n = 1 ∨ n = 2 ∨ n = 4 by omega) with rfl | rfl | rfl
  all_goals
    have e1 : fwide 1 = true ∧ fwide 2 = true ∧ fwide 4 = true := ⟨rfl, rfl, rfl⟩
    simp at hx
    clear hn h0 h1
    go_enter Try.func105, Try.ntmps105
    go_wp2_with (first | (go_at_call 113; refine (rwide_any _ _).mono ?_; rintro e w1 ⟨rfl, rfl⟩) | (go_at_call 114; refine (rwithin_any _ _ _).mono ?_; rintro e w1 ⟨rfl, rfl⟩) | (go_at_call 112; refine (text_any _ x (by decide) (by omega) _).mono ?_; rintro e w1 ⟨rfl, hb⟩; have hk := (hb.block w.heap.size (by simp)).trans (heap_alloc_new w _); obtain ⟨k0, k1, f0, f1⟩ := held2 hk; have hB := below_step hb (by simp) ((Below.refl _ _).alloc (Nat.le_refl _) _); clear hb))
    refine bodyPost_ret (v := .tuple #[patch off (le _ x), .int .i64 0]) (by have X1 := fun b => (stored2 hk (.int .i64 off) b).2; have X0 := (stored2 hk (.int .i64 off) undef).1; simp [results, Try.results105, go_sem, X0, X1]) rfl ⟨rfl, below_setCell (below_setCell hB (Nat.le_refl _) _ _) (Nat.le_refl _) _ _⟩
set_option maxRecDepth 100000 in
set_option maxHeartbeats 1000000 in
theorem rput_no (off n x : Int) (h : ¬ Pok off n x) (w : World) : Calls Try.prog 105 #[.int .i64 off, .int .i64 n, .int .i64 x] w fun e w' => e = .returned (.tuple #[patch 0 [], .int .i64 1]) ∧ Below w.heap.size w w' := by
  rcases pok_cases h with ⟨h1, h2, h3⟩ | ⟨h1, h2⟩ | ⟨h1, h2, h3⟩ | ⟨h1, h2, h3, h4⟩
  · have e1 : fwide n = false := by simp [fwide, h1, h2, h3]
    clear h h1 h2 h3
    go_enter Try.func105, Try.ntmps105
    go_wp2_with (first | (go_at_call 113; refine (rwide_any _ _).mono ?_; rintro e w1 ⟨rfl, rfl⟩) | (go_at_call 114; refine (rwithin_any _ _ _).mono ?_; rintro e w1 ⟨rfl, rfl⟩))
    refine bodyPost_ret (v := .tuple #[patch 0 [], .int .i64 1]) (by simp [results, Try.results105, go_sem]; rfl) rfl ⟨rfl, by go_grown⟩
  · have e2 : finside off n = false := by simp [finside]; omega
    clear h h2
    rcases h1 with rfl | rfl | rfl
    all_goals
      have e1 : fwide 1 = true ∧ fwide 2 = true ∧ fwide 4 = true := ⟨rfl, rfl, rfl⟩
      go_enter Try.func105, Try.ntmps105
      go_wp2_with (first | (go_at_call 113; refine (rwide_any _ _).mono ?_; rintro e w1 ⟨rfl, rfl⟩) | (go_at_call 114; refine (rwithin_any _ _ _).mono ?_; rintro e w1 ⟨rfl, rfl⟩))
      refine bodyPost_ret (v := .tuple #[patch 0 [], .int .i64 1]) (by simp [results, Try.results105, go_sem]; rfl) rfl ⟨rfl, by go_grown⟩
  · have e2 : finside off n = true := by simp [finside]; omega
    clear h h2
    rcases h1 with rfl | rfl | rfl
    all_goals
      have e1 : fwide 1 = true ∧ fwide 2 = true ∧ fwide 4 = true := ⟨rfl, rfl, rfl⟩
      go_enter Try.func105, Try.ntmps105
      go_wp2_with (first | (go_at_call 113; refine (rwide_any _ _).mono ?_; rintro e w1 ⟨rfl, rfl⟩) | (go_at_call 114; refine (rwithin_any _ _ _).mono ?_; rintro e w1 ⟨rfl, rfl⟩))
      refine bodyPost_ret (v := .tuple #[patch 0 [], .int .i64 1]) (by simp [results, Try.results105, go_sem]; rfl) rfl ⟨rfl, by go_grown⟩
  · have e2 : finside off n = true := by simp [finside]; omega
    clear h h2
    rcases h1 with rfl | rfl | rfl
    all_goals
      have e1 : fwide 1 = true ∧ fwide 2 = true ∧ fwide 4 = true := ⟨rfl, rfl, rfl⟩
      have h5 : ¬ x < 0 := by omega
      simp at h4
      go_enter Try.func105, Try.ntmps105
      go_wp2_with (first | (go_at_call 113; refine (rwide_any _ _).mono ?_; rintro e w1 ⟨rfl, rfl⟩) | (go_at_call 114; refine (rwithin_any _ _ _).mono ?_; rintro e w1 ⟨rfl, rfl⟩))
      refine bodyPost_ret (v := .tuple #[patch 0 [], .int .i64 1]) (by simp [results, Try.results105, go_sem]; rfl) rfl ⟨rfl, by go_grown⟩

theorem rput_any (off n x : Int) (w : World) : Calls Try.prog 105 #[.int .i64 off, .int .i64 n, .int .i64 x] w fun e w' => e = .returned (.tuple #[patch (putoff off n x) (putb off n x), .int .i64 (pute off n x)]) ∧ Below w.heap.size w w' := by
  by_cases h : Pok off n x
  · have e : pute off n x = 0 := by rw [pute, if_pos h]
    have e1 : putoff off n x = off := by rw [putoff, if_pos h]
    have e2 : putb off n x = le n.toNat x.toNat := by rw [putb, if_pos h]
    rw [e, e1, e2]
    obtain ⟨h1, h2, h3, h4, h5⟩ := h
    obtain ⟨x, rfl⟩ := Int.eq_ofNat_of_zero_le h4
    obtain ⟨n, rfl⟩ := Int.eq_ofNat_of_zero_le (show 0 ≤ n by omega)
    exact rput_ok off n x h1 h2 h3 (by apply Int.ofNat_lt.1; rw [Int.natCast_pow]; exact h5) w
  · have e : pute off n x = 1 := by rw [pute, if_neg h]
    have e1 : putoff off n x = 0 := by rw [putoff, if_neg h]
    have e2 : putb off n x = [] := by rw [putb, if_neg h]
    rw [e, e1, e2]
    exact rput_no off n x h w

theorem put_258 (w : World) : Calls Try.prog 79 #[.int .i64 3, .int .i64 2, .int .i64 258] w fun e w' => e = .returned (.tuple #[.agg #[.int .i64 3, .string ⟨#[2, 1]⟩], .int .i64 0]) ∧ Below w.heap.size w w' := by
  have h := put_any 3 2 258 w
  rw [show pute 3 2 258 = 0 by decide, show putoff 3 2 258 = 3 by decide, show putb 3 2 258 = [2, 1] by decide] at h
  exact h

theorem blank_len (w : World) : Calls Try.prog 74 #[] w fun e w' => (∃ s : ByteArray, e = .returned (.string s) ∧ s.size = 64) ∧ Below w.heap.size w w' :=
  (blank_any w).mono fun e w' ⟨he, hb⟩ => ⟨⟨_, he, by decide⟩, hb⟩

end Cw
