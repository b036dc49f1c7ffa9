/- book.Among, walked by reckoning. -/
import Derived.Test.YtjnbdhgkoolhnaaGreatSlV
namespace Cw
open Go Vc
open Go.Proofs
set_option maxRecDepth 100000
theorem amongEq (x n : Int) : (x.tmod n + n) % n = x % n := by
  rw [Int.add_emod_right, Int.tmod_def, Int.sub_mul_emod_self_left]
theorem amV (x n : Int) (h0 : 0 < n) (h1 : n ≤ 1000000000) : Fn0 Tryz.prog 17 [.c (iT x), .c (iT n)] (.t (.c (iT (x % n)))) := by
  have ha := amongEq x n
  have hl := Int.lt_tmod_of_pos x h0
  have hu := Int.tmod_lt_of_pos x h0
  have w1 : IntKind.i64.wrap (x.tmod n) = x.tmod n := wrap_sm (by omega) (by omega)
  have w2 : IntKind.i64.wrap (x.tmod n + n) = x.tmod n + n := wrap_sm (by omega) (by omega)
  have w3 : (x.tmod n + n).tmod n = x % n := by rw [Int.tmod_eq_emod_of_nonneg (by omega), ha]
  have w4 : IntKind.i64.wrap (x % n) = x % n := wrap_sm (by have := Int.emod_nonneg x (show n ≠ 0 by omega); omega) (by have := Int.emod_lt_of_pos x h0; omega)
  refine fn0 (fn := Tryz.f17) 12 rfl rfl rfl rfl rfl fun w => ?_
  refine rn [] rfl ?_ ?_
  · (repeat' (first | exact trivial | exact rfl | exact trivial | exact fun _ => trivial | (simp; omega) | refine And.intro ?_ ?_))
  · refine ret0 tysOk rfl ?_ rfl
    repeat' (first | exact trivial | exact rfl | refine And.intro ?_ ?_)
    simp only [w1, w2, w3, w4]
/-- Three slices, under the names 0, 1, 2. -/
theorem memr3 {w : World} {A1 A2 A3 : Option Addr} {n1 c1 s1 n2 c2 s2 n3 c3 s3 : Nat} {xs1 xs2 xs3 : List Value} (a2 : Vc.Rds w A1 n1 c1 s1 xs1) (b2 : Vc.Rds w A2 n2 c2 s2 xs2) (d2 : Vc.Rds w A3 n3 c3 s3 xs3) :
    ∃ e : Env, MemOk [(0, some (false, .rd s1 n1 xs1)), (1, some (false, .rd s2 n2 xs2)), (2, some (false, .rd s3 n3 xs3))] e w ∧ e.val 0 = .slice A1 n1 c1 ∧ e.val 1 = .slice A2 n2 c2 ∧ e.val 2 = .slice A3 n3 c3 := by
  refine ⟨⟨fun _ => 0, fun m => if m = 0 then .slice A1 n1 c1 else if m = 1 then .slice A2 n2 c2 else .slice A3 n3 c3, fun m g => if m = 0 then ∃ a, A1 = some a ∧ 0 < xs1.length ∧ g = a.block else if m = 1 then ∃ a, A2 = some a ∧ 0 < xs2.length ∧ g = a.block else ∃ a, A3 = some a ∧ 0 < xs3.length ∧ g = a.block, fun m => by
      show (if m = 0 then Value.slice A1 n1 c1 else if m = 1 then .slice A2 n2 c2 else .slice A3 n3 c3).oneCell' = true
      split
      · rfl
      · split <;> rfl⟩, ⟨fun n b o h => ?_, fun n o m c q h => ?_⟩, rfl, rfl, rfl⟩
  · rw [lookH_cons] at h
    split at h
    · rename_i hn
      cases h
      subst hn
      exact ⟨⟨A1, c1, rfl, a2, fun a ha h0 => ⟨a, ha, h0, rfl⟩⟩, fun g ⟨a, ha, h0, hg⟩ => hg ▸ rds_lt a2 a ha h0⟩
    · rw [lookH_cons] at h
      split at h
      · rename_i hn
        cases h
        subst hn
        exact ⟨⟨A2, c2, rfl, b2, fun a ha h0 => ⟨a, ha, h0, rfl⟩⟩, fun g ⟨a, ha, h0, hg⟩ => hg ▸ rds_lt b2 a ha h0⟩
      · rw [lookH_cons] at h
        split at h
        · rename_i hn
          cases h
          subst hn
          exact ⟨⟨A3, c3, rfl, d2, fun a ha h0 => ⟨a, ha, h0, rfl⟩⟩, fun g ⟨a, ha, h0, hg⟩ => hg ▸ rds_lt d2 a ha h0⟩
        · cases h
  · rw [lookH_cons] at h
    split at h
    · cases h
    · rw [lookH_cons] at h
      split at h
      · cases h
      · rw [lookH_cons] at h
        split at h
        · cases h
        · cases h
theorem slr3 {H : HL} {v1 v2 v3 : TV} {n1 n2 n3 s1 s2 s3 : Nat} {xs1 xs2 xs3 : List Value} (ha : SlR H v1 n1 s1 xs1) (hb : SlR H v2 n2 s2 xs2) (hd : SlR H v3 n3 s3 xs3) : ∀ e w, MemOk H e w → ∃ e', Mem (fun _ => False) [(0, some (false, .rd s1 n1 xs1)), (1, some (false, .rd s2 n2 xs2)), (2, some (false, .rd s3 n3 xs3))] e' w ∧ v1.den e = (TV.c (.nm 0)).den e' ∧ v2.den e = (TV.c (.nm 1)).den e' ∧ v3.den e = (TV.c (.nm 2)).den e' := by
  intro e w M
  obtain ⟨A1, c1, a1, a2, a3⟩ := ha e w M
  obtain ⟨A2, c2, b1, b2, b3⟩ := hb e w M
  obtain ⟨A3, c3, d1, d2, d3⟩ := hd e w M
  obtain ⟨e', M', v0, v1, v2⟩ := memr3 a2 b2 d2
  refine ⟨e', ⟨fun n b o h => ⟨(M'.ob n b o h).1, fun g hg => ⟨(M'.ob n b o h).2 g hg, fun hw => ?_⟩⟩, M'.dj⟩, a1.trans v0.symm, b1.trans v1.symm, d1.trans v2.symm⟩
  rw [lookH_cons] at h
  split at h
  · cases h; cases hw
  · rw [lookH_cons] at h
    split at h
    · cases h; cases hw
    · rw [lookH_cons] at h
      split at h
      · cases h; cases hw
      · cases h
end Cw
