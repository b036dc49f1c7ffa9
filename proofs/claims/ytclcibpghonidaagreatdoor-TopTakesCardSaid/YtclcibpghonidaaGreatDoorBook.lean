/- Slices of integers lent, kept and spoilt; things that a method reads besides. -/
import Derived.Test.YtclcibpghonidaaGreatDoorSlV
import Derived.Test.YtclcibpghonidaaGreatDoorVcAb
namespace Cw
open Go Vc
open Go.Proofs
set_option maxRecDepth 100000
/-- A part of a row of one's own, from its beginning on. -/
theorem SlR.sub {H : HL} {k : Nat} {b : Bool} {T : TypeId} {n s m : Nat} {xs ys : List Value} (hk : lookH H k = some (b, .own T s n xs)) (hm : m ≤ n) (hy : xs.take (m * s) = ys) : SlR H (.c (.sub k 0 0 m)) m s ys := by
  subst hy
  intro e w M
  obtain ⟨⟨hown, hfp⟩, hlt⟩ := M.ob k b _ hk
  have hl : (xs.take (m * s)).length = m * s := by
    rw [List.length_take, hown.1]
    exact Nat.min_eq_left (Nat.mul_le_mul_right s hm)
  rcases hown.2 with ⟨hv, hz⟩ | ⟨g, cap, cur, hv, _, hb, hn, hcm, hs, ht⟩
  · have : m = 0 := by omega
    subst this
    refine ⟨none, 0, by simp [TV.den, CV.den, hv], ⟨by simp, Nat.le_refl _, by decide, fun _ => rfl, fun j u hu => by simp at hu⟩, fun a ha => by cases ha⟩
  · refine ⟨some ⟨g, 0, none⟩, cap, ?_, ⟨hl, by omega, hcm, fun h => (by cases h), fun j u hu => ⟨_, rfl, ?_⟩⟩, fun a ha _ => ?_⟩
    · simp only [TV.den, CV.den, hv]
      split <;> simp [lit_add]
    · refine hown.cells (g := g) (by rw [hv]; rfl) j u ?_
      rw [List.getElem?_take] at hu
      split at hu
      · exact hu
      · cases hu
    · cases ha
      exact (Array.getElem?_eq_some_iff.1 hb).1
theorem ivs_one (l : List Int) : ∀ u ∈ ivs l, u.oneCell' = true := by
  intro u hu
  simp only [ivs, List.mem_map] at hu
  obtain ⟨x, _, rfl⟩ := hu
  rfl
/-- A slice that may be read beside the thing d. -/
def SlQ (H : HL) (v : TV) (n s : Nat) (xs : List Value) (d : Nat) : Prop := ∀ e w, MemOk H e w → ∃ A c, v.den e = .slice A n c ∧ Vc.Rds w A n c s xs ∧ ∀ a, A = some a → 0 < xs.length → a.block < w.heap.size ∧ ¬ e.fp d a.block
theorem SlQ.own {H : HL} {k d : Nat} {b : Bool} {T : TypeId} {n s : Nat} {xs : List Value} {o : Ob} (hk : lookH H k = some (b, .own T s n xs)) (hd : lookH H d = some (true, o)) (h : d ≠ k) : SlQ H (.c (.nm k)) n s xs d := by
  intro e w M
  obtain ⟨⟨hown, hfp⟩, hlt⟩ := M.ob k b _ hk
  have hob : (Ob.rd s n xs).holds (e.ren []) k w := Ob.eqs_ok (o := .own T s n xs) (ρ := []) (by repeat' (first | exact trivial | exact rfl | refine And.intro ?_ ?_)) ⟨hown, hfp⟩
  obtain ⟨A1, c1, q1, q2, q3⟩ := hob
  exact ⟨A1, c1, q1, q2, fun a ha h0 => ⟨hlt _ (q3 a ha h0), fun hg => M.dj d _ k _ _ hd hk h _ hg (q3 a ha h0)⟩⟩
theorem SlQ.rd {H : HL} {k d : Nat} {b : Bool} {n s : Nat} {xs : List Value} {o : Ob} (hk : lookH H k = some (b, .rd s n xs)) (hd : lookH H d = some (true, o)) (h : d ≠ k) : SlQ H (.c (.nm k)) n s xs d := by
  intro e w M
  obtain ⟨⟨A1, c1, q1, q2, q3⟩, hlt⟩ := M.ob k b _ hk
  exact ⟨A1, c1, q1, q2, fun a ha h0 => ⟨hlt _ (q3 a ha h0), fun hg => M.dj d _ k _ _ hd hk h _ hg (q3 a ha h0)⟩⟩
theorem SlQ.nil {H : HL} {s d : Nat} : SlQ H (.c .nsl) 0 s [] d := fun e w _ => ⟨none, 0, rfl, ⟨by simp, by decide, by decide, fun _ => rfl, fun j u hu => by simp at hu⟩, fun a ha => (by cases ha)⟩
theorem SlQ.sub {H : HL} {k d : Nat} {b : Bool} {T : TypeId} {n s m : Nat} {xs ys : List Value} {o : Ob} (hk : lookH H k = some (b, .own T s n xs)) (hm : m ≤ n) (hy : xs.take (m * s) = ys) (hd : lookH H d = some (true, o)) (h : d ≠ k) : SlQ H (.c (.sub k 0 0 m)) m s ys d := by
  intro e w M
  obtain ⟨A, c, q1, q2, q3⟩ := SlR.sub hk hm hy e w M
  obtain ⟨⟨hown, hfp⟩, hlt⟩ := M.ob k b _ hk
  refine ⟨A, c, q1, q2, fun a ha h0 => ⟨q3 a ha h0, fun hg => M.dj d _ k _ _ hd hk h _ hg ?_⟩⟩
  rw [hfp]
  rcases hown.2 with ⟨hv, hz⟩ | ⟨g, cap, cur, hv, _⟩
  · exfalso
    have : m = 0 := by omega
    subst this
    rw [← hy] at h0
    simp at h0
  · rw [hv]
    simp only [TV.den, CV.den, hv] at q1
    have hA : A = some ⟨g, 0, none⟩ := by
      split at q1
      · cases q1; rfl
      · simp [lit_add] at q1; exact q1.1.symm
    rw [hA] at ha
    cases ha
    rfl
theorem SlQ.cons {H : HL} {u : TV} {n s d : Nat} {xs : List Value} {φ ψ : AbP} (h : SlQ H u n s xs d) (hd : lookH H d = some (true, .ab φ)) (hs : stable φ) (hp : ∀ v F w, ψ v F w → φ v F w) : SlQ ((d, some (true, .ab ψ)) :: H) u n s xs d := by
  intro e w M
  have key : ∀ {q : Nat} {z : Bool × Ob}, lookH H q = some z → ∃ o', lookH ((d, some (true, .ab ψ)) :: H) q = some (z.1, o') ∧ (q ≠ d → o' = z.2) := by
    intro q z hq
    rw [lookH_cons]
    by_cases he : q = d
    · subst he
      rw [hd] at hq
      cases hq
      rw [if_pos rfl]
      exact ⟨_, rfl, fun h => (h rfl).elim⟩
    · rw [if_neg he]
      exact ⟨z.2, hq, fun _ => rfl⟩
  refine h e w ⟨fun q b o hq => ?_, fun q o m c o' hq hm hne => ?_⟩
  · by_cases he : q = d
    · subst he
      rw [hd] at hq
      cases hq
      obtain ⟨⟨h1, _⟩, h2⟩ := M.ob q true (.ab ψ) (by rw [lookH_cons, if_pos rfl])
      exact ⟨⟨hp _ _ _ h1, hs⟩, h2⟩
    · exact M.ob q b o (by rw [lookH_cons, if_neg he]; exact hq)
  · obtain ⟨o1, h1, _⟩ := key hq
    obtain ⟨o2, h2, _⟩ := key hm
    exact M.dj q o1 m c o2 h1 h2 hne
end Cw
