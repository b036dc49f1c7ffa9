/- Slices of integers lent, kept and spoilt; whether a number is among some. -/
import Derived.Test.YtmhbblieldglmaaSrtH
namespace Cw
open Go Vc
open Go.Proofs
set_option maxRecDepth 100000
/-- A part of a row of one's own, from its beginning on. -/
theorem SlR.sub {H : HL} {k : Nat} {b : Bool} {T : TypeId} {n s m : Nat} {xs ys : List Value} (hk : lookH H k = some (b, .own T s n xs)) (hm : m ≤ n) (hy : xs.take (m * s) = ys) : SlR H (.c (.sub k 0 0 m)) m s ys := by
  subst hy
  intro e w M
  obtain ⟨⟨hown, hfp⟩, hlt⟩ := M.ob k b _ hk
  have hl : (xs.take (m * s)).length = m * s := by
    rw [List.length_take, hown.1]
    exact Nat.min_eq_left (Nat.mul_le_mul_right s hm)
  rcases hown.2 with ⟨hv, hz⟩ | ⟨g, cap, cur, hv, _, hb, hn, hcm, hs, ht⟩
  · have : m = 0 := by omega
    subst this
    refine ⟨none, 0, by simp [TV.den, CV.den, hv], ⟨by simp, Nat.le_refl _, by decide, fun _ => rfl, fun j u hu => by simp at hu⟩, fun a ha => by cases ha⟩
  · refine ⟨some ⟨g, 0, none⟩, cap, ?_, ⟨hl, by omega, hcm, fun h => (by cases h), fun j u hu => ⟨_, rfl, ?_⟩⟩, fun a ha _ => ?_⟩
    · simp only [TV.den, CV.den, hv]
      split <;> simp [lit_add]
    · refine hown.cells (g := g) (by rw [hv]; rfl) j u ?_
      rw [List.getElem?_take] at hu
      split at hu
      · exact hu
      · cases hu
    · cases ha
      exact (Array.getElem?_eq_some_iff.1 hb).1
theorem ivs_one (l : List Int) : ∀ u ∈ ivs l, u.oneCell' = true := by
  intro u hu
  simp only [ivs, List.mem_map] at hu
  obtain ⟨x, _, rfl⟩ := hu
  rfl
theorem ivs_append (a b : List Int) : ivs (a ++ b) = ivs a ++ ivs b := by simp [ivs]
theorem ivs_take (a : List Int) (n : Nat) : ivs (a.take n) = (ivs a).take n := by simp [ivs]
theorem lendI_h {v : TV} {zs : List Int} {H : HL} {nx : Nat} (hs : SlR H v zs.length 1 (ivs zs)) (z : zs.length ≤ 17592186043904) :
    FnH Try.prog 6 [v] H nx ⟨.t (.c (.sub nx 0 0 zs.length)), [(true, .own 3 1 (zs.length + 1) (ivs (zs ++ [-77])))], [], []⟩ := by
  refine fnN (fn := Try.f6) 14 rfl rfl rfl (args' := [.c (.nm 0)]) (H' := [(0, some (false, .rd 1 zs.length (ivs zs)))]) (nx' := 1) (fun e w M => ?_) rfl rfl rfl (inR_one nx) rfl fun w => ?_
  · obtain ⟨e', M', q1⟩ := slr1 hs e w M
    exact ⟨e', M', by simp [q1]⟩
  refine rn [(4, .dec true)] rfl (by (repeat' (first | exact trivial | exact rfl | exact trivial | exact fun _ => trivial | first | exact ivs_one zs | decide | (simp [maxLen]; omega) | omega | refine And.intro ?_ ?_))) ?_
  exact retN tysOk [(nx, 4)] rfl (by simp only [retS, SV.eqs, eqsT, TV.eqs, CV.eqs, ren_one]; repeat' (first | exact trivial | exact rfl | refine And.intro ?_ ?_)) (by simp only [newsH, subH, ren_one]; (repeat' (first | exact trivial | exact rfl | exact trivial | exact fun _ => trivial | first | omega | simp [app_eq, ivs] | refine And.intro ?_ ?_))) (by simp [injK, keysH, newsH, inL]) rfl
/-- The row behind a part that was lent. -/
theorem slrest {H : HL} {k : Nat} {b : Bool} {n : Nat} {xs : List Value} (hk : lookH H k = some (b, .own 3 1 n xs)) : ∀ e w, MemOk H e w → Mem (fun _ => False) [(0, some (false, .own 3 1 n xs))] (e.ren [(0, k)]) w := fun e w M => mem_one hk M (by repeat' (first | exact trivial | exact rfl | refine And.intro ?_ ?_))
/-- One row of its own, told by a part, and a slice. -/
theorem slown {H : HL} {k : Nat} {b : Bool} {T : TypeId} {n m s2 n2 : Nat} {v2 : TV} {xs xs2 : List Value} (hk : lookH H k = some (b, .own T 1 n xs)) (hb : SlR H v2 n2 s2 xs2) :
    ∀ e w, MemOk H e w → ∃ e', Mem (fun _ => False) [(0, some (false, .own T 1 n xs)), (1, some (false, .rd s2 n2 xs2))] e' w ∧ (CV.sub k 0 0 m).den e = (CV.sub 0 0 0 m).den e' ∧ v2.den e = (TV.c (.nm 1)).den e' := by
  intro e w M
  obtain ⟨A2, c2, b1, b2, b3⟩ := hb e w M
  obtain ⟨⟨hown, hfp⟩, hlt⟩ := M.ob k b _ hk
  refine ⟨⟨e.blk, fun q => if q = 0 then e.val k else .slice A2 n2 c2, fun q g => if q = 0 then e.fp k g else ∃ a, A2 = some a ∧ 0 < xs2.length ∧ g = a.block, fun q => by
      show (if q = 0 then e.val k else .slice A2 n2 c2).oneCell' = true
      split
      · exact e.one k
      · rfl⟩, ⟨fun q b' o h => ?_, fun q o m' c q' h => ?_⟩, rfl, b1⟩
  · rw [lookH_cons] at h
    split at h
    · rename_i hn
      cases h
      subst hn
      exact ⟨⟨hown, hfp⟩, fun g hg => ⟨hlt g hg, fun h => by cases h⟩⟩
    · rw [lookH_cons] at h
      split at h
      · rename_i hn
        cases h
        subst hn
        exact ⟨⟨A2, c2, rfl, b2, fun a ha h0 => ⟨a, ha, h0, rfl⟩⟩, fun g ⟨a, ha, h0, hg⟩ => ⟨hg ▸ b3 a ha h0, fun h => by cases h⟩⟩
      · cases h
  · rw [lookH_cons] at h
    split at h
    · cases h
    · rw [lookH_cons] at h
      split at h
      · cases h
      · cases h
theorem keptI_h {k : Nat} {b : Bool} {v : TV} {zs : List Int} {H : HL} {nx : Nat} (hk : lookH H k = some (b, .own 3 1 (zs.length + 1) (ivs (zs ++ [-77])))) (hs : SlR H v zs.length 1 (ivs zs)) (z : zs.length ≤ 17592186043904) :
    FnH Try.prog 11 [.c (.sub k 0 0 zs.length), v] H nx ⟨.t (.c (.b true)), [], [], []⟩ := by
  refine fnR (fn := Try.f11) 20 rfl rfl rfl (args' := [.c (.sub 0 0 0 zs.length), .c (.nm 1)]) (H' := [(0, some (false, .own 3 1 (zs.length + 1) (ivs (zs ++ [-77])))), (1, some (false, .rd 1 zs.length (ivs zs)))]) (nx' := 2) (fun e w M => ?_) rfl rfl rfl rfl fun w => ?_
  · obtain ⟨e', M', q1, q2⟩ := slown (m := zs.length) hk hs e w M
    exact ⟨e', M', by simp only [List.map_cons, List.map_nil, q2]; rw [show (TV.c (CV.sub k 0 0 zs.length)).den e = (TV.c (CV.sub 0 0 0 zs.length)).den e' from q1]⟩
  have w1 : IntKind.i64.wrap ((zs.length : Int) + 1) = ((zs.length + 1 : Nat) : Int) := by rw [wrap_sm (by omega) (by omega)]; omega
  have hS : FnH Try.prog 9 [.c (.sub 0 0 0 zs.length), .c (.nm 1)] [(0, some (false, .own 3 1 (zs.length + 1) (ivs (zs ++ [-77])))), (1, some (false, .rd 1 zs.length (ivs zs)))] 2 ⟨.t (.c (.b (decide (zs = zs)))), [], [], []⟩ :=
    sameInts_h (l1 := zs) (l2 := zs) (SlR.sub rfl (Nat.le_succ _) (by simp [ivs])) (SlR.rd rfl) (by omega)
  rw [decide_eq_true rfl] at hS
  have e1 : (ivs (zs ++ [-77]))[0 + (zs.length : Int).toNat * 1]? = some (.int .i64 (-77)) := by simp [ivs]
  refine rn [(7, .spec ⟨.t (.c (.b true)), [], [], []⟩), (17, .ld [iT (-77)])] rfl ?_ ?_
  · repeat' (first | exact trivial | exact rfl | exact hS | exact fun _ => ⟨e1, trivial⟩ | exact fun _ => rfl | exact fun _ => Nat.one_pos | (intro _; rw [w1]; first | exact ⟨by omega, by omega⟩ | omega) | refine And.intro ?_ ?_)
  · exact ret0 tysOk rfl (by repeat' (first | exact trivial | exact rfl | refine And.intro ?_ ?_)) rfl
end Cw
