/- Slices that come in, for the walk by reckoning; lists of texts that are the same. -/
import Derived.Test.YtclcibpghonidaaGreatDoorVcRun
namespace Cw
open Go Vc
open Go.Proofs
set_option maxRecDepth 100000
/-- A value is a slice of so many elements, of these cells, that may be read. -/
def SlR (H : HL) (v : TV) (n s : Nat) (xs : List Value) : Prop := ∀ e w, MemOk H e w → ∃ A c, v.den e = .slice A n c ∧ Vc.Rds w A n c s xs ∧ ∀ a, A = some a → 0 < xs.length → a.block < w.heap.size
theorem SlR.own {H : HL} {k : Nat} {b : Bool} {T : TypeId} {n s : Nat} {xs : List Value} (hk : lookH H k = some (b, .own T s n xs)) : SlR H (.c (.nm k)) n s xs := by
  intro e w M
  obtain ⟨⟨hown, hfp⟩, hlt⟩ := M.ob k b _ hk
  have hob : (Ob.rd s n xs).holds (e.ren []) k w := Ob.eqs_ok (o := .own T s n xs) (ρ := []) (by repeat' (first | exact trivial | exact rfl | refine And.intro ?_ ?_)) ⟨hown, hfp⟩
  obtain ⟨A1, c1, q1, q2, q3⟩ := hob
  exact ⟨A1, c1, q1, q2, fun a ha h0 => hlt _ (q3 a ha h0)⟩
theorem SlR.rd {H : HL} {k : Nat} {b : Bool} {n s : Nat} {xs : List Value} (hk : lookH H k = some (b, .rd s n xs)) : SlR H (.c (.nm k)) n s xs := by
  intro e w M
  obtain ⟨⟨A1, c1, q1, q2, q3⟩, hlt⟩ := M.ob k b _ hk
  exact ⟨A1, c1, q1, q2, fun a ha h0 => hlt _ (q3 a ha h0)⟩
theorem SlR.nil {H : HL} {s : Nat} : SlR H (.c .nsl) 0 s [] := fun e w _ => ⟨none, 0, rfl, ⟨by simp, by decide, by decide, fun _ => rfl, fun j u hu => by simp at hu⟩, fun a ha => (by cases ha)⟩
/-- One slice, under the name 0. -/
theorem slr1 {H : HL} {v : TV} {n s : Nat} {xs : List Value} (h : SlR H v n s xs) : ∀ e w, MemOk H e w → ∃ e', Mem (fun _ => False) [(0, some (false, .rd s n xs))] e' w ∧ v.den e = (TV.c (.nm 0)).den e' := by
  intro e w M
  obtain ⟨A, c, h1, h2, h3⟩ := h e w M
  refine ⟨⟨e.blk, fun _ => .slice A n c, fun _ g => ∃ a, A = some a ∧ 0 < xs.length ∧ g = a.block, fun _ => rfl⟩, ⟨fun m b o hm => ?_, fun m o k c' q hm hk => ?_⟩, h1⟩
  · rw [lookH_cons] at hm
    split at hm
    · cases hm
      exact ⟨⟨A, c, rfl, h2, fun a ha h0 => ⟨a, ha, h0, rfl⟩⟩, fun g ⟨a, ha, h0, hg⟩ => ⟨hg ▸ h3 a ha h0, fun h => by cases h⟩⟩
    · cases hm
  · rw [lookH_cons] at hm
    split at hm
    · cases hm
    · cases hm
theorem wrap_sm {x : Int} (h0 : -1000000000000000 ≤ x) (h1 : x ≤ 1000000000000000) : IntKind.i64.wrap x = x := by rw [IntKind.wrap_i64]; omega
def svs (l : List ByteArray) : List Value := l.map Value.string
theorem svs_length (l : List ByteArray) : (svs l).length = l.length := by simp [svs]
theorem svs_one (l : List ByteArray) : ∀ u ∈ svs l, u.oneCell' = true := by
  intro u hu
  simp only [svs, List.mem_map] at hu
  obtain ⟨x, _, rfl⟩ := hu
  rfl
theorem svs_at {l : List ByteArray} {k : Nat} (h : k < l.length) : (svs l)[k]? = some (.string l[k]) := by simp [svs, h]
theorem rds_lt {w : World} {A : Option Addr} {n c s : Nat} {xs : List Value} (h : Vc.Rds w A n c s xs) : ∀ a, A = some a → 0 < xs.length → a.block < w.heap.size := by
  intro a ha h0
  obtain ⟨u, hu⟩ : ∃ u, xs[0]? = some u := ⟨_, List.getElem?_eq_getElem h0⟩
  obtain ⟨a', ha', hc⟩ := h.2.2.2.2 0 u hu
  rw [ha] at ha'
  cases ha'
  rcases Nat.lt_or_ge (a.add 0).block w.heap.size with h1 | h1
  · rwa [addr_blk] at h1
  · unfold World.cell? at hc
    rw [Array.getElem?_eq_none h1] at hc
    cases hc
theorem memr2 {w : World} {A1 A2 : Option Addr} {n1 c1 s1 n2 c2 s2 : Nat} {xs1 xs2 : List Value} (a2 : Vc.Rds w A1 n1 c1 s1 xs1) (b2 : Vc.Rds w A2 n2 c2 s2 xs2) :
    ∃ e : Env, MemOk [(0, some (false, .rd s1 n1 xs1)), (1, some (false, .rd s2 n2 xs2))] e w ∧ e.val 0 = .slice A1 n1 c1 ∧ e.val 1 = .slice A2 n2 c2 := by
  refine ⟨⟨fun _ => 0, fun m => if m = 0 then .slice A1 n1 c1 else .slice A2 n2 c2, fun m g => if m = 0 then ∃ a, A1 = some a ∧ 0 < xs1.length ∧ g = a.block else ∃ a, A2 = some a ∧ 0 < xs2.length ∧ g = a.block, fun m => by
      show (if m = 0 then Value.slice A1 n1 c1 else .slice A2 n2 c2).oneCell' = true
      split <;> rfl⟩, ⟨fun n b o h => ?_, fun n o m c q h => ?_⟩, rfl, rfl⟩
  · rw [lookH_cons] at h
    split at h
    · rename_i hn
      cases h
      subst hn
      exact ⟨⟨A1, c1, rfl, a2, fun a ha h0 => ⟨a, ha, h0, rfl⟩⟩, fun g ⟨a, ha, h0, hg⟩ => hg ▸ rds_lt a2 a ha h0⟩
    · rw [lookH_cons] at h
      split at h
      · rename_i hn
        cases h
        subst hn
        exact ⟨⟨A2, c2, rfl, b2, fun a ha h0 => ⟨a, ha, h0, rfl⟩⟩, fun g ⟨a, ha, h0, hg⟩ => hg ▸ rds_lt b2 a ha h0⟩
      · cases h
  · rw [lookH_cons] at h
    split at h
    · cases h
    · rw [lookH_cons] at h
      split at h
      · cases h
      · cases h
/-- A law that is true, called with values. -/
theorem fnh_law {f : FuncId} {args : List TV} {H : HL} {nx : Nat} (h : FnH Tryz.prog f args H nx ⟨.t (.c (.b true)), [], [], []⟩) (hW : wfH nx H = true) (hA : args.all (fun v => ltAll nx v.ns) = true) {e : Env} {w : World} (M : MemOk H e w) :
    Calls Tryz.prog f (args.map (TV.den e)).toArray w fun en w' => en = .returned (.bool true) ∧ RowKit.Below w.heap.size w w' := by
  refine Calls.mono (h.h (wfH_ok hW) (fun v hv => ltAll_mem (List.all_eq_true.1 hA v hv)) e w M) ?_
  rintro en w' ⟨e', rfl, M'⟩
  exact ⟨rfl, ⟨M'.os, M'.tape, M'.out, M'.size, fun g hg => M'.block g hg fun n o ho => by cases ho⟩⟩
end Cw
