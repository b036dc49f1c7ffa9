/- The cache told by its sectors in the order of their use, whatever the map's order and the clock. -/
import Derived.Test.YtaopblgnaoojkaaCach4
namespace Vc
theorem FnH.weak1 {P : Go.Program} {f : Go.FuncId} {args : List TV} {H : HL} {nx d : Nat} {v : SV} {news : List (Bool × Ob)} {φ φ' : AbP} {obs : List Prop} (h : FnH P f args H nx ⟨v, news, [(d, some (.ab φ))], obs⟩) (hs : stable φ') (hp : ∀ v F w, φ v F w → φ' v F w) : FnH P f args H nx ⟨v, news, [(d, some (.ab φ'))], obs⟩ :=
  ⟨fun a b e w M => Go.Calls.mono (h.h a b e w M) fun _ _ ⟨e', h1, h2⟩ => ⟨e', h1, h2.weak1 hs hp⟩⟩
end Vc
namespace Cw
open Go Vc
open Go.Proofs
set_option maxRecDepth 100000
section
variable {α : Type}
theorem gdel_filter {k : Int} : ∀ {M : List (Int × α)}, (M.map Prod.fst).Nodup → gdel k M = M.filter fun p => p.1 != k
  | [], _ => rfl
  | p :: l, hn => by
    have hn' : p.1 ∉ l.map Prod.fst ∧ (l.map Prod.fst).Nodup := List.nodup_cons.1 hn
    unfold gdel
    by_cases hp : p.1 = k
    · rw [if_pos hp, List.filter_cons_of_neg (by simp [hp])]
      refine (List.filter_eq_self.2 fun q hq => ?_).symm
      simp only [bne_iff_ne, ne_eq]
      intro h
      exact hn'.1 (by rw [hp, ← h]; exact List.mem_map.2 ⟨q, hq, rfl⟩)
    · rw [if_neg hp, List.filter_cons_of_pos (by simp [hp]), gdel_filter hn'.2]
theorem perm_nd {M N : List (Int × α)} (h : M.Perm N) : (M.map Prod.fst).Nodup ↔ (N.map Prod.fst).Nodup := (h.map Prod.fst).nodup_iff
theorem gdel_perm {M N : List (Int × α)} (h : M.Perm N) (hn : (M.map Prod.fst).Nodup) (k : Int) : (gdel k M).Perm (gdel k N) := by
  rw [gdel_filter hn, gdel_filter ((perm_nd h).1 hn)]
  exact h.filter _
theorem gget_perm {M N : List (Int × α)} (h : M.Perm N) (hn : (M.map Prod.fst).Nodup) (k : Int) : gget k M = gget k N := by
  cases hm : gget k M with
  | none =>
    refine (gget_none fun p hp he => ?_).symm
    have := gget_nd (k := p.1) (x := p.2) hn (h.mem_iff.2 hp)
    rw [he, hm] at this
    cases this
  | some x => exact (gget_nd ((perm_nd h).1 hn) (h.mem_iff.1 (gget_mem hm))).symm
theorem gset_perm {k : Int} {y x : α} : ∀ {M : List (Int × α)}, gget k M = some x → (gset k y M).Perm ((k, y) :: gdel k M)
  | [], h => by cases h
  | p :: l, h => by
    unfold gget at h
    unfold gdel gset
    split at h
    · rename_i hp
      rw [if_pos hp, if_pos hp]
    · rename_i hp
      rw [if_neg hp, if_neg hp]
      exact ((gset_perm h).cons p).trans (List.Perm.swap _ _ _)
theorem gdel_sub (k : Int) : ∀ (M : List (Int × α)), (gdel k M).Sublist M
  | [] => List.Sublist.refl _
  | p :: l => by
    unfold gdel
    split
    · exact List.sublist_cons_self _ _
    · exact (gdel_sub k l).cons_cons p
theorem gset_mem {k : Int} {y : α} {p : Int × α} : ∀ {M : List (Int × α)}, p ∈ gset k y M → p = (k, y) ∨ p ∈ M
  | [], h => by cases h
  | q :: l, h => by
    unfold gset at h
    split at h
    · rcases List.mem_cons.1 h with h | h
      · exact .inl h
      · exact .inr (by simp [h])
    · rcases List.mem_cons.1 h with h | h
      · exact .inr (by simp [h])
      · exact (gset_mem h).imp id fun h => by simp [h]
theorem gget_no {k : Int} : ∀ {M : List (Int × α)}, gget k M = none → ∀ p ∈ M, p.1 ≠ k
  | [], _, p, h => by cases h
  | q :: l, hg, p, h => by
    unfold gget at hg
    split at hg
    · cases hg
    · rename_i hq
      rcases List.mem_cons.1 h with rfl | h
      · exact hq
      · exact gget_no hg p h
theorem gdel_nd {k : Int} {M : List (Int × α)} (hn : (M.map Prod.fst).Nodup) : ((gdel k M).map Prod.fst).Nodup := hn.sublist gdel_fst
theorem gdel_nk {k : Int} {M : List (Int × α)} (hn : (M.map Prod.fst).Nodup) : ∀ p ∈ gdel k M, p.1 ≠ k := by
  intro p hp
  rw [gdel_filter hn, List.mem_filter] at hp
  simpa using hp.2
end
/-- What is told of a sector: its bytes, dirty, held. -/
structure Bd where
  s : ByteArray
  d : Bool
  h : Int
def sB (x : Bf) : Bd := ⟨x.s, x.d, x.h⟩
def sP (p : Int × Bf) : Int × Bd := (p.1, sB p.2)
theorem gget_cons {α : Type} {k : Int} {p : Int × α} {l : List (Int × α)} : gget k (p :: l) = if p.1 = k then some p.2 else gget k l := rfl
theorem gdel_cons {α : Type} {k : Int} {p : Int × α} {l : List (Int × α)} : gdel k (p :: l) = if p.1 = k then l else p :: gdel k l := rfl
theorem gset_cons {α : Type} {k : Int} {x : α} {p : Int × α} {l : List (Int × α)} : gset k x (p :: l) = if p.1 = k then (k, x) :: l else p :: gset k x l := rfl
theorem sP_get {k : Int} : ∀ {M : List (Int × Bf)}, gget k (M.map sP) = (gget k M).map sB
  | [] => rfl
  | p :: l => by
    rw [List.map_cons, gget_cons, gget_cons, sP_get]
    show (if p.1 = k then _ else _) = _
    split <;> rfl
theorem sP_del {k : Int} : ∀ {M : List (Int × Bf)}, gdel k (M.map sP) = (gdel k M).map sP
  | [] => rfl
  | p :: l => by
    rw [List.map_cons, gdel_cons, gdel_cons, sP_del]
    show (if p.1 = k then _ else _) = _
    split <;> rfl
theorem sP_set {k : Int} {y : Bf} : ∀ {M : List (Int × Bf)}, gset k (sB y) (M.map sP) = (gset k y M).map sP
  | [] => rfl
  | p :: l => by
    rw [List.map_cons, gset_cons, gset_cons, sP_set]
    show (if p.1 = k then _ else _) = _
    split <;> rfl
theorem gset_u {k : Int} {x y : Bf} (hy : y.u = x.u) : ∀ {M : List (Int × Bf)}, gget k M = some x → (gset k y M).map (fun p => p.2.u) = M.map fun p => p.2.u
  | [], h => by cases h
  | p :: l, h => by
    unfold gget at h
    unfold gset
    split at h
    · rename_i hp
      cases h
      rw [if_pos hp, List.map_cons, List.map_cons, hy]
    · rename_i hp
      rw [if_neg hp, List.map_cons, List.map_cons, gset_u hy h]
theorem sP_fst {M : List (Int × Bf)} : (M.map sP).map Prod.fst = M.map Prod.fst := by simp [sP]
/-- L in the order of use; the map's list, the clock. -/
structure CRel (L : List (Int × Bd)) (n ck : Int) (M : List (Int × Bf)) : Prop where
  ex : ∃ Lu : List (Int × Bf), Lu.map sP = L ∧ (Lu.map fun p => p.2.u).Pairwise (· < ·) ∧ (∀ p ∈ Lu, p.2.u ≤ ck) ∧ M.Perm Lu
  c0 : 0 ≤ ck ∧ ck ≤ n
/-- What may be of a cache, n acts after its beginning. -/
structure LOk (n room : Int) (L : List (Int × Bd)) : Prop where
  nd : (L.map Prod.fst).Nodup
  rg : ∀ p ∈ L, 0 ≤ p.1 ∧ p.1 < 2048
  len : (L.length : Int) ≤ room
  rm : 1 ≤ room ∧ room ≤ 256
  h : ∀ p ∈ L, 0 ≤ p.2.h ∧ p.2.h ≤ n
  n0 : 0 ≤ n
def bfr (x : Bd) : Bool := !x.d && x.h == 0
/-- The first that may go; -1: there is none. -/
def oldL (L : List (Int × Bd)) : Int := match L.find? fun p => bfr p.2 with
  | some p => p.1
  | none => -1
section
variable {L : List (Int × Bd)} {n ck room : Int} {M : List (Int × Bf)} {k : Int}
theorem CRel.nd (h : CRel L n ck M) (ok : LOk n room L) : (M.map Prod.fst).Nodup := by
  obtain ⟨Lu, h1, _, _, h4⟩ := h.ex
  rw [perm_nd h4, ← sP_fst, h1]
  exact ok.nd
theorem CRel.ndu {Lu : List (Int × Bf)} (h1 : Lu.map sP = L) (ok : LOk n room L) : (Lu.map Prod.fst).Nodup := by
  rw [← sP_fst, h1]
  exact ok.nd
theorem CRel.len (h : CRel L n ck M) : M.length = L.length := by
  obtain ⟨Lu, h1, _, _, h4⟩ := h.ex
  rw [h4.length_eq, ← h1, List.length_map]
theorem CRel.get (h : CRel L n ck M) (ok : LOk n room L) (k : Int) : gget k L = (gget k M).map sB := by
  obtain ⟨Lu, h1, _, _, h4⟩ := h.ex
  rw [gget_perm h4 (h.nd ok), ← h1, sP_get]
theorem CRel.none (h : CRel L n ck M) (ok : LOk n room L) (hg : gget k L = none) : gget k M = none := by
  have := h.get ok k
  rw [hg] at this
  cases hm : gget k M with
  | none => rfl
  | some x => rw [hm] at this; cases this
theorem CRel.some (h : CRel L n ck M) (ok : LOk n room L) {x : Bd} (hg : gget k L = some x) : ∃ u, gget k M = some ⟨x.s, x.d, x.h, u⟩ := by
  have := h.get ok k
  rw [hg] at this
  cases hm : gget k M with
  | none => rw [hm] at this; cases this
  | some y =>
    rw [hm] at this
    have he : x = sB y := Option.some.inj this
    subst he
    exact ⟨y.u, rfl⟩
theorem CRel.keys (h : CRel L n ck M) : (M.map Prod.fst).Perm (L.map Prod.fst) := by
  obtain ⟨Lu, h1, _, _, h4⟩ := h.ex
  rw [← h1, sP_fst]
  exact h4.map _
theorem CRel.pos (h : CRel L n ck M) (ok : LOk n room L) : ∀ p ∈ M, 0 ≤ p.1 := by
  intro p hp
  have : p.1 ∈ L.map Prod.fst := h.keys.mem_iff.1 (List.mem_map.2 ⟨p, hp, rfl⟩)
  obtain ⟨q, hq, he⟩ := List.mem_map.1 this
  rw [← he]
  exact (ok.rg q hq).1
theorem old_find {o : Int} {x : Bf} : ∀ {Lu : List (Int × Bf)}, (Lu.map fun p => p.2.u).Pairwise (· < ·) → (o, x) ∈ Lu → bfree x = true → (∀ p ∈ Lu, bfree p.2 = true → x.u ≤ p.2.u) → ∃ q, Lu.find? (fun p => bfree p.2) = some q ∧ q.1 = o
  | [], _, h, _, _ => by cases h
  | p :: l, hp, hm, hf, hu => by
    rw [List.map_cons, List.pairwise_cons] at hp
    by_cases hb : bfree p.2 = true
    · refine ⟨p, by simp [List.find?_cons, hb], ?_⟩
      rcases List.mem_cons.1 hm with h | h
      · rw [← h]
      · have h1 := hp.1 x.u (List.mem_map.2 ⟨_, h, rfl⟩)
        have h2 := hu p (by simp) hb
        omega
    · obtain ⟨q, h1, h2⟩ := old_find hp.2 (by
        rcases List.mem_cons.1 hm with h | h
        · rw [← h] at hb; exact (hb hf).elim
        · exact h) hf (fun q hq => hu q (by simp [hq]))
      exact ⟨q, by simp only [List.find?_cons, hb]; exact h1, h2⟩
theorem CRel.old (h : CRel L n ck M) : ∀ o', isOld (fun _ => True) M o' → o' = oldL L := by
  intro o' ho
  obtain ⟨Lu, h1, h2, h3, h4⟩ := h.ex
  have hfind : L.find? (fun p => bfr p.2) = (Lu.find? fun p => bfree p.2).map sP := by
    rw [← h1, List.find?_map]
    rfl
  rcases ho with ⟨g1, g2⟩ | ⟨x, g1, g2, _, g4⟩
  · have : Lu.find? (fun p => bfree p.2) = Option.none := by
      rw [List.find?_eq_none]
      intro p hp
      rw [g2 p (h4.mem_iff.2 hp) trivial]
      exact Bool.false_ne_true
    rw [oldL, hfind, this, g1]
    rfl
  · obtain ⟨q, e1, e2⟩ := old_find h2 (h4.mem_iff.1 g1) g2 fun p hp => g4 p (h4.mem_iff.2 hp) trivial
    rw [oldL, hfind, e1, ← e2]
    rfl
theorem CRel.up (h : CRel L n ck M) : CRel L (n + 1) ck M := ⟨h.ex, h.c0.1, by have := h.c0.2; omega⟩
/-- A sector is used anew. -/
theorem CRel.use (h : CRel L n ck M) (ok : LOk n room L) {x : Bf} (hg : gget k M = .some x) (y : Bf) (hy : y.u = ck + 1) : CRel (gdel k L ++ [(k, sB y)]) (n + 1) (ck + 1) (gset k y M) := by
  obtain ⟨Lu, h1, h2, h3, h4⟩ := h.ex
  refine ⟨⟨gdel k Lu ++ [(k, y)], by rw [List.map_append, ← sP_del, h1]; rfl, ?_, fun p hp => ?_, ?_⟩, by have := h.c0; omega⟩
  · rw [List.map_append, List.pairwise_append]
    refine ⟨h2.sublist ((gdel_sub k Lu).map _), by simp, fun a ha b hb => ?_⟩
    simp at hb
    obtain ⟨q, hq, rfl⟩ := List.mem_map.1 ha
    have := h3 q (gdel_mem hq)
    omega
  · rcases List.mem_append.1 hp with hp | hp
    · have := h3 p (gdel_mem hp); omega
    · simp at hp; subst hp; simp only; omega
  · refine (gset_perm hg).trans (((gdel_perm h4 (h.nd ok) k).cons _).trans ?_)
    exact List.perm_append_comm (l₁ := [(k, y)])
/-- A sector is told anew, used as it was. -/
theorem CRel.set (h : CRel L n ck M) (ok : LOk n room L) {x : Bf} (hg : gget k M = .some x) (y : Bf) (hy : y.u = x.u) : CRel (gset k (sB y) L) (n + 1) ck (gset k y M) := by
  obtain ⟨Lu, h1, h2, h3, h4⟩ := h.ex
  have hgu : gget k Lu = .some x := by rw [← gget_perm h4 (h.nd ok)]; exact hg
  have hu : (gset k y Lu).map (fun p => p.2.u) = Lu.map fun p => p.2.u := gset_u hy hgu
  refine ⟨⟨gset k y Lu, by rw [← sP_set, h1], by rw [hu]; exact h2, fun p hp => ?_, ?_⟩, h.c0.1, by have := h.c0.2; omega⟩
  · have : p.2.u ∈ (gset k y Lu).map fun p => p.2.u := List.mem_map.2 ⟨p, hp, rfl⟩
    rw [hu] at this
    obtain ⟨q, hq, he⟩ := List.mem_map.1 this
    rw [← he]
    exact h3 q hq
  · exact (gset_perm hg).trans (((gdel_perm h4 (h.nd ok) k).cons _).trans (gset_perm hgu).symm)
/-- One comes; o goes ahead of it. -/
theorem CRel.add (h : CRel L n ck M) (y : Bf) (hy : y.u = ck + 1) : CRel (L ++ [(k, sB y)]) (n + 1) (ck + 1) (M ++ [(k, y)]) := by
  obtain ⟨Lu, h1, h2, h3, h4⟩ := h.ex
  refine ⟨⟨Lu ++ [(k, y)], by rw [List.map_append, h1]; rfl, ?_, fun p hp => ?_, h4.append_right _⟩, by have := h.c0; omega⟩
  · rw [List.map_append, List.pairwise_append]
    refine ⟨h2, by simp, fun a ha b hb => ?_⟩
    simp at hb
    obtain ⟨q, hq, rfl⟩ := List.mem_map.1 ha
    have := h3 q hq
    omega
  · rcases List.mem_append.1 hp with hp | hp
    · have := h3 p hp; omega
    · simp at hp; subst hp; simp only; omega
theorem CRel.del (h : CRel L n ck M) (ok : LOk n room L) (o : Int) : CRel (gdel o L) n ck (gdel o M) := by
  obtain ⟨Lu, h1, h2, h3, h4⟩ := h.ex
  exact ⟨⟨gdel o Lu, by rw [← sP_del, h1], h2.sublist ((gdel_sub o Lu).map _), fun p hp => h3 p (gdel_mem hp), gdel_perm h4 (h.nd ok) o⟩, h.c0⟩
theorem LOk.up (h : LOk n room L) : LOk (n + 1) room L := ⟨h.nd, h.rg, h.len, h.rm, fun p hp => by have := h.h p hp; omega, by have := h.n0; omega⟩
theorem LOk.del (h : LOk n room L) (o : Int) : LOk n room (gdel o L) := by
  refine ⟨gdel_nd h.nd, fun p hp => h.rg p (gdel_mem hp), ?_, h.rm, fun p hp => h.h p (gdel_mem hp), h.n0⟩
  have := (gdel_fst (k := o) (W := L)).length_le
  simp only [List.length_map] at this
  have := h.len
  omega
theorem LOk.add (h : LOk n room L) {x : Bd} (hk : 0 ≤ k ∧ k < 2048) (hno : ∀ p ∈ L, p.1 ≠ k) (hl : (L.length : Int) < room) (hx : 0 ≤ x.h ∧ x.h ≤ n) : LOk n room (L ++ [(k, x)]) := by
  refine ⟨?_, fun p hp => ?_, by simp; omega, h.rm, fun p hp => ?_, h.n0⟩
  · rw [List.map_append, List.nodup_append]
    refine ⟨h.nd, by simp, fun a ha b hb => ?_⟩
    simp at hb
    obtain ⟨q, hq, rfl⟩ := List.mem_map.1 ha
    rw [hb]
    exact hno q hq
  · rcases List.mem_append.1 hp with hp | hp
    · exact h.rg p hp
    · simp at hp; subst hp; exact hk
  · rcases List.mem_append.1 hp with hp | hp
    · exact h.h p hp
    · simp at hp; subst hp; exact hx
theorem LOk.use (h : LOk n room L) {x y : Bd} (hg : gget k L = .some x) (hy : y.h = x.h) : LOk n room (gdel k L ++ [(k, y)]) := by
  have h1 := h.rg _ (gget_mem hg)
  have h2 := h.h _ (gget_mem hg)
  have h3 := gdel_length hg
  have h4 := h.len
  exact (h.del k).add h1 (gdel_nk h.nd) (by omega) (by rw [hy]; exact h2)
theorem LOk.set (h : LOk n room L) {y : Bd} (hy : 0 ≤ y.h ∧ y.h ≤ n + 1) : LOk (n + 1) room (gset k y L) := by
  have hl : (gset k y L).length = L.length := by
    have := congrArg List.length (gset_fst (k := k) (x := y) (M := L))
    simpa using this
  refine ⟨by rw [gset_fst]; exact h.nd, fun p hp => ?_, by rw [hl]; exact h.len, h.rm, fun p hp => ?_, by have := h.n0; omega⟩
  · have : p.1 ∈ L.map Prod.fst := by rw [← gset_fst (k := k) (x := y)]; exact List.mem_map.2 ⟨p, hp, rfl⟩
    obtain ⟨q, hq, he⟩ := List.mem_map.1 this
    rw [← he]
    exact h.rg q hq
  · rcases gset_mem hp with rfl | hp
    · exact hy
    · have := h.h p hp; omega
end
end Cw
