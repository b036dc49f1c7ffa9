/- The statement CacheKeeps: what holds at each round's beginning. -/
import Derived.Test.YtaopblgnaoojkaaCach7
import Derived.Test.YtaopblgnaoojkaaOpenW
namespace Cw
open Go Vc
open Go.Proofs
set_option maxRecDepth 100000
/-- An act of the statements of layer 13. -/
structure CAct where
  kind : Int
  at' : Int
  text : ByteArray
  dirty : Bool
  raw : Bool
  mA : Option Addr
  mc : Nat
  more : List Int
def CAct.mv (a : CAct) : Value := .slice a.mA a.more.length a.mc
def CAct.cells (a : CAct) : List Value := [.int .i64 a.kind, .int .i64 a.at', .string a.text, .bool a.dirty, .bool a.raw, a.mv]
def CAct.cv (a : CAct) : List CV := [iT a.kind, iT a.at', .s a.text, .b a.dirty, .b a.raw, .raw a.mv]
section
variable {α : Type}
def fcs {α : Type} (f : α → List Value) (l : List α) : List Value := (l.map f).flatten
theorem fcs_length {f : α → List Value} {c : Nat} (hc : ∀ a, (f a).length = c) (l : List α) : (fcs f l).length = l.length * c := by
  induction l with
  | nil => simp [fcs]
  | cons p l ih =>
    simp only [fcs, List.map_cons, List.flatten_cons, List.length_append, List.length_cons] at *
    rw [ih, hc, Nat.add_mul]
    omega
theorem fcs_drop {f : α → List Value} {c : Nat} (hc : ∀ a, (f a).length = c) : ∀ (l : List α) (i : Nat) (h : i < l.length), (fcs f l).drop (i * c) = f l[i] ++ fcs f (l.drop (i + 1))
  | a :: l, 0, _ => by simp [fcs]
  | a :: l, i + 1, h => by
    have := fcs_drop hc l i (by simpa using h)
    rw [show (i + 1) * c = c + i * c by rw [Nat.add_mul]; omega, show fcs f (a :: l) = f a ++ fcs f l from rfl, ← List.drop_drop]
    rw [show (f a ++ fcs f l).drop c = fcs f l by rw [← hc a]; exact List.drop_left, this]
    rfl
theorem fcs_at {f : α → List Value} {c : Nat} (hc : ∀ a, (f a).length = c) {l : List α} {i : Nat} (h : i < l.length) {j : Nat} {u : Value} (hu : (f l[i])[j]? = some u) : (fcs f l)[(i : Int).toNat * c + j]? = some u := by
  rw [Int.toNat_natCast, ← List.getElem?_drop, fcs_drop hc l i h, List.getElem?_append_left (List.getElem?_eq_some_iff.1 hu).1]
  exact hu
theorem fcs_app (f : α → List Value) (l : List α) (a : α) : fcs f (l ++ [a]) = fcs f l ++ f a := by simp [fcs]
theorem fcs_split {f : α → List Value} {c : Nat} (hc : ∀ a, (f a).length = c) (l : List α) (i : Nat) (h : i ≤ l.length) : (fcs f l).take (i * c) = fcs f (l.take i) ∧ (fcs f l).drop (i * c) = fcs f (l.drop i) := by
  have e : fcs f l = fcs f (l.take i) ++ fcs f (l.drop i) := by
    have e0 : fcs f (l.take i ++ l.drop i) = fcs f (l.take i) ++ fcs f (l.drop i) := by simp only [fcs, List.map_append, List.flatten_append]
    rw [← e0, List.take_append_drop]
  have hl : (fcs f (l.take i)).length = i * c := by rw [fcs_length hc, List.length_take, Nat.min_eq_left h]
  rw [e]
  exact ⟨List.take_left' hl, List.drop_left' hl⟩
theorem setAt_map {f : α → Value} {l : List α} {k : Nat} {x : α} (h : k < l.length) : Vc.setAt (l.map f) ((k : Int).toNat * 1) [f x] = (l.set k x).map f := by
  rw [Int.toNat_natCast]
  apply List.ext_getElem?
  intro i
  simp only [Vc.setAt]
  by_cases h1 : i < k
  · rw [List.append_assoc, List.getElem?_append_left (by simp; omega)]
    simp [List.getElem?_take, h1, List.getElem?_set, show k ≠ i by omega]
  · by_cases h2 : i = k
    · subst h2
      rw [List.append_assoc, List.getElem?_append_right (by simp; omega)]
      simp [h, show min i l.length = i by omega]
    · rw [List.getElem?_append_right (by simp; omega)]
      simp only [List.length_append, List.length_take, List.length_map, List.length_singleton, List.getElem?_drop]
      rw [show min (k * 1) l.length = k by omega, show k * 1 + 1 + (i - (k + 1)) = i by omega]
      simp [List.getElem?_set, show k ≠ i by omega]
end
abbrev cacells (l : List CAct) : List Value := fcs CAct.cells l
theorem cacells_rd {l : List CAct} {i : Nat} (h : i < l.length) : Vc.rowAt (cacells l) ((i : Int).toNat * 6) l[i].cv :=
  have g := fun (j : Nat) (u : Value) (hu : (l[i].cells)[j]? = some u) => fcs_at (c := 6) (fun _ => rfl) h hu
  ⟨g 0 _ rfl, g 1 _ rfl, g 2 _ rfl, g 3 _ rfl, g 4 _ rfl, g 5 _ rfl, trivial⟩
def bvs (l : List Bool) : List Value := l.map Value.bool
theorem emod_nat (x : Int) {n : Nat} (h : 0 < n) : ∃ k : Nat, k < n ∧ x % (n : Int) = (k : Int) := by
  have h1 := Int.emod_nonneg x (show (n : Int) ≠ 0 by omega)
  have h2 := Int.emod_lt_of_pos x (show (0 : Int) < n by omega)
  exact ⟨(x % (n : Int)).toNat, by omega, by omega⟩
section
variable {α : Type}
theorem gget_del {j k : Int} {L : List (Int × α)} (hn : (L.map Prod.fst).Nodup) : gget j (gdel k L) = if j = k then none else gget j L := by
  by_cases h : j = k
  · subst h
    rw [if_pos rfl]
    exact gget_none (gdel_nk hn)
  · rw [if_neg h]
    induction L with
    | nil => rfl
    | cons p l ih =>
      rw [gdel_cons]
      by_cases hp : p.1 = k
      · rw [if_pos hp, gget_cons, if_neg (by omega)]
      · rw [if_neg hp, gget_cons, gget_cons, ih (List.nodup_cons.1 hn).2]
theorem gget_add {j k : Int} {x : α} : ∀ {L : List (Int × α)}, (∀ p ∈ L, p.1 ≠ k) → gget j (L ++ [(k, x)]) = if j = k then some x else gget j L
  | [], _ => by
    rw [List.nil_append, gget_cons]
    by_cases h : j = k
    · rw [if_pos h, if_pos h.symm]
    · rw [if_neg h, if_neg (fun e => h e.symm)]
  | p :: l, h => by
    have hp := h p (by simp)
    rw [List.cons_append, gget_cons, gget_cons, gget_add fun q hq => h q (by simp [hq])]
    by_cases h1 : p.1 = j
    · rw [if_pos h1, if_pos h1, if_neg (by omega)]
    · rw [if_neg h1, if_neg h1]
theorem gget_set {j k : Int} {x y : α} : ∀ {L : List (Int × α)}, gget k L = some x → gget j (gset k y L) = if j = k then some y else gget j L
  | [], h => by cases h
  | p :: l, h => by
    rw [gget_cons] at h
    rw [gset_cons]
    by_cases hp : p.1 = k
    · rw [if_pos hp, gget_cons, gget_cons, hp]
      by_cases hj : j = k
      · rw [if_pos hj, if_pos hj.symm]
      · rw [if_neg hj, if_neg (fun e => hj e.symm), if_neg (fun e => hj e.symm)]
    · rw [if_neg hp] at h
      rw [if_neg hp, gget_cons, gget_cons, gget_set h]
      by_cases h1 : p.1 = j
      · rw [if_pos h1, if_pos h1, if_neg (by omega)]
      · rw [if_neg h1, if_neg h1]
end
def cellOk (o : Option Bd) (p : Option ByteArray) (d : Option Bool) (h : Option Int) : Prop := match o with
  | some x => p = some x.s ∧ x.s.size = 64 ∧ d = some x.d ∧ h = some x.h
  | none => p = some ⟨#[]⟩ ∧ d = some false ∧ h = some 0
structure KOk (P : List ByteArray) (D : List Bool) (Hd : List Int) (L : List (Int × Bd)) : Prop where
  lp : P.length = 12
  ld : D.length = 12
  lh : Hd.length = 12
  rg : ∀ p ∈ L, 0 ≤ p.1 ∧ p.1 < 12
  ok : ∀ k : Nat, k < 12 → cellOk (gget (k : Int) L) P[k]? D[k]? Hd[k]?
theorem KOk.new : KOk (List.replicate 12 ⟨#[]⟩) (List.replicate 12 false) (List.replicate 12 0) [] :=
  ⟨rfl, rfl, rfl, fun p hp => (by cases hp), fun k hk => ⟨by rw [List.getElem?_replicate, if_pos hk], by rw [List.getElem?_replicate, if_pos hk], by rw [List.getElem?_replicate, if_pos hk]⟩⟩
theorem KOk.upd {P P' : List ByteArray} {D D' : List Bool} {Hd Hd' : List Int} {L L' : List (Int × Bd)} {a : Nat} (h : KOk P D Hd L) (hg : ∀ j : Int, j ≠ (a : Int) → gget j L' = gget j L) (rg : ∀ p ∈ L', 0 ≤ p.1 ∧ p.1 < 12) (lp : P'.length = P.length) (ld : D'.length = D.length) (lh : Hd'.length = Hd.length)
    (hP : ∀ k : Nat, k ≠ a → P'[k]? = P[k]?) (hD : ∀ k : Nat, k ≠ a → D'[k]? = D[k]?) (hH : ∀ k : Nat, k ≠ a → Hd'[k]? = Hd[k]?) (hc : cellOk (gget (a : Int) L') P'[a]? D'[a]? Hd'[a]?) : KOk P' D' Hd' L' := by
  refine ⟨lp.trans h.lp, ld.trans h.ld, lh.trans h.lh, rg, fun k hk => ?_⟩
  by_cases hka : k = a
  · subst hka; exact hc
  · rw [hg k (by omega), hP k hka, hD k hka, hH k hka]
    exact h.ok k hk
theorem set_at {α : Type} {l : List α} {a : Nat} {x : α} (h : a < l.length) : (l.set a x)[a]? = some x := by simp [h]
theorem set_ne {α : Type} {l : List α} {a : Nat} {x : α} (k : Nat) (h : k ≠ a) : (l.set a x)[k]? = l[k]? := by
  rw [List.getElem?_set, if_neg (fun e => h e.symm)]
/-- Those that are there. -/
def wantL (P : List ByteArray) (j : Nat) : List Int := ((List.range j).filter fun k : Nat => decide (P[k]? ≠ some ⟨#[]⟩)).map fun k : Nat => (k : Int)
theorem wantL_succ {P : List ByteArray} {j : Nat} : wantL P (j + 1) = if P[j]? ≠ some ⟨#[]⟩ then wantL P j ++ [(j : Int)] else wantL P j := by
  unfold wantL
  rw [List.range_succ, List.filter_append, List.map_append]
  by_cases h : P[j]? ≠ some ⟨#[]⟩
  · rw [if_pos h]; simp [h]
  · rw [if_neg h]; simp at h; simp [h]
theorem ne_blank {s : ByteArray} (h : s.size = 64) : s ≠ ⟨#[]⟩ := fun e => by rw [e] at h; cases h
theorem KOk.want {P : List ByteArray} {D : List Bool} {Hd : List Int} {L : List (Int × Bd)} (h : KOk P D Hd L) (hn : (L.map Prod.fst).Nodup) : allR L = wantL P 12 := by
  have hs : (wantL P 12).Pairwise (· < ·) := by
    unfold wantL
    rw [List.pairwise_map]
    exact (List.pairwise_lt_range.filter _).imp fun h => by omega
  have hmem : ∀ z : Int, z ∈ L.map Prod.fst ↔ z ∈ wantL P 12 := by
    intro z
    unfold wantL
    simp only [List.mem_map, List.mem_filter, List.mem_range, decide_eq_true_eq]
    constructor
    · rintro ⟨p, hp, rfl⟩
      obtain ⟨r1, r2⟩ := h.rg p hp
      have hg := gget_nd (k := p.1) (x := p.2) hn hp
      have hc := h.ok p.1.toNat (by omega)
      rw [show ((p.1.toNat : Nat) : Int) = p.1 by omega, hg] at hc
      exact ⟨p.1.toNat, ⟨by omega, by rw [hc.1]; exact fun e => ne_blank hc.2.1 (Option.some.inj e)⟩, by omega⟩
    · rintro ⟨k, ⟨hk, hne⟩, rfl⟩
      have hc := h.ok k hk
      cases hg : gget (k : Int) L with
      | none => rw [hg] at hc; exact absurd hc.1 hne
      | some x => exact ⟨_, gget_mem hg, rfl⟩
  have hp : (L.map Prod.fst).Perm (wantL P 12) := (List.perm_ext_iff_of_nodup hn (hs.imp fun h => by omega)).2 hmem
  rw [allR, srtI_perm hp, srtI_sorted hs]
section
variable {P P' : List ByteArray} {D D' : List Bool} {Hd Hd' : List Int} {L : List (Int × Bd)} {a : Nat} {x y : Bd}
theorem KOk.setB (h : KOk P D Hd L) (ha : a < 12) (hg : gget (a : Int) L = some x) (lp : P'.length = P.length) (ld : D'.length = D.length) (lh : Hd'.length = Hd.length)
    (hP : ∀ k : Nat, k ≠ a → P'[k]? = P[k]?) (hD : ∀ k : Nat, k ≠ a → D'[k]? = D[k]?) (hH : ∀ k : Nat, k ≠ a → Hd'[k]? = Hd[k]?) (hc : cellOk (some y) P'[a]? D'[a]? Hd'[a]?) : KOk P' D' Hd' (gset (a : Int) y L) := by
  refine h.upd (fun j hj => by rw [gget_set hg, if_neg hj]) (fun p hp => ?_) lp ld lh hP hD hH (by rw [gget_set hg, if_pos rfl]; exact hc)
  rcases gset_mem hp with rfl | hp
  · exact ⟨by show (0 : Int) ≤ (a : Int); omega, by show (a : Int) < 12; omega⟩
  · exact h.rg p hp
theorem KOk.useB (h : KOk P D Hd L) (ha : a < 12) (hn : (L.map Prod.fst).Nodup) (lp : P'.length = P.length) (ld : D'.length = D.length) (lh : Hd'.length = Hd.length)
    (hP : ∀ k : Nat, k ≠ a → P'[k]? = P[k]?) (hD : ∀ k : Nat, k ≠ a → D'[k]? = D[k]?) (hH : ∀ k : Nat, k ≠ a → Hd'[k]? = Hd[k]?) (hc : cellOk (some y) P'[a]? D'[a]? Hd'[a]?) : KOk P' D' Hd' (gdel (a : Int) L ++ [((a : Int), y)]) := by
  refine h.upd (fun j hj => by rw [gget_add (gdel_nk hn), if_neg hj, gget_del hn, if_neg hj]) (fun p hp => ?_) lp ld lh hP hD hH (by rw [gget_add (gdel_nk hn), if_pos rfl]; exact hc)
  rcases List.mem_append.1 hp with hp | hp
  · exact h.rg p (gdel_mem hp)
  · simp at hp
    subst hp
    exact ⟨by show (0 : Int) ≤ (a : Int); omega, by show (a : Int) < 12; omega⟩
theorem KOk.addB (h : KOk P D Hd L) (ha : a < 12) (hg : gget (a : Int) L = none) (lp : P'.length = P.length) (ld : D'.length = D.length) (lh : Hd'.length = Hd.length)
    (hP : ∀ k : Nat, k ≠ a → P'[k]? = P[k]?) (hD : ∀ k : Nat, k ≠ a → D'[k]? = D[k]?) (hH : ∀ k : Nat, k ≠ a → Hd'[k]? = Hd[k]?) (hc : cellOk (some y) P'[a]? D'[a]? Hd'[a]?) : KOk P' D' Hd' (L ++ [((a : Int), y)]) := by
  refine h.upd (fun j hj => by rw [gget_add (gget_no hg), if_neg hj]) (fun p hp => ?_) lp ld lh hP hD hH (by rw [gget_add (gget_no hg), if_pos rfl]; exact hc)
  rcases List.mem_append.1 hp with hp | hp
  · exact h.rg p hp
  · simp at hp
    subst hp
    exact ⟨by show (0 : Int) ≤ (a : Int); omega, by show (a : Int) < 12; omega⟩
theorem KOk.delB (h : KOk P D Hd L) (hn : (L.map Prod.fst).Nodup) (lp : P'.length = P.length) (ld : D'.length = D.length) (lh : Hd'.length = Hd.length)
    (hP : ∀ k : Nat, k ≠ a → P'[k]? = P[k]?) (hD : ∀ k : Nat, k ≠ a → D'[k]? = D[k]?) (hH : ∀ k : Nat, k ≠ a → Hd'[k]? = Hd[k]?) (hc : cellOk none P'[a]? D'[a]? Hd'[a]?) : KOk P' D' Hd' (gdel (a : Int) L) :=
  h.upd (fun j hj => by rw [gget_del hn, if_neg hj]) (fun p hp => h.rg p (gdel_mem hp)) lp ld lh hP hD hH (by rw [gget_del hn, if_pos rfl]; exact hc)
theorem KOk.sameB (h : KOk P D Hd L) (lp : P'.length = P.length) (ld : D'.length = D.length) (lh : Hd'.length = Hd.length)
    (hP : ∀ k : Nat, k ≠ a → P'[k]? = P[k]?) (hD : ∀ k : Nat, k ≠ a → D'[k]? = D[k]?) (hH : ∀ k : Nat, k ≠ a → Hd'[k]? = Hd[k]?) (hc : cellOk (gget (a : Int) L) P'[a]? D'[a]? Hd'[a]?) : KOk P' D' Hd' L :=
  h.upd (fun j hj => rfl) h.rg lp ld lh hP hD hH hc
end
theorem blb : ((⟨#[]⟩ : ByteArray).toList == (⟨#[]⟩ : ByteArray).toList) = true := beq_self_eq_true _
theorem nbl {s : ByteArray} (h : s.size = 64) : (s.toList == (⟨#[]⟩ : ByteArray).toList) = false := by
  rw [bt_iff]
  exact decide_eq_false (ne_blank h)
theorem sbs (s : ByteArray) : (s.toList == s.toList) = true := beq_self_eq_true _
theorem setAtP {P : List ByteArray} {a : Nat} {s : ByteArray} (h : a < P.length) : Vc.setAt (svs P) (0 + (a : Int).toNat * 1) [Value.string s] = svs (P.set a s) := by rw [Nat.zero_add]; exact setAt_map (f := Value.string) h
theorem setAtD {P : List Bool} {a : Nat} {s : Bool} (h : a < P.length) : Vc.setAt (bvs P) (0 + (a : Int).toNat * 1) [Value.bool s] = bvs (P.set a s) := by rw [Nat.zero_add]; exact setAt_map (f := Value.bool) h
theorem setAtH {P : List Int} {a : Nat} {s : Int} (h : a < P.length) : Vc.setAt (ivs P) (0 + (a : Int).toNat * 1) [Value.int .i64 s] = ivs (P.set a s) := by rw [Nat.zero_add]; exact setAt_map (f := Value.int .i64) h
end Cw
