/- The package deps: what is kept of all changes, and what the methods answer of all changes. -/
import Derived.Test.YtapmgndnjgoimaaGreatDep8
import Derived.Test.YtapmgndnjgoimaaGreatFnV
namespace Cw
open Go Vc
open Go.Proofs
set_option maxRecDepth 100000
theorem filt1 {α : Type} (p : α → Bool) {a : α} (h : p a = true) : [a].filter p = [a] := by simp [h]
theorem filt0 {α : Type} (p : α → Bool) {a : α} (h : ¬ p a = true) : [a].filter p = [] := by simp [h]
theorem nosP_ofT (L : List Ch) (k s : Int) : ∀ j, j ≤ L.length → nosP L (ofT L k s j) = ofN (L.take j) k s
  | 0, _ => by simp [ofT, nosP, ofN]
  | j + 1, h => by
    have hj : j < L.length := h
    have ih := nosP_ofT L k s j (by omega)
    have e : noAt L (j : Int) = L[j].no := by rw [noAt, Int.toNat_natCast, List.getElem?_eq_getElem hj]
    rw [List.take_succ_eq_append_getElem hj, ofT, List.getElem?_eq_getElem hj]
    simp only [ofN, List.filter_append, List.map_append] at ih ⊢
    by_cases hc : (L[j].at' == k && L[j].st == s) = true
    · rw [if_pos hc, nosP, List.map_append, ← nosP, ih, filt1 (fun c : Ch => c.at' == k && c.st == s) hc]
      simp [e]
    · rw [if_neg hc, ih, filt0 (fun c : Ch => c.at' == k && c.st == s) hc]
      simp
theorem nosP_ofI (L : List Ch) (k s : Int) : nosP L (ofI L k s) = ofN L k s := by
  rw [ofI, nosP_ofT L k s _ (Nat.le_refl _), List.take_length]
theorem ofI_len (L : List Ch) (k s : Int) : (ofI L k s).length = (ofN L k s).length := by
  rw [← nosP_ofI, nosP, List.length_map]
/-- What is kept of all changes R. -/
structure DR (V : DV) (W : List (List Int × Option Addr × Nat)) (R : List Ch) : Prop where
  eq : chs V = und R
  sub : SubW V W
  ok : VOk V
  dep : DepOk R
  z : R.length ≤ 100000
section
variable {V : DV} {W : List (List Int × Option Addr × Nat)} {R : List Ch}
theorem DR.nil : DR [] [] [] := ⟨rfl, fun p hp => (by cases hp), ⟨by simp, fun i j h => by simp at h, by simp, by simp, by simp, by simp⟩, DepOk.nil, by simp⟩
theorem DR.nd (h : DR V W R) : (R.map Ch.no).Nodup := h.dep.num.nodup
theorem DR.len (h : DR V W R) : V.length = (und R).length := by rw [← h.eq, List.length_map]
theorem DR.le (h : DR V W R) : V.length ≤ R.length := by rw [h.len]; exact List.length_filter_le _ _
theorem DR.rdy (h : DR V W R) (k : Int) : rdyN (chs V) k = rdyN R k := by rw [h.eq, rdyN_und h.nd]
theorem DR.rdyP (h : DR V W R) (k : Int) : rdyP (chs V) k = Cw.rdyP R k := by rw [Cw.rdyP, Cw.rdyP, h.eq, rdyL_und h.nd]
theorem DR.fly (h : DR V W R) (k : Int) : (ofI (chs V) k 2).length = (ofN R k 2).length := by rw [ofI_len, h.eq, ofN_und R k (by decide)]
def sdE' (R : List Ch) (k : Int) : Int := if (ofN R k 2).length = 0 then (if (rdyN R k).length = 0 then 5 else 0) else 120
def sdL' (R : List Ch) (k : Int) : List Int := if (ofN R k 2).length = 0 then rdyN R k else []
def sdR (R : List Ch) (k : Int) : List Ch := if (ofN R k 2).length = 0 then setN (rdyN R k) 2 R else R
def dnE' (R : List Ch) (k : Int) : Int := if (ofN R k 2).length = 0 then 120 else 0
theorem DR.sdE (h : DR V W R) (k : Int) : sdE (chs V) k = sdE' R k := by rw [Cw.sdE, sdE', h.fly, h.rdy]
theorem DR.sdL (h : DR V W R) (k : Int) : sdL (chs V) k = sdL' R k := by rw [Cw.sdL, sdL', h.fly, h.rdy]
theorem DR.dnE (h : DR V W R) (k : Int) : dnE (chs V) k = dnE' R k := by rw [Cw.dnE, dnE', h.fly]
theorem DR.dnL (h : DR V W R) (k : Int) : dnL (chs V) k = ofN R k 2 := by rw [Cw.dnL, nosP_ofI, h.eq, ofN_und R k (by decide)]
theorem DR.lsE (h : DR V W R) (k : Int) : lsE (chs V) k = dnE' R k := by rw [Cw.lsE, dnE', h.fly]
theorem SubW.setP (h : SubW V W) {ps : List Int} {s : Int} (h0 : ∀ p ∈ ps, 0 ≤ p) : SubW (setP V ps s) W := SubW_of h fun x hx => by
  obtain ⟨y, hy, _, _, _, _, e⟩ := setP_mem h0 hx
  exact ⟨y, hy, e⟩
theorem setN_len (l : List Int) (s : Int) (R : List Ch) : (setN l s R).length = R.length := setF_len _ _ _
theorem setK_len (k s : Int) (R : List Ch) : (setK k s R).length = R.length := setF_len _ _ _
theorem und_send {R : List Ch} (hn : (R.map Ch.no).Nodup) (k : Int) : und (setN (rdyN R k) 2 R) = setN (rdyN R k) 2 (und R) := und_setF (by decide) fun c hc hp => by
  obtain ⟨x, hx, h1, _, h2, _⟩ := rdyN_ok (List.contains_iff_mem.1 hp)
  rw [← uniq hn hx hc h1, h2]
  decide
theorem DR.send (h : DR V W R) (k : Int) : DR (sdV V k) W (sdR R k) := by
  unfold sdV sdR
  rw [h.fly]
  by_cases h0 : (ofN R k 2).length = 0
  · rw [if_pos h0, if_pos h0]
    have hp : ∀ p ∈ rdyI (chs V) k V.length, 0 ≤ p := fun p hp => (rdyI_mem h.ok.srt k p hp).1
    exact ⟨by rw [chs_sent h.ok.srt, h.rdy, h.eq, und_send h.nd], h.sub.setP hp, h.ok.setP hp, h.dep.send k, by rw [setN_len]; exact h.z⟩
  · rw [if_neg h0, if_neg h0]; exact h
theorem DR.done (h : DR V W R) (k : Int) : DR (dnV V k) W (setK k 0 R) := ⟨by rw [chs_done, h.eq, und_delK], h.sub.done k, h.ok.done k, h.dep.done k, by rw [setK_len]; exact h.z⟩
theorem DR.lost (h : DR V W R) (k : Int) : DR (setP V (ofI (chs V) k 2) 1) W (setK k 1 R) := by
  have hp : ∀ p ∈ ofI (chs V) k 2, 0 ≤ p := fun p hp => (ofI_mem hp).1
  exact ⟨by rw [chs_lost, h.eq, und_setK (by decide)], h.sub.setP hp, h.ok.setP hp, h.dep.lost k, by rw [setK_len]; exact h.z⟩
theorem alT_eq (L : List Ch) (at' : Int) (p : Pt) (xs : List Int) : ∀ j, j ≤ L.length → alT L at' p xs j = xs ++ ((L.take j).filter fun c => ovb (c.off, c.by') p && c.at' == at').map Ch.no
  | 0, _ => by simp [alT]
  | j + 1, h => by
    have hj : j < L.length := h
    rw [List.take_succ_eq_append_getElem hj, alT, List.getElem?_eq_getElem hj]
    simp only [List.filter_append, List.map_append]
    rw [alT_eq L at' p xs j (by omega)]
    by_cases hc : (ovb (L[j].off, L[j].by') p && L[j].at' == at') = true
    · rw [if_pos hc, filt1 (fun c : Ch => ovb (c.off, c.by') p && c.at' == at') hc]
      simp
    · rw [if_neg hc, filt0 (fun c : Ch => ovb (c.off, c.by') p && c.at' == at') hc]
      simp
theorem alls_eq (L : List Ch) (at' : Int) (p : Pt) (xs : List Int) : alls L at' p xs = xs ++ (L.filter fun c => ovb (c.off, c.by') p && c.at' == at').map Ch.no := by
  rw [alls, alT_eq _ _ _ _ _ (Nat.le_refl _), List.take_length]
theorem adB_ok {last at' o : Int} {t : ByteArray} {n : Nat} {xs : List Int} (he : adB last at' o t n xs = 0) : 0 ≤ at' ∧ at' < 2048 ∧ fcheck o t.size = 0 ∧ (∀ x ∈ xs, 1 ≤ x ∧ x ≤ last) ∧ n < 1024 := by
  unfold adB at he
  split at he
  · cases he
  · rename_i h1
    split at he
    · cases he
    · rename_i h2
      split at he
      · cases he
      · rename_i h3
        refine ⟨?_, ?_, ?_, fun x hx => ?_, by omega⟩
        · exact Int.not_lt.1 fun h => h1 (.inl h)
        · exact Int.not_le.1 fun h => h1 (.inr (.inl h))
        · exact Decidable.not_not.1 fun h => h1 (.inr (.inr h))
        · have h4 : xs.any (pdA last) = false := by simpa using h2
          rw [List.any_eq_false] at h4
          have := h4 x hx
          simp only [pdA, Bool.or_eq_true, decide_eq_true_eq] at this
          omega
theorem DR.add (h : DR V W R) {at' o : Int} {t : ByteArray} {xs : List Int} (he : adB R.length at' o t V.length xs = 0) (zx : xs.length + V.length ≤ 17592186044416) (zt : t.size ≤ 9223372036854775807) (zr : R.length < 100000) (v : Option Addr × Nat) :
    DR (V ++ [(newC (chs V) R.length at' (o, t) xs, v)]) (W ++ [((newC (chs V) R.length at' (o, t) xs).ah, v)]) (R ++ [newC (und R) R.length at' (o, t) xs]) := by
  obtain ⟨a1, a2, a3, a4, a5⟩ := adB_ok he
  rw [h.eq]
  have hst : (newC (und R) R.length at' (o, t) xs).st = 1 := rfl
  have hno : (newC (und R) R.length at' (o, t) xs).no = (R.length : Int) + 1 := rfl
  have hV : ∀ x ∈ V, 1 ≤ x.1.no ∧ x.1.no ≤ (R.length : Int) := fun x hx => by
    have : x.1 ∈ und R := h.eq ▸ List.mem_map.2 ⟨x, hx, rfl⟩
    exact h.dep.num.le (und_mem.1 this).1
  have hah : ∀ n ∈ (newC (und R) R.length at' (o, t) xs).ah, 1 ≤ n ∧ n ≤ (R.length : Int) := by
    intro n hn
    have hn' : n ∈ alls (und R) at' (o, t) xs := hn
    rw [alls_eq] at hn'
    rcases List.mem_append.1 hn' with h1 | h1
    · exact a4 n h1
    · obtain ⟨c, hc, rfl⟩ := List.mem_map.1 h1
      exact h.dep.num.le (und_mem.1 (List.mem_filter.1 hc).1).1
  have hz := h.z
  have hle := h.le
  have hsrt : V.Pairwise fun x y => x.1.no < y.1.no := List.pairwise_iff_getElem.2 fun i j hi hj hij => h.ok.srt i j hi hj hij
  refine ⟨?_, ?_, ⟨by simp; omega, ?_, ?_, ?_, ?_, ?_⟩, h.dep.add hno hst hah, by simp; omega⟩
  · rw [chs, List.map_append, ← chs, h.eq, und_app R (by rw [hst]; decide)]
    rfl
  · intro p hp
    rcases List.mem_append.1 hp with hp | hp
    · exact List.mem_append.2 (.inl (h.sub p hp))
    · rw [List.mem_singleton.1 hp]
      exact List.mem_append.2 (.inr (by simp [fz]))
  · have : (V ++ [(newC (und R) R.length at' (o, t) xs, v)]).Pairwise fun x y => x.1.no < y.1.no := by
      rw [List.pairwise_append]
      refine ⟨hsrt, by simp, fun x hx y hy => ?_⟩
      rw [List.mem_singleton.1 hy]
      have := hV x hx
      show x.1.no < (R.length : Int) + 1
      omega
    exact fun i j hi hj hij => List.pairwise_iff_getElem.1 this i j hi hj hij
  · intro x hx
    rcases List.mem_append.1 hx with hx | hx
    · exact h.ok.no x hx
    · rw [List.mem_singleton.1 hx]
      show 0 ≤ (R.length : Int) + 1 ∧ (R.length : Int) + 1 ≤ 1000000
      omega
  · intro x hx
    rcases List.mem_append.1 hx with hx | hx
    · exact h.ok.ah x hx
    · rw [List.mem_singleton.1 hx]
      refine ⟨?_, fun n hn => by have := hah n hn; omega⟩
      have := alT_le (und R) at' (o, t) xs (und R).length
      have h2 := h.len
      show (alls (und R) at' (o, t) xs).length ≤ _
      rw [alls]
      omega
  · intro x hx
    rcases List.mem_append.1 hx with hx | hx
    · exact h.ok.by' x hx
    · rw [List.mem_singleton.1 hx]; exact zt
  · intro x hx
    rcases List.mem_append.1 hx with hx | hx
    · exact h.ok.sec x hx
    · rw [List.mem_singleton.1 hx]
      show inI64 at'
      exact ⟨by omega, by omega⟩
/-- A change's state, by a number that may be none. -/
def isR' (R : List Ch) (n : Int) : Int := if 1 ≤ n ∧ n ≤ (R.length : Int) then stOf n R else 0
theorem DR.is (h : DR V W R) (n : Int) : isR (chs V) R.length n = isR' R n := by
  unfold isR isR'
  rw [h.eq, stOf_und h.nd]
/-- The places of a sector's changes. -/
def plT (L : List Ch) (k : Int) : Nat → List Int
  | 0 => []
  | j + 1 => match L[j]? with
    | none => plT L k j
    | some c => if (c.at' == k) = true then plT L k j ++ [(j : Int)] else plT L k j
theorem plT_iff {L : List Ch} {k : Int} : ∀ j, j ≤ L.length → ∀ p : Int, p ∈ plT L k j ↔ ∃ (i : Nat) (h : i < L.length), p = (i : Int) ∧ i < j ∧ L[i].at' = k
  | 0, _, p => by simp [plT]
  | j + 1, hj, p => by
    have hlt : j < L.length := hj
    have ih := plT_iff (L := L) (k := k) j (by omega) p
    rw [plT, List.getElem?_eq_getElem hlt]
    simp only
    by_cases hc : L[j].at' = k
    · rw [if_pos (by simpa using hc), List.mem_append, ih, List.mem_singleton]
      constructor
      · rintro (⟨i, hi, h1, h2, h3⟩ | h)
        · exact ⟨i, hi, h1, by omega, h3⟩
        · exact ⟨j, hlt, h, by omega, hc⟩
      · rintro ⟨i, hi, h1, h2, h3⟩
        rcases Nat.lt_succ_iff_lt_or_eq.1 h2 with h4 | h4
        · exact .inl ⟨i, hi, h1, h4, h3⟩
        · subst h4; exact .inr h1
    · rw [if_neg (by simpa using hc), ih]
      constructor
      · rintro ⟨i, hi, h1, h2, h3⟩; exact ⟨i, hi, h1, by omega, h3⟩
      · rintro ⟨i, hi, h1, h2, h3⟩
        refine ⟨i, hi, h1, ?_, h3⟩
        rcases Nat.lt_succ_iff_lt_or_eq.1 h2 with h4 | h4
        · exact h4
        · subst h4; exact absurd h3 hc
theorem plT_up (L : List Ch) (k : Int) : ∀ j, j ≤ L.length → (plT L k j).Pairwise (· < ·)
  | 0, _ => by simp [plT]
  | j + 1, hj => by
    have hlt : j < L.length := hj
    have ih := plT_up L k j (by omega)
    rw [plT, List.getElem?_eq_getElem hlt]
    simp only
    split
    · rw [List.pairwise_append]
      refine ⟨ih, by simp, fun a ha b hb => ?_⟩
      obtain ⟨i, _, h1, h2, _⟩ := (plT_iff j (by omega) a).1 ha
      rw [List.mem_singleton.1 hb]
      omega
    · exact ih
theorem ofT_up (L : List Ch) (k s : Int) : ∀ j, j ≤ L.length → (ofT L k s j).Pairwise (· < ·)
  | 0, _ => by simp [ofT]
  | j + 1, hj => by
    have hlt : j < L.length := hj
    have ih := ofT_up L k s j (by omega)
    rw [ofT, List.getElem?_eq_getElem hlt]
    simp only
    split
    · rw [List.pairwise_append]
      refine ⟨ih, by simp, fun a ha b hb => ?_⟩
      have := ofT_mem ha
      rw [List.mem_singleton.1 hb]
      omega
    · exact ih
theorem up_nodup {l : List Int} (h : l.Pairwise (· < ·)) : l.Nodup := h.imp fun h => by omega
theorem vwI_pl {V : DV} {k : Int} (hst : ∀ x ∈ V, x.1.st = 1 ∨ x.1.st = 2) : vwI (chs V) k = plT (chs V) k V.length := by
  have hl : (chs V).length = V.length := by simp
  have hu := plT_up (chs V) k V.length (by omega)
  have h1 : (ofI (chs V) k 1 ++ ofI (chs V) k 2).Nodup := by
    rw [List.nodup_append]
    refine ⟨up_nodup (ofT_up _ _ _ _ (Nat.le_refl _)), up_nodup (ofT_up _ _ _ _ (Nat.le_refl _)), fun a ha b hb hab => ?_⟩
    subst hab
    obtain ⟨q0, q1⟩ := ofI_mem ha
    obtain ⟨i, rfl⟩ : ∃ i : Nat, a = (i : Int) := ⟨a.toNat, by omega⟩
    have hi : i < V.length := by omega
    have h1 := (ofI_iff i hi).1 ha
    have h2 := (ofI_iff i hi).1 hb
    simp at h1 h2
    omega
  have hp : (ofI (chs V) k 1 ++ ofI (chs V) k 2).Perm (plT (chs V) k V.length) := by
    refine (List.perm_ext_iff_of_nodup h1 (up_nodup hu)).2 fun a => ?_
    rw [List.mem_append, plT_iff _ (by omega)]
    constructor
    · intro h
      have q : 0 ≤ a ∧ a < (V.length : Int) := h.elim (fun h => ofI_mem h) fun h => ofI_mem h
      obtain ⟨i, rfl⟩ : ∃ i : Nat, a = (i : Int) := ⟨a.toNat, by omega⟩
      have hi : i < V.length := by omega
      refine ⟨i, by omega, rfl, by omega, ?_⟩
      rw [ofI_iff i hi, ofI_iff i hi] at h
      simp at h ⊢
      rcases h with h | h <;> exact h.1
    · rintro ⟨i, hi, rfl, h2, h3⟩
      have hi' : i < V.length := by omega
      rw [ofI_iff i hi', ofI_iff i hi']
      simp at h3
      rcases hst _ (List.getElem_mem hi') with h | h
      · left; simp [h3, h]
      · right; simp [h3, h]
  show srtI _ = _
  rw [srtI_perm hp, srtI_sorted hu]
theorem plT_map {β : Type} (L : List Ch) (k : Int) (f : Int → β) (g : Ch → β) (hfg : ∀ (i : Nat) (h : i < L.length), f (i : Int) = g L[i]) : ∀ j, j ≤ L.length → (plT L k j).map f = ((L.take j).filter fun c => c.at' == k).map g
  | 0, _ => by simp [plT]
  | j + 1, hj => by
    have hlt : j < L.length := hj
    rw [List.take_succ_eq_append_getElem hlt, plT, List.getElem?_eq_getElem hlt]
    simp only [List.filter_append, List.map_append]
    rw [← plT_map L k f g hfg j (by omega)]
    by_cases hc : (L[j].at' == k) = true
    · rw [if_pos hc, filt1 (fun c : Ch => c.at' == k) hc, List.map_append]
      simp [hfg j hlt]
    · rw [if_neg hc, filt0 (fun c : Ch => c.at' == k) hc]
      simp
/-- The patches of what is not done at a sector. -/
def vwP (R : List Ch) (k : Int) : List Pt := (R.filter fun c => c.at' == k && c.st != 0).map fun c => (c.off, c.by')
theorem DR.vw (h : DR V W R) (k : Int) : (vwI (chs V) k).map (chP (chs V)) = vwP R k := by
  have hst : ∀ x ∈ V, x.1.st = 1 ∨ x.1.st = 2 := fun x hx => by
    have h1 : x.1 ∈ und R := h.eq ▸ List.mem_map.2 ⟨x, hx, rfl⟩
    obtain ⟨h2, h3⟩ := und_mem.1 h1
    rcases h.dep.st _ h2 with h | h | h
    · exact absurd h h3
    · exact .inl h
    · exact .inr h
  rw [vwI_pl hst, plT_map (chs V) k (chP (chs V)) (fun c => (c.off, c.by')) (fun i hi => by
    have hi' : i < V.length := by simpa using hi
    rw [chP_eq hi']; simp) _ (by simp), List.take_of_length_le (by simp), h.eq, vwP, und, List.filter_filter]
end
end Cw
namespace Cw
open Go Vc
open Go.Proofs
set_option maxRecDepth 100000
theorem look_ne {H : HL} {d q : Nat} {x : Option (Bool × Ob)} (h : d ≠ q) : lookH ((d, x) :: H) q = lookH H q := by rw [lookH_cons, if_neg (fun e => h e.symm)]
theorem look_eq {H : HL} {d : Nat} {x : Bool × Ob} : lookH ((d, some x) :: H) d = some x := by rw [lookH_cons, if_pos rfl]
theorem At.eqH {P : Program} {F : Frm} {Q : Exit → Act → World → Prop} {c : Code} {ks : List KI} {L : LL} {H H' : HL} {nx : Nat} (he : ∀ n, lookH H' n = lookH H n) (h : At P F Q c ks L H' nx) : At P F Q c ks L H nx :=
  ⟨fun hW e a w S => h.h ⟨hW.l, fun n x hx => hW.h n x ((he n).symm.trans hx)⟩ e a w (by rw [show lookH H' = lookH H from funext he]; exact S)⟩
section
variable {H : HL} {nx d q : Nat} {b1 : Bool} {V : DV} {W : List (List Int × Option Addr × Nat)} {R : List Ch}
/-- Changes with a new one, whose slice is told of; its number hidden. -/
def adX (V : DV) (last : Int) (c : Ch) : AbP := exP fun b => adP V last b c
theorem ad_st (V : DV) (last : Int) (b : Nat) (c : Ch) : stable (adP V last b c) := exP_stable fun _ => absP_stable _ _
theorem At.growX {P : Program} {F : Frm} {Q : Exit → Act → World → Prop} {cd : Code} {ks : List KI} {L : LL} {H : HL} {nx : Nat} {last : Int} {c : Ch} (d q : Nat) (hd : lookH H d = some (true, .ab (adX V last c))) (hq : lookH H q = some (true, .ab (frzP W))) (hdq : d ≠ q)
    (h : ∀ v, At P F Q cd ks L ((q, some (true, .ab (frzP (W ++ [(c.ah, v)])))) :: (d, some (true, .ab (depX (V ++ [(c, v)]) (last + 1)))) :: H) nx) : At P F Q cd ks L H nx := by
  refine At.ex (φ := fun b => adP V last b c) d hd (fun b => ad_st V last b c) fun b => ?_
  refine At.grow (b := b) d q look_eq ((look_ne hdq).trans hq) hdq fun v => ?_
  refine At.weak (φ' := depX (V ++ [(c, v)]) (last + 1)) d ((look_ne (fun h => hdq h.symm)).trans look_eq) (exP_stable fun _ => absP_stable _ _) (fun _ _ _ hp => ⟨b, hp⟩) ?_
  refine At.eqH (fun n => ?_) (h v)
  simp only [lookH_cons]
  by_cases h1 : n = q
  · rw [if_pos h1, if_neg (fun h => hdq (h.symm.trans h1))]
    simp [h1]
  · rw [if_neg h1]
    by_cases h2 : n = d
    · simp [h2]
    · simp [h1, h2]
theorem nilDp {last : Int} (hd : lookH H d = some (true, .ab (depX V last))) {Lc : LL} {o : Oper} {x y : Operand} (hop : o.op = .binOp .eql 55 x y 55) (hx : ev Lc x = some (.c (.nm d))) (hy : ev Lc y = some (.c .np)) : Spec Tryz.prog Lc H nx o ⟨.t (.c (.b false)), [], [], []⟩ :=
  spec_nil tysOk hop hx hy rfl rfl hd (depX_nn _ _)
theorem imageX (hd : lookH H d = some (true, .ab (depX V R.length))) (hq : lookH H q = some (b1, .ab (frzP W))) (hdq : d ≠ q) (h : DR V W R) (k : Int) (s : ByteArray) (hs : s.size ≤ 9223372036854775807) :
    FnH Tryz.prog 39 [.c (.nm d), .c (iT k), .c (.s s)] H nx ⟨.tup [.c (.s (pt s (rdyP R k))), .c (iT (pte s (rdyP R k)))], [], [(d, some (.ab (depX V R.length)))], []⟩ :=
  fnh_ex hd (depX_st _ _) (depX_st _ _) fun b => by
    have := imageH (nx := nx) (b := b) look_eq ((look_ne (x := some (true, .ab (depP V R.length b))) hdq).trans hq) hdq h.sub h.ok k s hs
    rw [h.rdyP] at this
    exact this
theorem sectorsX (hd : lookH H d = some (true, .ab (depX V R.length))) (hq : lookH H q = some (b1, .ab (frzP W))) (hdq : d ≠ q) (h : DR V W R) :
    FnH Tryz.prog 29 [.c (.nm d)] H nx ⟨.t (.c (.nm nx)), [(true, .own 3 1 (secs (und R)).length (ivs (secs (und R))))], [(d, some (.ab (depX V R.length)))], []⟩ :=
  fnh_ex hd (depX_st _ _) (depX_st _ _) fun b => by
    have := sectorsH (nx := nx) (b := b) look_eq ((look_ne (x := some (true, .ab (depP V R.length b))) hdq).trans hq) hdq h.sub h.ok
    rw [h.eq] at this
    exact this
theorem viewX (hd : lookH H d = some (true, .ab (depX V R.length))) (h : DR V W R) (k : Int) (s : ByteArray) (hs : s.size ≤ 9223372036854775807) :
    FnH Tryz.prog 28 [.c (.nm d), .c (iT k), .c (.s s)] H nx ⟨.tup [.c (.s (pt s (vwP R k))), .c (iT (pte s (vwP R k)))], [], [(d, some (.ab (depX V R.length)))], []⟩ :=
  fnh_ex hd (depX_st _ _) (depX_st _ _) fun b => by
    have := viewH (nx := nx) (b := b) (look_eq (H := H) (d := d) (x := (true, .ab (depP V R.length b)))) h.ok k s hs
    rw [h.vw] at this
    exact this
theorem leftX {at' : List Int} {u : TV} (hd : lookH H d = some (true, .ab (depX V R.length))) (hu : SlQ H u at'.length 1 (ivs at') d) (za : at'.length ≤ 100000000000000) (h : DR V W R) :
    FnH Tryz.prog 17 [.c (.nm d), u] H nx ⟨.t (.c (iT (leftA (und R) at' : Nat))), [], [(d, some (.ab (depX V R.length)))], []⟩ :=
  fnh_ex hd (depX_st _ _) (depX_st _ _) fun b => by
    have := leftH (nx := nx) (b := b) (look_eq (H := H) (d := d) (x := (true, .ab (depP V R.length b)))) (SlQ.cons hu hd (exP_stable (depX_st _ _)) fun _ _ _ hp => ⟨b, hp⟩) za h.ok.zz
    rw [h.eq] at this
    exact this
theorem sendX (hd : lookH H d = some (true, .ab (depX V R.length))) (hq : lookH H q = some (b1, .ab (frzP W))) (hdq : d ≠ q) (h : DR V W R) (k : Int) :
    FnH Tryz.prog 40 [.c (.nm d), .c (iT k)] H nx ⟨.tup [.c (.nm nx), .c (iT (sdE' R k))], [(true, .own 3 1 (sdL' R k).length (ivs (sdL' R k)))], [(d, some (.ab (depX (sdV V k) R.length)))], []⟩ :=
  fnh_ex hd (depX_st _ _) (depX_st _ _) fun b => by
    have := sendA (nx := nx) (b := b) look_eq ((look_ne (x := some (true, .ab (depP V R.length b))) hdq).trans hq) hdq h.sub h.ok k
    rw [h.sdE, h.sdL] at this
    exact this
theorem doneX (hd : lookH H d = some (true, .ab (depX V R.length))) (h : DR V W R) (k : Int) :
    FnH Tryz.prog 31 [.c (.nm d), .c (iT k)] H nx ⟨.tup [.c (.nm nx), .c (iT (dnE' R k))], [(true, .own 3 1 (ofN R k 2).length (ivs (ofN R k 2)))], [(d, some (.ab (depX (dnV V k) R.length)))], []⟩ :=
  fnh_ex hd (depX_st _ _) (depX_st _ _) fun b => by
    have := doneA (nx := nx) (b := b) (look_eq (H := H) (d := d) (x := (true, .ab (depP V R.length b)))) h.ok.zz k
    rw [h.dnE, h.dnL] at this
    exact this
theorem lostX (hd : lookH H d = some (true, .ab (depX V R.length))) (h : DR V W R) (k : Int) :
    FnH Tryz.prog 32 [.c (.nm d), .c (iT k)] H nx ⟨.t (.c (iT (dnE' R k))), [], [(d, some (.ab (depX (setP V (ofI (chs V) k 2) 1) R.length)))], []⟩ :=
  fnh_ex hd (depX_st _ _) (depX_st _ _) fun b => by
    have := lostA (nx := nx) (b := b) (look_eq (H := H) (d := d) (x := (true, .ab (depP V R.length b)))) h.ok.zz k
    rw [h.lsE] at this
    exact this
theorem addX {at' o : Int} {t : ByteArray} {xs : List Int} {u : TV} (hd : lookH H d = some (true, .ab (depX V R.length))) (hu : SlQ H u xs.length 1 (ivs xs) d) (zx : xs.length + V.length ≤ 17592186044416) (zt : t.size ≤ 9223372036854775807) (h : DR V W R) (he : adB R.length at' o t V.length xs = 0) :
    FnH Tryz.prog 24 [.c (.nm d), .c (iT at'), .agg [iT o, .s t], u] H nx ⟨.tup [.c (iT ((R.length : Int) + 1)), .c (iT 0)], [], [(d, some (.ab (adX V R.length (newC (und R) R.length at' (o, t) xs))))], []⟩ :=
  fnh_ex hd (depX_st _ _) (fun b => ad_st _ _ b _) fun b => by
    have := addA (nx := nx) (b := b) (at' := at') (o := o) (look_eq (H := H) (d := d) (x := (true, .ab (depP V R.length b)))) (SlQ.cons hu hd (exP_stable (depX_st _ _)) fun _ _ _ hp => ⟨b, hp⟩) zx zt h.ok (by have := h.z; omega) he
    rw [h.eq] at this
    exact this
theorem addNoX {at' o : Int} {t : ByteArray} {xs : List Int} {u : TV} (hd : lookH H d = some (true, .ab (depX V R.length))) (hu : SlQ H u xs.length 1 (ivs xs) d) (zx : xs.length ≤ 17592186043904) (zt : t.size ≤ 9223372036854775807) (h : DR V W R) (he : adB R.length at' o t V.length xs ≠ 0) :
    FnH Tryz.prog 24 [.c (.nm d), .c (iT at'), .agg [iT o, .s t], u] H nx ⟨.tup [.c (iT 0), .c (iT (adB R.length at' o t V.length xs))], [], [(d, some (.ab (depX V R.length)))], []⟩ :=
  fnh_ex hd (depX_st _ _) (depX_st _ _) fun b => addNo (nx := nx) (b := b) (at' := at') (o := o) (look_eq (H := H) (d := d) (x := (true, .ab (depP V R.length b)))) (SlQ.cons hu hd (exP_stable (depX_st _ _)) fun _ _ _ hp => ⟨b, hp⟩) zx zt h.ok.zz he
end
/-- A patch of one byte. -/
def bt1 (b : Int) : ByteArray := ⟨#[UInt8.ofNat b.toNat]⟩
end Cw
namespace Vc
open Go Go.RowKit
/-- A thing that stands in no block. -/
theorem Sat.newE {F : Frm} {L : LL} {H : HL} {nx : Nat} {e : Env} {a : Act} {w : World} (S : Sat F (fun t => look t L) (lookH H) e a w) (hW : WF L H nx) (φ : AbP) (v : Value) (hs : stable φ) (hone : v.oneCell' = true) (h : φ v (fun _ => False) w) :
    WF L ((nx, some (true, .ab φ)) :: H) (nx + 1) ∧ Sat F (fun t => look t L) (lookH ((nx, some (true, .ab φ)) :: H)) (e.put3 nx 0 v (fun _ => False)) a w := by
  have hsame : ∀ n, n < nx → e.same (e.put3 nx 0 v (fun _ => False)) n := fun n hn => Env.put3_same e (by omega)
  refine ⟨⟨fun t v hv n hn => by have := hW.l t v hv n hn; omega, fun n z hz => ?_⟩, S.fr, S.sz, S.df, fun t v hv => ?_, fun n c o hz => ?_, fun n o k c q hn hk hne g hg hg' => ?_⟩
  · rw [lookH_cons] at hz
    split at hz
    · cases hz
      exact ⟨by omega, fun m hm => by simp [Ob.ns] at hm⟩
    · obtain ⟨g1, g2⟩ := hW.h n z hz
      exact ⟨by omega, fun k hk => by have := g2 k hk; omega⟩
  · rw [S.sl t v hv]
    exact (SV.den_same fun n hn => hsame n (hW.l t v hv n hn)).symm
  · rw [lookH_cons] at hz
    split at hz
    · rename_i hn
      cases hz
      subst hn
      refine ⟨⟨by rw [Env.put3_fp, Env.put3_val e hone]; exact h, hs⟩, fun g hg => ?_⟩
      rw [Env.put3_fp] at hg
      exact hg.elim
    · obtain ⟨h1, h2⟩ := hW.h n _ hz
      obtain ⟨h3, h4⟩ := S.ob n c o hz
      refine ⟨Ob.same (hsame n h1) h3 fun k hk => (hsame k (h2 k hk)).v, fun g hg => ?_⟩
      rw [(hsame n h1).2.2] at hg
      exact h4 g hg
  · rw [lookH_cons] at hn hk
    split at hn
    · rename_i h2
      subst h2
      rw [Env.put3_fp] at hg
      exact hg
    · split at hk
      · rename_i h2
        subst h2
        rw [Env.put3_fp] at hg'
        exact hg'
      · rw [(hsame n (hW.h n _ hn).1).2.2] at hg
        rw [(hsame k (hW.h k _ hk).1).2.2] at hg'
        exact S.dj n o k c q hn hk hne g hg hg'
theorem At.newE {P : Program} {F : Frm} {Q : Exit → Act → World → Prop} {c : Code} {ks : List KI} {L : LL} {H : HL} {nx : Nat} (φ : AbP) (v : Value) (hs : stable φ) (hone : v.oneCell' = true) (hp : ∀ w, φ v (fun _ => False) w) (h : At P F Q c ks L ((nx, some (true, .ab φ)) :: H) (nx + 1)) : At P F Q c ks L H nx :=
  ⟨fun hW e a w S => let ⟨hW', S'⟩ := S.newE hW φ v hs hone (hp w); h.h hW' _ a w S'⟩
theorem Done.newE {F : Frm} {Q : Act → World → Prop} {L : LL} {H : HL} {nx : Nat} (φ : AbP) (v : Value) (hs : stable φ) (hone : v.oneCell' = true) (hp : ∀ w, φ v (fun _ => False) w) (h : Done F Q L ((nx, some (true, .ab φ)) :: H) (nx + 1)) : Done F Q L H nx :=
  ⟨fun hW e a w S => let ⟨hW', S'⟩ := S.newE hW φ v hs hone (hp w); h.h hW' _ a w S'⟩
end Vc
namespace Cw
open Go Vc
open Go.Proofs
set_option maxRecDepth 100000
/-- A new change among all. -/
theorem At.growR {P : Program} {F : Frm} {Q : Exit → Act → World → Prop} {cd : Code} {ks : List KI} {L : LL} {H : HL} {nx : Nat} {V : DV} {W : List (List Int × Option Addr × Nat)} {R R' : List Ch} {at' o : Int} {t : ByteArray} {xs : List Int} (d q : Nat) (hd : lookH H d = some (true, .ab (adX V R.length (newC (und R) R.length at' (o, t) xs)))) (hq : lookH H q = some (true, .ab (frzP W))) (hdq : d ≠ q) (hR : DR V W R)
    (he : adB R.length at' o t V.length xs = 0) (zx : xs.length + V.length ≤ 17592186044416) (zt : t.size ≤ 9223372036854775807) (zr : R.length < 100000) (hR' : R ++ [newC (und R) R.length at' (o, t) xs] = R')
    (h : ∀ V' W', DR V' W' R' → At P F Q cd ks L ((q, some (true, .ab (frzP W'))) :: (d, some (true, .ab (depX V' R'.length))) :: H) nx) : At P F Q cd ks L H nx := by
  refine At.growX d q hd hq hdq fun v => ?_
  have h1 := hR.add he zx zt zr v
  rw [hR.eq] at h1
  subst hR'
  have := h _ _ h1
  rwa [show (((R ++ [newC (und R) R.length at' (o, t) xs]).length : Nat) : Int) = (R.length : Int) + 1 by simp] at this
theorem bt1_size (b : Int) : (bt1 b).size = 1 := rfl
theorem bt1_okp {o : Int} (b : Int) (h : 0 ≤ o ∧ o < 64) : okp (o, bt1 b) = true := by
  simp [okp, finside, bt1_size]
  omega
theorem bt1_fcheck {o : Int} (b : Int) (h : 0 ≤ o ∧ o < 64) : fcheck o (bt1 b).size = 0 := by
  have : finside o (bt1 b).size = true := bt1_okp b h
  rw [fcheck, if_pos this]
theorem bt1_ovb {o p : Int} (x y : Int) (h : 0 ≤ o ∧ o < 64) (h' : 0 ≤ p ∧ p < 64) : ovb (o, bt1 x) (p, bt1 y) = (o == p) := by
  have e : ove (o, bt1 x) (p, bt1 y) = 0 := if_pos ⟨bt1_okp x h, bt1_okp y h'⟩
  rw [ovb, if_pos e, both, Bool.eq_iff_iff, decide_eq_true_eq, beq_iff_eq]
  show max o p < min (o + ((bt1 x).size : Int)) (p + ((bt1 y).size : Int)) ↔ _
  rw [bt1_size, bt1_size]
  omega
theorem adB_zero {last at' o : Int} {b : Int} {n : Nat} {xs : List Int} (h1 : 0 ≤ at' ∧ at' < 2048) (h2 : 0 ≤ o ∧ o < 64) (h3 : ∀ x ∈ xs, 1 ≤ x ∧ x ≤ last) (h4 : n < 1024) : adB last at' o (bt1 b) n xs = 0 := by
  rw [adB, if_neg, if_neg, if_neg (by omega)]
  · rw [List.any_eq_true]
    rintro ⟨x, hx, hp⟩
    have := h3 x hx
    simp only [pdA, Bool.or_eq_true, decide_eq_true_eq] at hp
    omega
  · rintro (h | h | h)
    · omega
    · omega
    · exact h (bt1_fcheck b h2)
theorem lookD_void (n : Nat) : lookH [(0, none)] n = none := by
  rw [lookH_cons]
  split <;> rfl
theorem memD_void {W : Nat → Prop} (e : Env) (w : World) : Mem W [(0, none)] e w := ⟨fun n b o h => (by rw [lookD_void] at h; cases h), fun n o m c q h => (by rw [lookD_void] at h; cases h)⟩
def wc1 (s : Int) : Ch := ⟨1, 5, 0, bt1 1, [], s⟩
def wc2 (s : Int) : Ch := ⟨2, 6, 0, bt1 2, [1], s⟩
def wc3 : Ch := ⟨3, 5, 1, bt1 3, [2], 1⟩
def wR (a b : Int) : List Ch := [wc1 a, wc2 b, wc3]
theorem w_c1 : ([] : List Ch) ++ [newC (und []) ([] : List Ch).length 5 (0, bt1 1) []] = [wc1 1] := rfl
theorem w_c2 : [wc1 1] ++ [newC (und [wc1 1]) [wc1 1].length 6 (0, bt1 2) [1]] = [wc1 1, wc2 1] := by
  have : alls (und [wc1 1]) 6 (0, bt1 2) [1] = [1] := by rw [alls_eq]; simp [und, wc1]
  simp [newC, this, wc2]
theorem w_c3 : [wc1 1, wc2 1] ++ [newC (und [wc1 1, wc2 1]) [wc1 1, wc2 1].length 5 (1, bt1 3) [2]] = wR 1 1 := by
  have : alls (und [wc1 1, wc2 1]) 5 (1, bt1 3) [2] = [2] := by
    rw [alls_eq]
    have h1 := bt1_ovb (o := 0) (p := 1) 1 3 (by omega) (by omega)
    simp [und, wc1, wc2, h1]
  simp [newC, this, wc3, wR]
theorem w_a : rdyN (wR 1 1) 5 = [1] ∧ rdyN (wR 1 1) 6 = [] ∧ sdR (wR 1 1) 5 = wR 2 1 ∧ setK 5 0 (wR 2 1) = wR 0 1 := ⟨rfl, rfl, rfl, rfl⟩
theorem w_b : rdyN (wR 0 1) 6 = [2] ∧ rdyN (wR 0 1) 5 = [] ∧ sdR (wR 0 1) 6 = wR 0 2 ∧ setK 6 0 (wR 0 2) = wR 0 0 ∧ rdyN (wR 0 0) 5 = [3] := ⟨rfl, rfl, rfl, rfl, rfl⟩
end Cw
