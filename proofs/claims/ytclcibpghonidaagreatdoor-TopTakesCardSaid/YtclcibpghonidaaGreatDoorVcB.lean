/- A walk by reckoning: why a region that draws its order may be reckoned in the order of the text. No program in sight. -/
import Derived.Test.YtclcibpghonidaaGreatDoorVcA
import Derived.RegionTactic
namespace Vc
open Go Go.RowKit

section fold
variable {β : Type} (fs : Nat → Nat → Option (Option β))
def lastT : Nat → Nat → Option Nat
  | 0, _ => none
  | j + 1, k => if (fs j k).isSome then some j else lastT j k
def valS (S : Nat → Bool) (base : Nat → Option β) : Nat → Nat → Option β
  | 0, k => base k
  | j + 1, k => if S j then (fs j k).getD (valS S base j k) else valS S base j k
variable {fs} {S : Nat → Bool} {base : Nat → Option β}
theorem lastT_some {j k m : Nat} (h : lastT fs j k = some m) : m < j ∧ (fs m k).isSome = true ∧ ∀ i, m < i → i < j → fs i k = none := by
  induction j with
  | zero => cases h
  | succ j ih =>
    rw [lastT] at h
    split at h
    · rename_i h1
      cases h
      exact ⟨by omega, h1, fun i hi hi' => by omega⟩
    · rename_i h1
      obtain ⟨a, b, c⟩ := ih h
      refine ⟨by omega, b, fun i hi hi' => ?_⟩
      by_cases e : i = j
      · subst e
        simpa using h1
      · exact c i hi (by omega)
theorem lastT_none {j k : Nat} (h : lastT fs j k = none) : ∀ i, i < j → fs i k = none := by
  induction j with
  | zero => intro i hi; omega
  | succ j ih =>
    rw [lastT] at h
    split at h
    · cases h
    · rename_i h1
      intro i hi
      by_cases e : i = j
      · subst e
        simpa using h1
      · exact ih h i (by omega)
theorem lastT_ge {j k i : Nat} (hi : i < j) (h : fs i k ≠ none) : ∃ m, lastT fs j k = some m ∧ i ≤ m := by
  cases hl : lastT fs j k with
  | none => exact absurd (lastT_none hl i hi) h
  | some m =>
    refine ⟨m, rfl, ?_⟩
    rcases Nat.lt_or_ge m i with h1 | h1
    · exact absurd ((lastT_some hl).2.2 i h1 hi) h
    · exact h1
theorem valS_base {n k : Nat} (h : ∀ i, i < n → S i = true → fs i k = none) : valS fs S base n k = base k := by
  induction n with
  | zero => rfl
  | succ n ih =>
    have := ih (fun i hi => h i (by omega))
    rw [valS]
    split
    · rename_i h1
      rw [h n (by omega) h1]
      exact this
    · exact this
theorem valS_last {n k m : Nat} (hm : m < n) (hS : S m = true) {c : Option β} (hc : fs m k = some c) (h : ∀ i, m < i → i < n → S i = true → fs i k = none) : valS fs S base n k = c := by
  induction n with
  | zero => omega
  | succ n ih =>
    rw [valS]
    by_cases e : m = n
    · subst e
      rw [if_pos hS, hc]
      rfl
    · have := ih (by omega) (fun i h1 h2 => h i h1 (by omega))
      split
      · rename_i h1
        rw [h n (by omega) (by omega) h1]
        exact this
      · exact this
theorem valS_src {n k : Nat} {x : β} (h : valS fs S base n k = some x) : base k = some x ∨ ∃ i, i < n ∧ S i = true ∧ fs i k = some (some x) := by
  induction n with
  | zero => exact .inl h
  | succ n ih =>
    rw [valS] at h
    split at h
    · rename_i h1
      cases hf : fs n k with
      | none =>
        rw [hf] at h
        rcases ih h with h2 | ⟨i, h2, h3⟩
        · exact .inl h2
        · exact .inr ⟨i, by omega, h3⟩
      | some c =>
        rw [hf] at h
        exact .inr ⟨n, by omega, h1, by rw [hf]; exact congrArg some h⟩
    · rcases ih h with h2 | ⟨i, h2, h3⟩
      · exact .inl h2
      · exact .inr ⟨i, by omega, h3⟩
theorem valS_ins {n k j : Nat} {S' : Nat → Bool} (hj : j < n) (hSj : S j = false) (hS' : ∀ i, S' i = (S i || decide (i = j))) (h : ∀ i, j < i → i < n → S i = true → fs j k ≠ none → fs i k = none) :
    valS fs S' base n k = (fs j k).getD (valS fs S base n k) := by
  have same : ∀ m, m ≤ j → valS fs S' base m k = valS fs S base m k := by
    intro m hm
    induction m with
    | zero => rfl
    | succ m ih =>
      have h1 : S' m = S m := by rw [hS' m]; simp; intro e; omega
      rw [valS, valS, h1, ih (by omega)]
  have main : ∀ m, j < m → m ≤ n → valS fs S' base m k = (fs j k).getD (valS fs S base m k) := by
    intro m
    induction m with
    | zero => omega
    | succ m ih =>
      intro h1 h2
      by_cases e : m = j
      · subst e
        have h3 : S' m = true := by rw [hS' m]; simp
        rw [valS, if_pos h3, same m (Nat.le_refl _)]
        conv => rhs; rw [valS, if_neg (by rw [hSj]; simp)]
      · have h3 : S' m = S m := by rw [hS' m]; simp [e]
        rw [valS, h3]
        conv => rhs; rw [valS]
        have h4 := ih (by omega) (by omega)
        by_cases h5 : S m = true
        · rw [if_pos h5, if_pos h5, h4]
          cases hf : fs j k with
          | none => rfl
          | some c =>
            have := h m (by omega) (by omega) h5 (by rw [hf]; simp)
            rw [this]
            rfl
        · rw [if_neg h5, if_neg h5, h4]
  exact main n hj (Nat.le_refl _)
end fold

section draw
variable (Rf : Nat → Rc)
def fsL (i t : Nat) : Option (Option SV) := if (Rf i).o.dst = some t then some (some (Rf i).E.v) else none
def fsH (i n : Nat) : Option (Option (Bool × Ob)) :=
  if (Rf i).nx ≤ n ∧ n < (Rf i).nx + (Rf i).E.news.length then some ((Rf i).E.news[n - (Rf i).nx]?)
  else match (Rf i).E.upd.find? (fun x => x.1 == n) with
    | some (_, some o) => some (some (true, o))
    | some (_, none) => some none
    | none => none
theorem nextL_fs (i : Nat) (L : LF) : nextL (Rf i).o.dst (Rf i).E.v L = fun t => (fsL Rf i t).getD (L t) := by
  funext t
  unfold nextL fsL
  split <;> rfl
theorem nextH_fs (i : Nat) (H : HF) : nextH (Rf i).nx (Rf i).E H = fun n => (fsH Rf i n).getD (H n) := by
  funext n
  unfold nextH fsH
  split
  · rfl
  · cases hf : (Rf i).E.upd.find? (fun x => x.1 == n) with
    | none => rfl
    | some x =>
      obtain ⟨_, o⟩ := x
      cases o <;> rfl
def nameOk (nx0 i n : Nat) : Prop := n < nx0 ∨ ∃ m, (m = i ∨ bit (Rf i).anc m = true) ∧ (Rf m).nx ≤ n ∧ n < (Rf m).nx + (Rf m).E.news.length

structure Cond (st : Stp) (orc : List (Nat × Orc)) (ops : List Oper) (N : Nat) (L0 : LF) (H0 : HF) (nx0 i : Nat) : Prop where
  dep : ∀ e ∈ (Rf i).o.after.toList, Region.binds .any e = true → bit (Rf i).anc e.on = true
  gen : ∀ m, bit (Rf i).anc m = true → m < i ∧ ∃ e ∈ (Rf i).o.after.toList, Region.binds .any e = true ∧ (m = e.on ∨ bit (Rf e.on).anc m = true)
  step : ∃ Lj Hj, stepG st orc ops Lj Hj (Rf i).nx (Rf i).o = some (Rf i).E ∧
    (∀ t v, look t Lj = some v → t ∈ (Rf i).rds ∧ match lastT (fsL Rf) i t with | some m => bit (Rf i).anc m = true ∧ v = (Rf m).E.v | none => L0 t = some v) ∧
    (∀ k x, lookH Hj k = some x → k ∈ (Rf i).us ∧ match lastT (fsH Rf) i k with | some m => bit (Rf i).anc m = true ∧ fsH Rf m k = some (some x) | none => H0 k = some x) ∧
    (∀ k o, (k, o) ∈ (Rf i).E.upd → ∃ o0, lookH Hj k = some (true, o0))
  nd : ∀ n o o', (n, o) ∈ (Rf i).E.upd → (n, o') ∈ (Rf i).E.upd → o = o'
  k2 : ∀ d, (Rf i).o.dst = some d → ∀ m, m < i → (d ∈ (Rf m).rds ∨ (Rf m).o.dst = some d) → bit (Rf i).anc m = true
  k4 : ∀ k o, (k, o) ∈ (Rf i).E.upd → ∀ m, m < i → k ∈ (Rf m).us → bit (Rf i).anc m = true
  nv : ∀ n ∈ (Rf i).E.v.ns, nameOk Rf nx0 i n
  nn : ∀ x ∈ (Rf i).E.news, ∀ n ∈ x.2.ns, nameOk Rf nx0 i n
  nu : ∀ k o, (k, some o) ∈ (Rf i).E.upd → ∀ n ∈ o.ns, nameOk Rf nx0 i n
  ds : ∀ t, (Rf i).o.dst = some t → t < N
  z : i = 0 → (Rf i).nx = nx0
  s : ∀ m, i = m + 1 → (Rf i).nx = (Rf m).nx + (Rf m).E.news.length

variable {Rf}
theorem fsH_upd {i k : Nat} (h : fsH Rf i k ≠ none) : ((Rf i).nx ≤ k ∧ k < (Rf i).nx + (Rf i).E.news.length) ∨ ∃ o, (k, o) ∈ (Rf i).E.upd := by
  unfold fsH at h
  split at h
  · rename_i h1; exact .inl h1
  · split at h
    · rename_i q o hf
      have h1 := List.find?_some hf
      have h2 := List.mem_of_find?_eq_some hf
      simp at h1
      subst h1
      exact .inr ⟨_, h2⟩
    · rename_i q hf
      have h1 := List.find?_some hf
      have h2 := List.mem_of_find?_eq_some hf
      simp at h1
      subst h1
      exact .inr ⟨_, h2⟩
    · exact absurd rfl h
variable {st : Stp} {orc : List (Nat × Orc)} {ops : Array Oper} {F : Frm} {L0 : LF} {H0 : HF} {nx0 n : Nat}
variable (hC : ∀ i, i < n → Cond Rf st orc ops.toList F.N L0 H0 nx0 i)
include hC

theorem nx_ge : ∀ i, i < n → nx0 ≤ (Rf i).nx
  | 0, h => by rw [(hC 0 h).z rfl]; exact Nat.le_refl _
  | i + 1, h => by
    have := nx_ge i (by omega)
    have := (hC (i + 1) h).s i rfl
    omega
theorem nx_lt : ∀ i j, i < j → j < n → (Rf i).nx + (Rf i).E.news.length ≤ (Rf j).nx
  | i, 0, h, _ => by omega
  | i, j + 1, h, hj => by
    have h1 := (hC (j + 1) hj).s j rfl
    by_cases e : i = j
    · subst e; omega
    · have := nx_lt i j (by omega) (by omega)
      omega
theorem anc_closed {S : Nat → Bool} (hS : ∀ i, i < n → S i = true → ∀ e ∈ (Rf i).o.after.toList, Region.binds .any e = true → S e.on = true) : ∀ i, i < n → S i = true → ∀ m, bit (Rf i).anc m = true → S m = true := by
  intro i
  induction i using Nat.strongRecOn with
  | _ i ih =>
    intro hi hSi m hm
    obtain ⟨hlt, e, he, hb, h⟩ := (hC i hi).gen m hm
    have h1 := hS i hi hSi e he hb
    rcases h with rfl | h
    · exact h1
    · have h2 := ((hC i hi).gen e.on ((hC i hi).dep e he hb)).1
      exact ih e.on h2 (by omega) h1 m h
/-- A name that is told of was there. -/
theorem touch_lt : ∀ i, i < n → ∀ k, fsH Rf i k ≠ none → (∀ k x, H0 k = some x → k < nx0) → k < (Rf i).nx + (Rf i).E.news.length := by
  intro i
  induction i using Nat.strongRecOn with
  | _ i ih =>
    intro hi k hk h0
    unfold fsH at hk
    split at hk
    · omega
    · split at hk
      · rename_i q o hf
        have h1 := List.find?_some hf
        have h2 := List.mem_of_find?_eq_some hf
        simp at h1
        subst h1
        obtain ⟨Lj, Hj, _, _, h5, h6⟩ := (hC i hi).step
        obtain ⟨o0, h7⟩ := h6 _ _ h2
        obtain ⟨_, h8⟩ := h5 _ _ h7
        split at h8
        · rename_i m hm
          obtain ⟨a, b, _⟩ := lastT_some hm
          have := ih m a (by omega) q (by rw [h8.2]; simp) h0
          have := nx_lt hC m i a hi
          omega
        · have := h0 _ _ h8
          have := nx_ge hC i hi
          omega
      · rename_i q hf
        have h1 := List.find?_some hf
        have h2 := List.mem_of_find?_eq_some hf
        simp at h1
        subst h1
        obtain ⟨Lj, Hj, _, _, h5, h6⟩ := (hC i hi).step
        obtain ⟨o0, h7⟩ := h6 _ _ h2
        obtain ⟨_, h8⟩ := h5 _ _ h7
        split at h8
        · rename_i m hm
          obtain ⟨a, b, _⟩ := lastT_some hm
          have := ih m a (by omega) q (by rw [h8.2]; simp) h0
          have := nx_lt hC m i a hi
          omega
        · have := h0 _ _ h8
          have := nx_ge hC i hi
          omega
      · exact absurd rfl hk

omit hC in
theorem known_lt {k : Nat} {x : Bool × Ob} {j : Nat} (hj : j < n) (hC : ∀ i, i < n → Cond Rf st orc ops.toList F.N L0 H0 nx0 i) (h0 : ∀ k x, H0 k = some x → k < nx0)
    (h : match lastT (fsH Rf) j k with | some m => bit (Rf j).anc m = true ∧ fsH Rf m k = some (some x) | none => H0 k = some x) : k < (Rf j).nx := by
  split at h
  · rename_i m hm
    obtain ⟨a, _, _⟩ := lastT_some hm
    have := touch_lt hC m (by omega) k (by rw [h.2]; simp) h0
    have := nx_lt hC m j a hj
    omega
  · have := h0 _ _ h
    have := nx_ge hC j hj
    omega

/-- Who tells of a name anew behind j, and is done, has j behind it. -/
theorem upd_behind {S : Nat → Bool} {j : Nat} (h0 : ∀ k x, H0 k = some x → k < nx0) (hS : ∀ i, i < n → S i = true → ∀ e ∈ (Rf i).o.after.toList, Region.binds .any e = true → S e.on = true) (hSj : S j = false) {k : Nat} (hk : fsH Rf j k ≠ none) :
    ∀ i, j < i → i < n → S i = true → fsH Rf i k = none := by
  intro i
  induction i using Nat.strongRecOn with
  | _ i ih =>
    intro hji hi hSi
    cases hf : fsH Rf i k with
    | none => rfl
    | some c =>
      exfalso
      have hjn : j < n := by omega
      have h1 := touch_lt hC j hjn k hk h0
      have h2 := nx_lt hC j i hji hi
      rcases fsH_upd (i := i) (k := k) (by rw [hf]; simp) with h3 | ⟨o, h3⟩
      · omega
      · obtain ⟨Lj, Hj, _, _, h5, h6⟩ := (hC i hi).step
        obtain ⟨o0, h7⟩ := h6 _ _ h3
        obtain ⟨_, h8⟩ := h5 _ _ h7
        obtain ⟨m, hm, hjm⟩ := lastT_ge hji hk
        rw [hm] at h8
        obtain ⟨a, b, c⟩ := lastT_some hm
        have hSm := anc_closed hC hS i hi hSi m h8.1
        by_cases e : m = j
        · subst e
          rw [hSj] at hSm
          cases hSm
        · have := ih m a (by omega) (by omega) hSm
          rw [h8.2] at this
          cases this

theorem name_origin {S : Nat → Bool} (h0 : ∀ k x, H0 k = some x → k < nx0) (hS : ∀ i, i < n → S i = true → ∀ e ∈ (Rf i).o.after.toList, Region.binds .any e = true → S e.on = true) {k : Nat} :
    ∀ i, i < n → S i = true → fsH Rf i k ≠ none → k < nx0 ∨ ∃ m, m < n ∧ S m = true ∧ (Rf m).nx ≤ k ∧ k < (Rf m).nx + (Rf m).E.news.length := by
  intro i
  induction i using Nat.strongRecOn with
  | _ i ih =>
    intro hi hSi hf
    rcases fsH_upd hf with h3 | ⟨o, h3⟩
    · exact .inr ⟨i, hi, hSi, h3⟩
    · obtain ⟨Lj, Hj, _, _, h5, h6⟩ := (hC i hi).step
      obtain ⟨o0, h7⟩ := h6 _ _ h3
      obtain ⟨_, h8⟩ := h5 _ _ h7
      split at h8
      · rename_i m hm
        obtain ⟨a, b, c⟩ := lastT_some hm
        exact ih m a (by omega) (anc_closed hC hS i hi hSi m h8.1) (by rw [h8.2]; simp)
      · exact .inl (h0 _ _ h8)

theorem out_of {S : Nat → Bool} {j : Nat} (hj : j < n) (hSj : S j = false) {k : Nat} (h : k < nx0 ∨ ∃ m, m < n ∧ S m = true ∧ (Rf m).nx ≤ k ∧ k < (Rf m).nx + (Rf m).E.news.length) : outN (Rf j).nx (Rf j).E.news.length k := by
  unfold outN
  rcases h with h | ⟨m, hm, hSm, h1, h2⟩
  · have := nx_ge hC j hj
    omega
  · rcases Nat.lt_trichotomy m j with h3 | h3 | h3
    · have := nx_lt hC m j h3 hj
      omega
    · subst h3
      rw [hSj] at hSm
      cases hSm
    · have := nx_lt hC j m h3 hm
      omega
theorem name_of {S : Nat → Bool} (hS : ∀ i, i < n → S i = true → ∀ e ∈ (Rf i).o.after.toList, Region.binds .any e = true → S e.on = true) {i : Nat} (hi : i < n) (hSi : S i = true) {k : Nat} (h : nameOk Rf nx0 i k) : k < nx0 ∨ ∃ m, m < n ∧ S m = true ∧ (Rf m).nx ≤ k ∧ k < (Rf m).nx + (Rf m).E.news.length := by
  rcases h with h | ⟨m, h1, h2⟩
  · exact .inl h
  · rcases h1 with rfl | h1
    · exact .inr ⟨m, hi, hSi, h2⟩
    · exact .inr ⟨m, by have := ((hC i hi).gen m h1).1; omega, anc_closed hC hS i hi hSi m h1, h2⟩

theorem draw_key {P : Program} (hst : Sound P st) (hobs : ∀ i, i < n → allP (Rf i).E.obs) (hl0 : ∀ t v, L0 t = some v → ∀ m ∈ v.ns, m < nx0) (hh0 : ∀ k x, H0 k = some x → k < nx0 ∧ ∀ m ∈ x.2.ns, m < nx0)
    {S S' : Nat → Bool} (hS : ∀ i, i < n → S i = true → ∀ e ∈ (Rf i).o.after.toList, Region.binds .any e = true → S e.on = true) {j : Nat} (hj : j < n) (hSj : S j = false) (hS' : ∀ i, S' i = (S i || decide (i = j)))
    (hdep : ∀ e ∈ (Rf j).o.after.toList, Region.binds .any e = true → S e.on = true) {e : Env} {a : Act} {w : World}
    (hSat : Sat F (valS (fsL Rf) S L0 n) (valS (fsH Rf) S H0 n) e a w) (K : Act → World → Prop) (Q : Exit → Act → World → Prop)
    (hK : ∀ e' a' w', Sat F (valS (fsL Rf) S' L0 n) (valS (fsH Rf) S' H0 n) e' a' w' → K a' w') :
    if Region.wanted (Rf j).o (yielded ops a.tmps) then (Rf j).o.wp P a w K Q else K (a.put (Rf j).o.dst undef) w := by
  have h0 : ∀ k x, H0 k = some x → k < nx0 := fun k x h => (hh0 k x h).1
  have hanc : ∀ m, bit (Rf j).anc m = true → S m = true := by
    intro m hm
    obtain ⟨hlt, e, he, hb, h⟩ := (hC j hj).gen m hm
    have h1 := hdep e he hb
    rcases h with rfl | h
    · exact h1
    · have h2 := ((hC j hj).gen e.on ((hC j hj).dep e he hb)).1
      exact anc_closed hC hS e.on (by omega) h1 m h
  obtain ⟨Lj, Hj, hE, hLj, hHj, hUj⟩ := (hC j hj).step
  -- what is seen by the operation stands
  have seeL : ∀ t v, look t Lj = some v → valS (fsL Rf) S L0 n t = some v := by
    intro t v ht
    obtain ⟨hr, h⟩ := hLj t v ht
    have later : ∀ i, j ≤ i → i < n → S i = true → fsL Rf i t = none := by
      intro i hji hi hSi
      cases hf : fsL Rf i t with
      | none => rfl
      | some c =>
        exfalso
        have hd : (Rf i).o.dst = some t := by
          unfold fsL at hf
          split at hf
          · assumption
          · cases hf
        have hij : j ≠ i := fun e => by rw [← e, hSj] at hSi; cases hSi
        have h1 := (hC i hi).k2 t hd j (by omega) (.inl hr)
        have := anc_closed hC hS i hi hSi j h1
        rw [hSj] at this
        cases this
    split at h
    · rename_i m hm
      obtain ⟨a, b, c⟩ := lastT_some hm
      have hf : fsL Rf m t = some (some v) := by
        cases hf : fsL Rf m t with
        | none => rw [hf] at b; cases b
        | some x =>
          unfold fsL at hf
          split at hf
          · rw [h.2]; exact hf.symm
          · cases hf
      refine valS_last (by omega) (hanc m h.1) hf fun i h1 h2 h3 => ?_
      rcases Nat.lt_or_ge i j with h4 | h4
      · exact c i h1 h4
      · exact later i h4 h2 h3
    · rename_i hm
      rw [valS_base]
      · exact h
      · intro i hi hSi
        rcases Nat.lt_or_ge i j with h4 | h4
        · exact lastT_none hm i h4
        · exact later i h4 hi hSi
  have seeH : ∀ k x, lookH Hj k = some x → valS (fsH Rf) S H0 n k = some x := by
    intro k x hk
    obtain ⟨hu, h⟩ := hHj k x hk
    have hlt := known_lt hj hC h0 h
    have later : ∀ i, j ≤ i → i < n → S i = true → fsH Rf i k = none := by
      intro i hji hi hSi
      cases hf : fsH Rf i k with
      | none => rfl
      | some c =>
        exfalso
        have hij : j ≠ i := fun e => by rw [← e, hSj] at hSi; cases hSi
        have h2 := nx_lt hC j i (by omega) hi
        rcases fsH_upd (i := i) (k := k) (by rw [hf]; simp) with h3 | ⟨o, h3⟩
        · omega
        · have h4 := (hC i hi).k4 k o h3 j (by omega) hu
          have := anc_closed hC hS i hi hSi j h4
          rw [hSj] at this
          cases this
    split at h
    · rename_i m hm
      obtain ⟨a, b, c⟩ := lastT_some hm
      refine valS_last (by omega) (hanc m h.1) h.2 fun i h1 h2 h3 => ?_
      rcases Nat.lt_or_ge i j with h4 | h4
      · exact c i h1 h4
      · exact later i h4 h2 h3
    · rename_i hm
      rw [valS_base]
      · exact h
      · intro i hi hSi
        rcases Nat.lt_or_ge i j with h4 | h4
        · exact lastT_none hm i h4
        · exact later i h4 hi hSi
  have nameLow : ∀ m, m < j → ∀ k, nameOk Rf nx0 m k → k < (Rf j).nx := by
    intro m hm k hk
    rcases hk with hk | ⟨q, hq, hk⟩
    · have := nx_ge hC j hj
      omega
    · have hqm : q < j := by
        rcases hq with rfl | hq
        · exact hm
        · have := ((hC m (by omega)).gen q hq).1; omega
      have := nx_lt hC q j hqm hj
      omega
  have hlow : Low (fun t => look t Lj) (lookH Hj) (Rf j).nx := by
    refine ⟨fun t v ht k hk => ?_, fun k x hk => ?_⟩
    · obtain ⟨_, h⟩ := hLj t v ht
      split at h
      · rename_i m hm
        obtain ⟨a1, _, _⟩ := lastT_some hm
        rw [h.2] at hk
        exact nameLow m a1 k ((hC m (by omega)).nv k hk)
      · have := hl0 t v h k hk
        have := nx_ge hC j hj
        omega
    · obtain ⟨_, h⟩ := hHj k x hk
      refine ⟨known_lt hj hC h0 h, fun q hq => ?_⟩
      split at h
      · rename_i m hm
        obtain ⟨a1, _, _⟩ := lastT_some hm
        have h1 := h.2
        unfold fsH at h1
        split at h1
        · exact nameLow m a1 q ((hC m (by omega)).nn x (List.mem_of_getElem? (Option.some.inj h1)) q hq)
        · split at h1
          · rename_i q' o hf
            have h2 := List.mem_of_find?_eq_some hf
            cases h1
            exact nameLow m a1 q ((hC m (by omega)).nu _ _ h2 q hq)
          · cases h1
          · cases h1
      · have := (hh0 k x h).2 q hq
        have := nx_ge hC j hj
        omega
  have hG := stepG_ok (F := F) hst hE (hobs j hj) hlow e a w (hSat.weak seeL seeH) K Q
  refine hG fun e' w' M => hK e' _ w' ?_
  have hs := sat_step (d := (Rf j).o.dst) hSat M ?_ ?_ ?_ (hC j hj).nd (hC j hj).ds
  · rw [nextL_fs, nextH_fs] at hs
    refine hs.weak (fun t v h => ?_) (fun k x h => ?_)
    · rw [valS_ins hj hSj hS'] at h
      · exact h
      · intro i hji hi hSi hf
        cases hf2 : fsL Rf i t with
        | none => rfl
        | some c =>
          exfalso
          have hd : (Rf i).o.dst = some t := by
            unfold fsL at hf2
            split at hf2
            · assumption
            · cases hf2
          have hd' : (Rf j).o.dst = some t := by
            unfold fsL at hf
            split at hf
            · assumption
            · exact absurd rfl hf
          have h1 := (hC i hi).k2 t hd j hji (.inr hd')
          have := anc_closed hC hS i hi hSi j h1
          rw [hSj] at this
          cases this
    · rw [valS_ins hj hSj hS'] at h
      · exact h
      · intro i hji hi hSi hf
        exact upd_behind hC h0 hS hSj hf i hji hi hSi
  · intro t v h k hk
    rcases valS_src h with h1 | ⟨i, hi, hSi, h1⟩
    · exact out_of hC hj hSj (.inl (hl0 t v h1 k hk))
    · have : v = (Rf i).E.v := by
        unfold fsL at h1
        split at h1
        · cases h1; rfl
        · cases h1
      subst this
      exact out_of hC hj hSj (name_of hC hS hi hSi ((hC i hi).nv k hk))
  · intro k x h
    rcases valS_src h with h1 | ⟨i, hi, hSi, h1⟩
    · exact ⟨out_of hC hj hSj (.inl (hh0 k x h1).1), fun m hm => out_of hC hj hSj (.inl ((hh0 k x h1).2 m hm))⟩
    · refine ⟨out_of hC hj hSj (name_origin hC h0 hS i hi hSi (by rw [h1]; simp)), fun m hm => ?_⟩
      have hok : nameOk Rf nx0 i m := by
        unfold fsH at h1
        split at h1
        · exact (hC i hi).nn x (List.mem_of_getElem? (Option.some.inj h1)) m hm
        · split at h1
          · rename_i q o hf
            have h2 := List.mem_of_find?_eq_some hf
            cases h1
            exact (hC i hi).nu _ _ h2 m hm
          · cases h1
          · cases h1
      exact out_of hC hj hSj (name_of hC hS hi hSi hok)
  · intro k o h
    obtain ⟨o0, h1⟩ := hUj k o h
    exact ⟨o0, seeH k _ h1⟩

omit hC in
theorem count_set (l : List Bool) : ∀ i, l[i]? = some false → (l.set i true).count false + 1 = l.count false := by
  induction l with
  | nil => intro i h; simp at h
  | cons x l ih =>
    intro i h
    cases i with
    | zero => simp at h; subst h; simp
    | succ i =>
      have := ih i (by simpa using h)
      simp only [List.set_cons_succ, List.count_cons]
      omega
omit hC in
theorem count_zero (l : List Bool) (h : l.count false = 0) (i : Nat) (hi : i < l.length) : l[i]? = some true := by
  rw [List.getElem?_eq_getElem hi]
  have : l[i] ≠ false := fun e => by
    have := List.count_eq_zero.1 h
    exact this (e ▸ List.getElem_mem hi)
  simpa using this

theorem draw_any {P : Program} (hst : Sound P st) (hobs : ∀ i, i < n → allP (Rf i).E.obs) (hl0 : ∀ t v, L0 t = some v → ∀ m ∈ v.ns, m < nx0) (hh0 : ∀ k x, H0 k = some x → k < nx0 ∧ ∀ m ∈ x.2.ns, m < nx0)
    (hn : ops.size = n) (ho : ∀ i, i < n → ops[i]? = some (Rf i).o) {Q : Exit → Act → World → Prop}
    (hQ : ∀ e a w, Sat F (valS (fsL Rf) (fun _ => true) L0 n) (valS (fsH Rf) (fun _ => true) H0 n) e a w → Q .normal a w) :
    ∀ (fuel : Nat) (listed : Array Bool) (a : Act) (w : World), listed.size = n → listed.toList.count false ≤ fuel →
      (∀ i, i < n → listed.getD i false = true → ∀ e ∈ (Rf i).o.after.toList, Region.binds .any e = true → listed.getD e.on false = true) →
      (∃ e, Sat F (valS (fsL Rf) (fun i => listed.getD i false) L0 n) (valS (fsH Rf) (fun i => listed.getD i false) H0 n) e a w) → wpAny P .any ops Q fuel listed a w := by
  have all_of : ∀ (listed : Array Bool) (a : Act) (w : World), listed.size = n → (∀ i, i < n → listed.getD i false = true) →
      (∃ e, Sat F (valS (fsL Rf) (fun i => listed.getD i false) L0 n) (valS (fsH Rf) (fun i => listed.getD i false) H0 n) e a w) → Q .normal a w := by
    rintro listed a w hs hall ⟨e, hS⟩
    have same : ∀ {β : Type} (fs : Nat → Nat → Option (Option β)) (base : Nat → Option β) m, m ≤ n → ∀ k, valS fs (fun i => listed.getD i false) base m k = valS fs (fun _ => true) base m k := by
      intro β fs base m
      induction m with
      | zero => intro _ _; rfl
      | succ m ih =>
        intro hm k
        rw [valS, valS, hall m (by omega), ih (by omega)]
    refine hQ e a w (hS.weak (fun t v h => ?_) (fun k x h => ?_))
    · rw [same _ _ n (Nat.le_refl _)]; exact h
    · rw [same _ _ n (Nat.le_refl _)]; exact h
  have getD_lt : ∀ (listed : Array Bool) (i : Nat) (d : Bool), i < listed.size → listed.getD i d = listed.getD i false := by
    intro listed i d h
    simp [Array.getD_eq_getD_getElem?, h]
  have dep_lt : ∀ i, i < n → ∀ e ∈ (Rf i).o.after.toList, Region.binds .any e = true → e.on < i := fun i hi e he hb => ((hC i hi).gen e.on ((hC i hi).dep e he hb)).1
  have ready_all : ∀ (listed : Array Bool), listed.size = n → Region.ready .any ops listed = [] → ∀ i, i < n → listed.getD i false = true := by
    intro listed hs hr i
    induction i using Nat.strongRecOn with
    | _ i ih =>
      intro hi
      cases hg : listed.getD i false with
      | true => rfl
      | false =>
        exfalso
        have hmem : i ∈ Region.ready .any ops listed := by
          rw [mem_ready]
          refine ⟨by rw [getD_lt _ _ _ (by omega)]; exact hg, (Rf i).o, ho i hi, fun e he hb => ?_⟩
          have h1 := dep_lt i hi e (by simpa using he) hb
          exact ih e.on h1 (by omega)
        rw [hr] at hmem
        cases hmem
  intro fuel
  induction fuel with
  | zero =>
    intro listed a w hs hc hcl hI
    have hall : ∀ i, i < n → listed.getD i false = true := fun i hi => by
      have := count_zero listed.toList (by omega) i (by simpa [hs] using hi)
      simp only [Array.getElem?_toList] at this
      simp [Array.getD_eq_getD_getElem?, this]
    refine ⟨?_, all_of listed a w hs hall hI⟩
    rw [List.eq_nil_iff_forall_not_mem]
    intro i hi
    obtain ⟨h1, o, ho', _⟩ := mem_ready.1 hi
    have hil : i < n := by
      rcases Nat.lt_or_ge i n with h | h
      · exact h
      · rw [Array.getElem?_eq_none (by omega)] at ho'; cases ho'
    rw [getD_lt _ _ _ (by omega), hall i hil] at h1
    cases h1
  | succ fuel ih =>
    intro listed a w hs hc hcl hI
    refine ⟨fun hr => all_of listed a w hs (ready_all listed hs hr) hI, fun i hi => ?_⟩
    obtain ⟨h1, o, ho', hdep⟩ := mem_ready.1 hi
    have hil : i < n := by
      rcases Nat.lt_or_ge i n with h | h
      · exact h
      · rw [Array.getElem?_eq_none (by omega)] at ho'; cases ho'
    rw [getD_lt _ _ _ (by omega)] at h1
    rw [ho i hil] at ho'
    cases ho'
    obtain ⟨e, hS⟩ := hI
    have hS' : ∀ m, (fun m => (listed.setIfInBounds i true).getD m false) m = ((fun m => listed.getD m false) m || decide (m = i)) := by
      intro m
      by_cases e : m = i
      · subst e
        simp [Array.getD_eq_getD_getElem?, hs, hil]
      · have e' : ¬ i = m := fun h => e h.symm
        simp [Array.getD_eq_getD_getElem?, e, e']
    have hd : ∀ e ∈ (Rf i).o.after.toList, Region.binds .any e = true → listed.getD e.on false = true := fun e he hb => hdep e (by simpa using he) hb
    have key := draw_key hC hst hobs hl0 hh0 hcl hil h1 hS' hd hS (wpAny P .any ops Q fuel (listed.setIfInBounds i true)) Q ?_
    · unfold wpOp
      rw [ho i hil]
      simp only
      split
      · rename_i hw
        rw [if_pos hw] at key
        exact .inl key
      · rename_i hw
        rw [if_neg hw] at key
        exact key
    · intro e' a' w' hS2
      refine ih _ a' w' (by simpa using hs) ?_ ?_ ⟨e', hS2⟩
      · have hli : listed.toList[i]? = some false := by
          have h4 : i < listed.size := by omega
          simp [Array.getD_eq_getD_getElem?, h4] at h1 ⊢
          exact h1
        have := count_set listed.toList i hli
        rw [Array.toList_setIfInBounds]
        omega
      · intro m hm hSm e he hb
        have g := hS' m
        have ge := hS' e.on
        simp only at g ge
        rw [g] at hSm
        rw [ge]
        rw [Bool.or_eq_true] at hSm
        rcases hSm with h2 | h2
        · rw [hcl m hm h2 e he hb]; rfl
        · have : m = i := by simpa using h2
          subst this
          rw [hd e he hb]; rfl
end draw
end Vc
namespace Vc
open Go Go.RowKit

theorem look_mem {α : Type} {n : Nat} {x : α} : ∀ {l : List (Nat × α)}, look n l = some x → (n, x) ∈ l
  | [], h => by cases h
  | (m, y) :: l, h => by
    rw [look_cons] at h
    split at h
    · rename_i e
      cases h
      subst e
      simp
    · exact List.mem_cons.2 (.inr (look_mem h))
theorem ancE_ok {R : Type} {rs : List (Nat × Rc)} {f : Nat → Nat → R} {g r : R} (hg : g ≠ r) : ∀ {l : List Edge} {an am : Nat}, ancE rs l an am f g = r →
    ∃ an' am', f an' am' = r ∧ (∀ m, bit an' m = true ↔ bit an m = true ∨ ∃ e ∈ l, Region.binds .any e = true ∧ ∃ re, look e.on rs = some re ∧ (m = e.on ∨ bit re.anc m = true)) ∧
      (∀ e ∈ l, Region.binds .any e = true → ∃ re, look e.on rs = some re) ∧ (∀ k, bit am' k = true → bit am k = true ∨ ∃ e ∈ l, Region.binds .any e = true ∧ ∃ re, look e.on rs = some re ∧ bit re.am k = true)
  | [], an, am, h => ⟨an, am, h, fun m => by simp, by simp, fun k hk => .inl hk⟩
  | e :: l, an, am, h => by
    unfold ancE at h
    split at h
    · rename_i hb
      obtain ⟨an', am', h1, h2, h3, h4⟩ := ancE_ok hg h
      refine ⟨an', am', h1, fun m => ?_, fun e' he hb' => ?_, fun k hk => ?_⟩
      · rw [h2 m]
        constructor
        · rintro (h | ⟨e', he, h⟩)
          · exact .inl h
          · exact .inr ⟨e', List.mem_cons.2 (.inr he), h⟩
        · rintro (h | ⟨e', he, hb', h⟩)
          · exact .inl h
          · rcases List.mem_cons.1 he with rfl | he
            · rw [hb] at hb'; cases hb'
            · exact .inr ⟨e', he, hb', h⟩
      · rcases List.mem_cons.1 he with rfl | he
        · rw [hb] at hb'; cases hb'
        · exact h3 e' he hb'
      · rcases h4 k hk with h | ⟨e', he, h⟩
        · exact .inl h
        · exact .inr ⟨e', List.mem_cons.2 (.inr he), h⟩
    · rename_i hb
      split at h
      · rename_i re hre
        simp only [fRc_eq, fN_eq] at h
        obtain ⟨an', am', h1, h2, h3, h4⟩ := ancE_ok hg h
        refine ⟨an', am', h1, fun m => ?_, fun e' he hb' => ?_, fun k hk => ?_⟩
        · rw [h2 m, bit_or, bit_or, bit_pow]
          simp only [Bool.or_eq_true, decide_eq_true_eq]
          constructor
          · rintro ((h | h | h) | ⟨e', he, h⟩)
            · exact .inl h
            · exact .inr ⟨e, by simp, hb, re, hre, .inl h.symm⟩
            · exact .inr ⟨e, by simp, hb, re, hre, .inr h⟩
            · exact .inr ⟨e', List.mem_cons.2 (.inr he), h⟩
          · rintro (h | ⟨e', he, hb', re', hre', h⟩)
            · exact .inl (.inl h)
            · rcases List.mem_cons.1 he with rfl | he
              · rw [hre] at hre'
                cases hre'
                rcases h with h | h
                · exact .inl (.inr (.inl h.symm))
                · exact .inl (.inr (.inr h))
              · exact .inr ⟨e', he, hb', re', hre', h⟩
        · rcases List.mem_cons.1 he with rfl | he
          · exact ⟨re, hre⟩
          · exact h3 e' he hb'
        · rcases h4 k hk with h | ⟨e', he, h⟩
          · rw [bit_or, Bool.or_eq_true] at h
            rcases h with h | h
            · exact .inl h
            · exact .inr ⟨e, by simp, hb, re, hre, h⟩
          · exact .inr ⟨e', List.mem_cons.2 (.inr he), h⟩
      · exact absurd h hg
theorem visL_ok {an : Nat} {X : LX} {t : Nat} {v : SV} : ∀ {l : List Nat}, look t (visL an X l) = some v → t ∈ l ∧ ∃ tag, look t X = some (v, tag) ∧ ∀ i, tag = i + 1 → bit an i = true
  | [], h => by cases h
  | d :: l, h => by
    unfold visL at h
    have rest : look t (visL an X l) = some v → t ∈ d :: l ∧ ∃ tag, look t X = some (v, tag) ∧ ∀ i, tag = i + 1 → bit an i = true := fun h => by
      obtain ⟨h1, h2⟩ := visL_ok h
      exact ⟨List.mem_cons.2 (.inr h1), h2⟩
    split at h
    · rename_i v0 hv
      rw [look_cons] at h
      split at h
      · rename_i e
        subst e
        cases h
        exact ⟨by simp, 0, hv, fun i hi => by cases hi⟩
      · exact rest h
    · rename_i v0 i hv
      split at h
      · rename_i hb
        rw [look_cons] at h
        split at h
        · rename_i e
          subst e
          cases h
          exact ⟨by simp, i + 1, hv, fun i' hi => by cases hi; exact hb⟩
        · exact rest h
      · exact rest h
    · exact rest h
theorem visH_ok {an : Nat} {n : Nat} {x : Bool × Ob} : ∀ {X : HX}, lookH (visH an X) n = some x → ∃ tag, look n X = some (some x, tag) ∧ ∀ i, tag = i + 1 → bit an i = true
  | [], h => by cases h
  | (m, y, 0) :: l, h => by
    rw [visH, lookH_cons] at h
    rw [look_cons]
    split at h
    · rename_i e
      subst e h
      exact ⟨0, by rw [if_pos rfl], fun i hi => by cases hi⟩
    · rename_i e
      rw [if_neg e]
      exact visH_ok h
  | (m, y, k + 1) :: l, h => by
    rw [look_cons]
    unfold visH at h
    split at h
    · rename_i hb
      rw [lookH_cons] at h
      split at h
      · rename_i e
        subst e h
        exact ⟨k + 1, by rw [if_pos rfl], fun i hi => by cases hi; exact hb⟩
      · rename_i e
        rw [if_neg e]
        exact visH_ok h
    · rw [lookH_cons] at h
      split at h
      · cases h
      · rename_i e
        rw [if_neg e]
        exact visH_ok h
theorem inL_true {d : Nat} : ∀ {l : List Nat}, inL d l = true → d ∈ l
  | [], h => by cases h
  | t :: l, h => by
    unfold inL at h
    split at h
    · rename_i hb
      rw [beq_nat] at hb
      subst hb
      exact List.mem_cons.2 (.inl rfl)
    · exact List.mem_cons.2 (.inr (inL_true h))
theorem inL_iff {d : Nat} : ∀ {l : List Nat}, inL d l = false → d ∉ l
  | [], _ => by simp
  | t :: l, h => by
    unfold inL at h
    split at h
    · cases h
    · rename_i hb
      intro hd
      rcases List.mem_cons.1 hd with rfl | hd
      · rw [(beq_nat d d).2 rfl] at hb; cases hb
      · exact inL_iff h hd
theorem k2_ok {an d : Nat} : ∀ {rs : List (Nat × Rc)}, k2 an d rs = true → ∀ i r, (i, r) ∈ rs → (d ∈ r.rds ∨ r.o.dst = some d) → bit an i = true
  | [], _, i, r, hm, _ => by cases hm
  | (j, q) :: l, h, i, r, hm, hd => by
    unfold k2 at h
    split at h
    · rename_i h1 h2
      rcases List.mem_cons.1 hm with e | hm
      · cases e
        exfalso
        rcases hd with hd | hd
        · exact inL_iff h1 hd
        · rw [hd, isDst, (beq_nat d d).2 rfl] at h2; cases h2
      · exact k2_ok h i r hm hd
    · split at h
      · rename_i hb
        rcases List.mem_cons.1 hm with e | hm
        · cases e; exact hb
        · exact k2_ok h i r hm hd
      · cases h
theorem hitsU_ok {us : List Nat} : ∀ {l : List (Nat × Option Ob)}, hitsU us l = false → ∀ k o, (k, o) ∈ l → k ∉ us
  | [], _, k, o, hm => by cases hm
  | (n, q) :: l, h, k, o, hm => by
    unfold hitsU at h
    split at h
    · cases h
    · rename_i h1
      rcases List.mem_cons.1 hm with e | hm
      · cases e; exact inL_iff h1
      · exact hitsU_ok h k o hm
theorem k4_ok {an : Nat} {upd : List (Nat × Option Ob)} : ∀ {rs : List (Nat × Rc)}, k4 an upd rs = true → ∀ k o, (k, o) ∈ upd → ∀ i r, (i, r) ∈ rs → k ∈ r.us → bit an i = true
  | [], _, k, o, _, i, r, hm, _ => by cases hm
  | (j, q) :: l, h, k, o, hk, i, r, hm, hd => by
    unfold k4 at h
    split at h
    · rename_i h1
      rcases List.mem_cons.1 hm with e | hm
      · cases e; exact absurd hd (hitsU_ok h1 k o hk)
      · exact k4_ok h k o hk i r hm hd
    · split at h
      · rename_i hb
        rcases List.mem_cons.1 hm with e | hm
        · cases e; exact hb
        · exact k4_ok h k o hk i r hm hd
      · cases h
theorem selH_ok {ns : List Nat} {n : Nat} {x : Bool × Ob} : ∀ {H : HL}, lookH (selH ns H) n = some x → n ∈ ns ∧ lookH H n = some x
  | [], h => by cases h
  | (k, y) :: l, h => by
    unfold selH at h
    by_cases hk : n = k
    · subst hk
      split at h
      · rename_i h1
        rw [lookH_cons, if_pos rfl] at h
        rw [lookH_cons, if_pos rfl]
        refine ⟨?_, h⟩
        by_cases hm : n ∈ ns
        · exact hm
        · exfalso
          have := inL_true h1
          exact hm this
      · rename_i h1
        have := selH_ok h
        exact absurd this.1 (inL_iff h1)
    · split at h
      · rw [lookH_cons, if_neg hk] at h
        rw [lookH_cons, if_neg hk]
        exact selH_ok h
      · rw [lookH_cons, if_neg hk]
        exact selH_ok h
theorem keysL_mem {n : Nat} {x : Bool × Ob} : ∀ {H : HL}, lookH H n = some x → n ∈ keysL H
  | [], h => by cases h
  | (k, y) :: l, h => by
    rw [lookH_cons] at h
    split at h
    · rename_i e; subst e; simp [keysL]
    · exact List.mem_cons.2 (.inr (keysL_mem h))
theorem allIn_mem {am : Nat} : ∀ {l : List Nat}, allIn am l = true → ∀ n ∈ l, bit am n = true
  | [], _, n, hn => by cases hn
  | m :: l, h, n, hn => by
    unfold allIn at h
    split at h
    · rename_i h1
      rcases List.mem_cons.1 hn with rfl | hn
      · exact h1
      · exact allIn_mem h n hn
    · cases h
theorem newsIn_mem {am : Nat} : ∀ {l : List (Bool × Ob)}, newsIn am l = true → ∀ x ∈ l, ∀ n ∈ x.2.ns, bit am n = true
  | [], _, x, hx => by cases hx
  | (c, o) :: l, h, x, hx => by
    unfold newsIn at h
    split at h
    · rename_i h1
      rcases List.mem_cons.1 hx with rfl | hx
      · exact allIn_mem h1
      · exact newsIn_mem h x hx
    · cases h
theorem updIn_mem {am : Nat} {H : HL} : ∀ {l : List (Nat × Option Ob)}, updIn am H l = true → (∀ n o, (n, o) ∈ l → ∃ o0, lookH H n = some (true, o0)) ∧ (∀ n o o', (n, o) ∈ l → (n, o') ∈ l → o = o') ∧ ∀ n o, (n, some o) ∈ l → ∀ m ∈ o.ns, bit am m = true
  | [], _ => by refine ⟨?_, ?_, ?_⟩ <;> intros <;> simp_all
  | (k, q) :: l, h => by
    unfold updIn at h
    split at h
    · rename_i o0 h1
      split at h
      · rename_i h2
        split at h
        · rename_i h3
          obtain ⟨i1, i2, i3⟩ := updIn_mem h
          refine ⟨fun n o hm => ?_, fun n o o' hm hm' => ?_, fun n o hm => ?_⟩
          · rcases List.mem_cons.1 hm with e | hm
            · cases e; exact ⟨_, h1⟩
            · exact i1 n o hm
          · rcases List.mem_cons.1 hm with e | hm <;> rcases List.mem_cons.1 hm' with e' | hm'
            · cases e; cases e'; rfl
            · cases e; exact absurd rfl (notIn_mem h2 _ hm')
            · cases e'; exact absurd rfl (notIn_mem h2 _ hm)
            · exact i2 n o o' hm hm'
          · rcases List.mem_cons.1 hm with e | hm
            · cases e; exact allIn_mem h3
            · exact i3 n o hm
        · cases h
      · cases h
    · cases h
theorem chkD_ok {E : Eff} {N am an : Nat} {H : HL} {rs : List (Nat × Rc)} {d : Option Tmp} (h : E.chkD N am an H rs d = true) : (∀ n ∈ E.v.ns, bit am n = true) ∧ (∀ x ∈ E.news, ∀ n ∈ x.2.ns, bit am n = true) ∧
    (∀ n o, (n, o) ∈ E.upd → ∃ o0, lookH H n = some (true, o0)) ∧ (∀ n o o', (n, o) ∈ E.upd → (n, o') ∈ E.upd → o = o') ∧ (∀ n o, (n, some o) ∈ E.upd → ∀ m ∈ o.ns, bit am m = true) ∧
    (∀ t, d = some t → t < N) ∧ (∀ t, d = some t → k2 an t rs = true) ∧ k4 an E.upd rs = true := by
  unfold Eff.chkD at h
  split at h
  · rename_i h1
    split at h
    · rename_i h2
      split at h
      · rename_i h3
        obtain ⟨a, b, c⟩ := updIn_mem h3
        refine ⟨allIn_mem h1, newsIn_mem h2, a, b, c, ?_⟩
        split at h
        · rename_i d'
          split at h
          · rename_i h4
            split at h
            · rename_i h5
              refine ⟨fun t ht => ?_, fun t ht => ?_, h⟩
              · cases ht; simpa [Nat.blt_eq] using h4
              · cases ht; exact h5
            · cases h
          · cases h
        · exact ⟨fun t ht => by (cases ht), fun t ht => by (cases ht), h⟩
      · cases h
    · cases h
  · cases h

def addNXs (j : Nat) : Nat → List (Bool × Ob) → HX → HX
  | _, [], H => H
  | n, (b, o) :: l, H => addNXs j (n + 1) l ((n, some (b, o), j + 1) :: H)
def addUXs (j : Nat) : List (Nat × Option Ob) → HX → HX
  | [], H => H
  | (n, o) :: l, H => addUXs j l ((n, o.map fun o => (true, o), j + 1) :: H)
theorem addNX_eq {R : Type} (j : Nat) : ∀ (l : List (Bool × Ob)) (n : Nat) (H : HX) (f : Nat → HX → R), addNX j n l H f = f (n + l.length) (addNXs j n l H)
  | [], _, _, _ => rfl
  | (b, o) :: l, n, H, f => by rw [addNX, fOb_eq, addNX_eq j l, addNXs, List.length_cons, Nat.add_assoc, Nat.add_comm 1]
theorem addUX_eq {R : Type} (j : Nat) : ∀ (l : List (Nat × Option Ob)) (H : HX) (f : HX → R), addUX j l H f = f (addUXs j l H)
  | [], _, _ => rfl
  | (n, some o) :: l, H, f => by rw [addUX, fOb_eq, addUX_eq j l]; rfl
  | (n, none) :: l, H, f => by rw [addUX, addUX_eq j l]; rfl
theorem look_addNXs (j : Nat) : ∀ (l : List (Bool × Ob)) (k : Nat) (H : HX) (n : Nat), look n (addNXs j k l H) = if k ≤ n ∧ n < k + l.length then some (l[n - k]?, j + 1) else look n H
  | [], k, H, n => by rw [addNXs, if_neg (by simp only [List.length_nil]; omega)]
  | (b, o) :: l, k, H, n => by
    rw [addNXs, look_addNXs j l, look_cons]
    by_cases h : n = k
    · subst h
      rw [if_neg (by omega), if_pos rfl, if_pos (by simp)]
      simp
    · rw [if_neg h]
      by_cases h2 : k + 1 ≤ n ∧ n < k + 1 + l.length
      · rw [if_pos h2, if_pos (by simp; omega), show n - k = (n - (k + 1)) + 1 by omega, List.getElem?_cons_succ]
      · rw [if_neg h2, if_neg (by simp; omega)]
theorem look_addUXs (j : Nat) : ∀ (l : List (Nat × Option Ob)) (H : HX) (n : Nat), (∀ m o o', (m, o) ∈ l → (m, o') ∈ l → o = o') →
    look n (addUXs j l H) = match l.find? (fun x => x.1 == n) with
      | some (_, some o) => some (some (true, o), j + 1)
      | some (_, none) => some (none, j + 1)
      | none => look n H
  | [], H, n, _ => rfl
  | (m, o) :: l, H, n, hnd => by
    rw [addUXs, look_addUXs j l _ _ (fun m o o' h h' => hnd m o o' (List.mem_cons.2 (.inr h)) (List.mem_cons.2 (.inr h'))), look_cons, List.find?_cons]
    by_cases h : n = m
    · subst h
      simp only [beq_self_eq_true, if_true]
      cases hf : l.find? (fun x => x.1 == n) with
      | none => cases o <;> rfl
      | some x =>
        obtain ⟨m', o'⟩ := x
        have h1 := List.find?_some hf
        have h2 := List.mem_of_find?_eq_some hf
        simp at h1
        subst h1
        have := hnd m' o o' (by simp) (List.mem_cons.2 (.inr h2))
        subst this
        cases o <;> rfl
    · have : ((m, o).1 == n) = false := by simpa using fun e => h e.symm
      rw [this]
      simp only [if_neg h]
def dfl : Rc := ⟨default, ⟨.t (.c .np), [], [], []⟩, 0, 0, 0, [], []⟩
/-- What has been reckoned so far. -/
structure Pre (st : Stp) (orc : List (Nat × Orc)) (ops : Array Oper) (N : Nat) (L0 : LF) (H0 : HF) (nx0 : Nat) (j : Nat) (X : LX) (H : HX) (nx : Nat) (rs : List (Nat × Rc)) (ps : List Prop) : Prop where
  lt : ∀ i r, look i rs = some r → i < j
  ge : ∀ i, i < j → ∃ r, look i rs = some r
  rcs : ∀ Rf : Nat → Rc, (∀ i r, look i rs = some r → Rf i = r) → (∀ i, i < j → Cond Rf st orc ops.toList N L0 H0 nx0 i) ∧ (∀ i, i < j → ∀ k, bit (Rf i).am k = true → nameOk Rf nx0 i k) ∧
    (∀ t, look t X = match lastT (fsL Rf) j t with | some m => some ((Rf m).E.v, m + 1) | none => (L0 t).map fun v => (v, 0)) ∧
    (∀ k x tag, look k H = some (x, tag) → match lastT (fsH Rf) j k with | some m => tag = m + 1 ∧ fsH Rf m k = some x | none => tag = 0 ∧ H0 k = x) ∧
    (∀ k, look k H = none → lastT (fsH Rf) j k = none ∧ H0 k = none) ∧
    (j = 0 → nx = nx0) ∧ (∀ m, j = m + 1 → nx = (Rf m).nx + (Rf m).E.news.length)
  ops : ∀ i r, look i rs = some r → ops[i]? = some r.o
  obs : allP ps → ∀ i r, look i rs = some r → allP r.E.obs

theorem evalD_vis {st : Stp} {orc : List (Nat × Orc)} {ops : List Oper} {L : LL} {H Hu : HL} {nx : Nat} {o : Oper} {E : Eff} {us : List Nat} (h : evalD st orc ops L H nx o = some (E, us, Hu)) : ∀ k x, lookH Hu k = some x → k ∈ us ∧ lookH H k = some x := by
  intro k x hk
  unfold evalD at h
  simp only [fNs_eq, fSel_eq] at h
  split at h
  · cases h; cases hk
  · split at h
    · split at h
      · cases h; exact ⟨keysL_mem hk, hk⟩
      · cases h
    · split at h
      · split at h
        · cases h; exact selH_ok hk
        · cases h
      · split at h
        · cases h; exact selH_ok hk
        · split at h
          · cases h; exact ⟨keysL_mem hk, hk⟩
          · cases h
theorem evalD_step {st : Stp} {orc : List (Nat × Orc)} {ops : List Oper} {L : LL} {H Hu : HL} {nx : Nat} {o : Oper} {E : Eff} {us : List Nat} (h : evalD st orc ops L H nx o = some (E, us, Hu)) : stepG st orc ops L Hu nx o = some E := by
  unfold evalD at h
  simp only [fNs_eq, fSel_eq] at h
  split at h
  · rename_i hE; cases h; exact hE
  · split at h
    · split at h
      · rename_i hE; cases h; exact hE
      · cases h
    · split at h
      · split at h
        · rename_i hE; cases h; exact hE
        · cases h
      · split at h
        · rename_i hE; cases h; exact hE
        · split at h
          · rename_i hE; cases h; exact hE
          · cases h
theorem drawR_step {st : Stp} {orc : List (Nat × Orc)} {ops : Array Oper} {N : Nat} {L0 : LF} {H0 : HF} {nx0 j : Nat} {X : LX} {H : HX} {nx : Nat} {rs : List (Nat × Rc)} {ps : List Prop} (hP : Pre st orc ops N L0 H0 nx0 j X H nx rs ps) (h0 : ∀ k x, H0 k = some x → k < nx0) {o : Oper} (ho : ops[j]? = some o)
    {an am0 : Nat} {E : Eff} {us : List Nat} {Hu : HL}
    (ha : ∀ m, bit an m = true ↔ bit 0 m = true ∨ ∃ e ∈ o.after.toList, Region.binds .any e = true ∧ ∃ re, look e.on rs = some re ∧ (m = e.on ∨ bit re.anc m = true))
    (hb : ∀ e ∈ o.after.toList, Region.binds .any e = true → ∃ re, look e.on rs = some re) (hm : ∀ k, bit am0 k = true → bit (span 0 nx0) k = true ∨ ∃ e ∈ o.after.toList, Region.binds .any e = true ∧ ∃ re, look e.on rs = some re ∧ bit re.am k = true)
    (hE : evalD st orc ops.toList (visL an X (readsOf ops.toList o)) (visH an H) nx o = some (E, us, Hu))
    (hc : E.chkD N (Nat.lor am0 (span nx E.news.length)) an Hu rs o.dst = true) :
    Pre st orc ops N L0 H0 nx0 (j + 1) (pushX j o.dst E.v X) (addUXs j E.upd (addNXs j nx E.news H)) (nx + E.news.length) ((j, ⟨o, E, nx, an, Nat.lor am0 (span nx E.news.length), us, readsOf ops.toList o⟩) :: rs) (app E.obs ps) := by
  obtain ⟨c1, c2, c3, c4, c5, c6, c7, c8⟩ := chkD_ok hc
  have hjn : look j rs = none := by
    cases h : look j rs with
    | none => rfl
    | some r => exact absurd (hP.lt j r h) (Nat.lt_irrefl _)
  refine ⟨?_, ?_, ?_, ?_, ?_⟩
  · intro i r h
    rw [look_cons] at h
    split at h
    · omega
    · have := hP.lt i r h; omega
  · intro i hi
    by_cases e : i = j
    · exact ⟨_, by rw [look_cons, if_pos e]⟩
    · obtain ⟨r, h⟩ := hP.ge i (by omega)
      exact ⟨r, by rw [look_cons, if_neg e]; exact h⟩
  · intro Rf hR
    have hR0 : ∀ i r, look i rs = some r → Rf i = r := fun i r h => hR i r (by
      have := hP.lt i r h
      rw [look_cons, if_neg (by omega)]; exact h)
    have hj : Rf j = ⟨o, E, nx, an, Nat.lor am0 (span nx E.news.length), us, readsOf ops.toList o⟩ := hR j _ (by rw [look_cons, if_pos rfl])
    obtain ⟨r1, r2, r3, r4, r5, r6, r7⟩ := hP.rcs Rf hR0
    have jo : (Rf j).o = o := by rw [hj]
    have jE : (Rf j).E = E := by rw [hj]
    have jn : (Rf j).nx = nx := by rw [hj]
    have ja : (Rf j).anc = an := by rw [hj]
    have jm : (Rf j).am = Nat.lor am0 (span nx E.news.length) := by rw [hj]
    have ju : (Rf j).us = us := by rw [hj]
    have huV : ∀ k x, lookH Hu k = some x → k ∈ us ∧ lookH (visH an H) k = some x := evalD_vis hE
    have jr : (Rf j).rds = readsOf ops.toList o := by rw [hj]
    have hdep : ∀ e ∈ o.after.toList, Region.binds .any e = true → ∃ re, look e.on rs = some re ∧ Rf e.on = re ∧ e.on < j := fun e he h => by
      obtain ⟨re, h1⟩ := hb e he h
      exact ⟨re, h1, hR0 _ _ h1, hP.lt _ _ h1⟩
    have gen : ∀ m, bit an m = true → m < j ∧ ∃ e ∈ o.after.toList, Region.binds .any e = true ∧ (m = e.on ∨ bit (Rf e.on).anc m = true) := by
      intro m h
      rcases (ha m).1 h with h | ⟨e, he, hbd, re, hre, h⟩
      · rw [bit_zero] at h; cases h
      · have h1 := hP.lt _ _ hre
        have h2 := hR0 _ _ hre
        refine ⟨?_, e, he, hbd, ?_⟩
        · rcases h with rfl | h
          · exact h1
          · have := ((r1 e.on h1).gen m (by rw [h2]; exact h)).1
            omega
        · rcases h with h | h
          · exact .inl h
          · exact .inr (by rw [h2]; exact h)
    have nameJ : ∀ k, bit (Nat.lor am0 (span nx E.news.length)) k = true → nameOk Rf nx0 j k := by
      intro k h
      rw [bit_or, Bool.or_eq_true] at h
      rcases h with h | h
      · rcases hm k h with h | ⟨e, he, hbd, re, hre, h⟩
        · rw [bit_span] at h
          simp at h
          exact .inl h
        · have h1 := hP.lt _ _ hre
          have h2 := hR0 _ _ hre
          rcases r2 e.on h1 k (by rw [h2]; exact h) with h3 | ⟨m, h3, h4⟩
          · exact .inl h3
          · refine .inr ⟨m, .inr ?_, h4⟩
            rw [ja]
            refine (ha m).2 (.inr ⟨e, he, hbd, re, hre, ?_⟩)
            rcases h3 with h3 | h3
            · exact .inl h3
            · exact .inr (by rw [← h2]; exact h3)
      · rw [bit_span] at h
        simp at h
        exact .inr ⟨j, .inl rfl, by rw [jn, jE]; exact h⟩
    refine ⟨?_, ?_, ?_, ?_, ?_, fun h => by omega, fun m h => ?_⟩
    · intro i hi
      by_cases e : i = j
      · subst e
        constructor
        · intro e he hbd
          rw [jo] at he
          rw [ja]
          obtain ⟨re, hre, _⟩ := hdep e he hbd
          exact (ha _).2 (.inr ⟨e, he, hbd, re, hre, .inl rfl⟩)
        · intro m h
          rw [ja] at h
          rw [jo]
          exact gen m h
        · rw [jo, jE, jn, jr, ja, ju]
          have seeL : ∀ t v, look t (visL an X (readsOf ops.toList o)) = some v → t ∈ readsOf ops.toList o ∧ match lastT (fsL Rf) i t with | some m => bit an m = true ∧ v = (Rf m).E.v | none => L0 t = some v := by
            intro t v h
            obtain ⟨h1, tag, h2, h3⟩ := visL_ok h
            refine ⟨h1, ?_⟩
            have h4 := r3 t
            rw [h2] at h4
            split at h4
            · cases h4
              exact ⟨h3 _ rfl, rfl⟩
            · cases hl : L0 t with
              | none => rw [hl] at h4; cases h4
              | some v0 => rw [hl] at h4; cases h4; rfl
          refine ⟨_, Hu, evalD_step hE, seeL, fun k x h => ⟨(huV k x h).1, ?_⟩, c3⟩
          obtain ⟨tag, h2, h3⟩ := visH_ok (huV k x h).2
          have h4 := r4 k _ _ h2
          cases hl : lastT (fsH Rf) i k with
          | some m => rw [hl] at h4; exact ⟨h3 _ h4.1, h4.2⟩
          | none => rw [hl] at h4; exact h4.2
        · rw [jE]; exact c4
        · intro d hd m hmi hrd
          rw [jo] at hd
          rw [ja]
          obtain ⟨r, hr⟩ := hP.ge m hmi
          refine k2_ok (c7 d hd) m r (look_mem hr) ?_
          rw [hR0 _ _ hr] at hrd
          exact hrd
        · intro k o' hu m hmi huh
          rw [jE] at hu
          rw [ja]
          obtain ⟨r, hr⟩ := hP.ge m hmi
          refine k4_ok c8 k o' hu m r (look_mem hr) ?_
          rw [hR0 _ _ hr] at huh
          exact huh
        · intro k hk
          rw [jE] at hk
          exact nameJ k (c1 k hk)
        · intro x hx k hk
          rw [jE] at hx
          exact nameJ k (c2 x hx k hk)
        · intro k o' hu m' hm'
          rw [jE] at hu
          exact nameJ m' (c5 k o' hu m' hm')
        · intro t ht
          rw [jo] at ht
          exact c6 t ht
        · intro h
          rw [jn]
          exact r6 h
        · intro m h
          rw [jn]
          exact r7 m h
      · exact r1 i (by omega)
    · intro i hi k hk
      by_cases e : i = j
      · subst e
        rw [jm] at hk
        exact nameJ k hk
      · exact r2 i (by omega) k hk
    · intro t
      rw [lastT]
      have hfs : fsL Rf j t = if o.dst = some t then some (some E.v) else none := by unfold fsL; rw [jo, jE]
      rw [hfs]
      cases hd : o.dst with
      | none => simp [pushX, r3 t]
      | some d =>
        simp only [pushX, look_cons, Option.some.injEq]
        by_cases e : t = d
        · subst e; simp [jE]
        · have e' : ¬ d = t := fun h => e h.symm
          simp only [if_neg e, if_neg e']
          simpa using r3 t
    · intro k x tag h
      rw [look_addUXs _ _ _ _ c4] at h
      rw [lastT]
      have hfs : fsH Rf j k = if nx ≤ k ∧ k < nx + E.news.length then some (E.news[k - nx]?) else match E.upd.find? (fun x => x.1 == k) with | some (_, some o) => some (some (true, o)) | some (_, none) => some none | none => none := by
        unfold fsH
        rw [jn, jE]
        all_goals rfl
      cases hf : E.upd.find? (fun x => x.1 == k) with
      | none =>
        rw [hf] at h hfs
        simp only at h hfs
        rw [look_addNXs] at h
        by_cases hk : nx ≤ k ∧ k < nx + E.news.length
        · rw [if_pos hk] at h hfs
          cases h
          rw [hfs]
          simp only [Option.isSome_some, if_true]
          exact ⟨by trivial, hfs⟩
        · rw [if_neg hk] at h hfs
          rw [hfs]
          simpa using r4 k x tag h
      | some y =>
        obtain ⟨q, oo⟩ := y
        rw [hf] at h hfs
        have h1 := List.find?_some hf
        have h2 := List.mem_of_find?_eq_some hf
        simp at h1
        subst h1
        obtain ⟨o0, h3⟩ := c3 _ _ h2
        have hlt : q < nx := by
          obtain ⟨tag', h4, _⟩ := visH_ok (huV _ _ h3).2
          have h5 := r4 q _ _ h4
          split at h5
          · rename_i m hm'
            obtain ⟨a, _, _⟩ := lastT_some hm'
            have g1 := touch_lt (F := ⟨default, fun _ => False, N⟩) r1 m a q (by rw [h5.2]; simp) h0
            obtain ⟨m', rfl⟩ : ∃ m', j = m' + 1 := ⟨j - 1, by omega⟩
            have g2 := r7 m' rfl
            by_cases e : m = m'
            · subst e; omega
            · have := nx_lt (F := ⟨default, fun _ => False, N⟩) r1 m m' (by omega) (by omega)
              omega
          · have g1 := h0 _ _ h5.2
            by_cases e : j = 0
            · rw [r6 e]; exact g1
            · obtain ⟨m', rfl⟩ : ∃ m', j = m' + 1 := ⟨j - 1, by omega⟩
              have g2 := r7 m' rfl
              have g3 := nx_ge (F := ⟨default, fun _ => False, N⟩) r1 m' (by omega)
              omega
        have hk : ¬ (nx ≤ q ∧ q < nx + E.news.length) := by omega
        rw [if_neg hk] at hfs
        cases oo with
        | none =>
          simp only at h hfs
          cases h
          rw [hfs]
          simp only [Option.isSome_some, if_true]
          exact ⟨by trivial, hfs⟩
        | some oo =>
          simp only at h hfs
          cases h
          rw [hfs]
          simp only [Option.isSome_some, if_true]
          exact ⟨by trivial, hfs⟩
    · intro k h
      rw [look_addUXs _ _ _ _ c4] at h
      have hfs : fsH Rf j k = if nx ≤ k ∧ k < nx + E.news.length then some (E.news[k - nx]?) else match E.upd.find? (fun x => x.1 == k) with | some (_, some o) => some (some (true, o)) | some (_, none) => some none | none => none := by
        unfold fsH
        rw [jn, jE]
        all_goals rfl
      cases hf : E.upd.find? (fun x => x.1 == k) with
      | none =>
        rw [hf] at h hfs
        simp only at h hfs
        rw [look_addNXs] at h
        by_cases hk : nx ≤ k ∧ k < nx + E.news.length
        · rw [if_pos hk] at h
          cases h
        · rw [if_neg hk] at h hfs
          rw [lastT, hfs]
          simpa using r5 k h
      | some y =>
        obtain ⟨q, oo⟩ := y
        rw [hf] at h
        cases oo <;> cases h
    · have : m = j := by omega
      subst this
      rw [jn, jE]
  · intro i r h
    rw [look_cons] at h
    split at h
    · rename_i e
      cases h
      subst e
      exact ho
    · exact hP.ops i r h
  · intro hp i r h
    rw [allP_app] at hp
    rw [look_cons] at h
    split at h
    · cases h; exact hp.1
    · exact hP.obs hp.2 i r h
end Vc
namespace Vc
open Go Go.RowKit

def tagLs (L : LL) : LX := L.map fun x => (x.1, x.2, 0)
def tagHs (H : HL) : HX := H.map fun x => (x.1, x.2, 0)
def untLs (X : LX) : LL := X.map fun x => (x.1, x.2.1)
def untHs (X : HX) : HL := X.map fun x => (x.1, x.2.1)
theorem tagL_eq {R : Type} : ∀ (L : LL) (f : LX → R), tagL L f = f (tagLs L)
  | [], _ => rfl
  | (t, v) :: l, f => by rw [tagL, tagL_eq l]; rfl
theorem tagH_eq {R : Type} : ∀ (L : HL) (f : HX → R), tagH L f = f (tagHs L)
  | [], _ => rfl
  | (t, v) :: l, f => by rw [tagH, tagH_eq l]; rfl
theorem untL_eq {R : Type} : ∀ (L : LX) (f : LL → R), untL L f = f (untLs L)
  | [], _ => rfl
  | (t, v, _) :: l, f => by rw [untL, untL_eq l]; rfl
theorem untH_eq {R : Type} : ∀ (L : HX) (f : HL → R), untH L f = f (untHs L)
  | [], _ => rfl
  | (t, v, _) :: l, f => by rw [untH, untH_eq l]; rfl
theorem look_tagLs (t : Nat) : ∀ L : LL, look t (tagLs L) = (look t L).map fun v => (v, 0)
  | [] => rfl
  | (d, v) :: l => by
    have := look_tagLs t l
    unfold tagLs at this ⊢
    rw [List.map_cons, look_cons, look_cons, this]
    split <;> rfl
theorem look_tagHs (t : Nat) : ∀ L : HL, look t (tagHs L) = (look t L).map fun v => (v, 0)
  | [] => rfl
  | (d, v) :: l => by
    have := look_tagHs t l
    unfold tagHs at this ⊢
    rw [List.map_cons, look_cons, look_cons, this]
    split <;> rfl
theorem look_untLs (t : Nat) : ∀ L : LX, look t (untLs L) = (look t L).map (·.1)
  | [] => rfl
  | (d, v, _) :: l => by
    have := look_untLs t l
    unfold untLs at this ⊢
    rw [List.map_cons, look_cons, look_cons, this]
    split <;> rfl
theorem look_untHs (t : Nat) : ∀ L : HX, look t (untHs L) = (look t L).map (·.1)
  | [] => rfl
  | (d, v, _) :: l => by
    have := look_untHs t l
    unfold untHs at this ⊢
    rw [List.map_cons, look_cons, look_cons, this]
    split <;> rfl

theorem drawR_loop {R : Type} {F : Frm} {st : Stp} {orc : List (Nat × Orc)} {ops : Array Oper} {L0 : LF} {H0 : HF} {nx0 : Nat} (h0 : ∀ k x, H0 k = some x → k < nx0) {f : LX → HX → Nat → List Prop → R} {g r : R} (hg : g ≠ r) :
    ∀ {l : List Oper} {j : Nat} {X : LX} {H : HX} {nx : Nat} {rs : List (Nat × Rc)} {ps : List Prop}, drawR st orc F.N ops.toList nx0 l j X H nx rs ps f g = r → Pre st orc ops F.N L0 H0 nx0 j X H nx rs ps → ops.toList.drop j = l → j ≤ ops.size →
      ∃ X' H' nx' rs' ps', f X' H' nx' ps' = r ∧ Pre st orc ops F.N L0 H0 nx0 ops.size X' H' nx' rs' ps' ∧ (allP ps' → allP ps) := by
  intro l
  induction l with
  | nil =>
    intro j X H nx rs ps h hP hl hj
    have : j = ops.size := by
      have := congrArg List.length hl
      simp at this
      omega
    subst this
    exact ⟨X, H, nx, rs, ps, h, hP, id⟩
  | cons o l ih =>
    intro j X H nx rs ps h hP hl hj
    have hjlt : j < ops.size := by
      have := congrArg List.length hl
      simp at this
      omega
    have ho : ops[j]? = some o := by
      have : (ops.toList.drop j)[0]? = some o := by rw [hl]; rfl
      rw [List.getElem?_drop] at this
      simpa using this
    have hl' : ops.toList.drop (j + 1) = l := by
      rw [← List.drop_drop, hl]; rfl
    unfold drawR at h
    obtain ⟨an, am0, h1, ha, hb, hm⟩ := ancE_ok hg h
    split at h1
    · rename_i v news upd obs us Hu hE
      rw [fNs_eq, lenK_eq, fN_eq] at h1
      split at h1
      · rename_i hc
        simp only [fSV_eq, addNX_eq, addUX_eq, fPs_eq] at h1
        have hP' := drawR_step hP h0 ho ha hb hm hE hc
        have h2 : drawR st orc F.N ops.toList nx0 l (j + 1) (pushX j o.dst v X) (addUXs j upd (addNXs j nx news H)) (nx + news.length) ((j, ⟨o, ⟨v, news, upd, obs⟩, nx, an, Nat.lor am0 (span nx news.length), us, readsOf ops.toList o⟩) :: rs) (app obs ps) f g = r := by
          cases hd : o.dst with
          | none => rw [hd] at h1; exact h1
          | some d => rw [hd] at h1; exact h1
        obtain ⟨X', H', nx', rs', ps', a, b, c⟩ := ih h2 hP' hl' hjlt
        refine ⟨X', H', nx', rs', ps', a, b, fun hp => ?_⟩
        have := c hp
        rw [allP_app] at this
        exact this.2
      · exact absurd h1 hg
    · exact absurd h1 hg

theorem drawR_ok {R : Type} {P : Program} {F : Frm} {st : Stp} {orc : List (Nat × Orc)} {ops : Array Oper} (hst : Sound P st) (hm : P.follows .mixedOrders = true) {Q : Exit → Act → World → Prop} {f : LX → HX → Nat → List Prop → R} {g r : R} (hg : g ≠ r) {L : LL} {H : HL} {nx : Nat} {ps : List Prop} {id : Nat}
    (h : tagL L (fun X => tagH H fun HX => drawR st orc F.N ops.toList nx ops.toList 0 X HX nx [] ps f g) = r) (hW : WF L H nx) :
      ∃ X' H' nx' ps', f X' H' nx' ps' = r ∧ WF (untLs X') (untHs H') nx' ∧ (allP ps' → allP ps) ∧
        (allP ps' → (∀ e a w, Sat F (fun t => look t (untLs X')) (lookH (untHs H')) e a w → Q .normal a w) → ∀ e a w, Sat F (fun t => look t L) (lookH H) e a w → (Code.region id ops true).wp P Q a w) := by
  rw [tagL_eq, tagH_eq] at h
  have h0 : ∀ k x, lookH H k = some x → k < nx := fun k x h => (hW.h k x h).1
  have hP0 : Pre st orc ops F.N (fun t => look t L) (lookH H) nx 0 (tagLs L) (tagHs H) nx [] ps := by
    refine ⟨fun i r h => (by cases h), fun i hi => (by omega), fun Rf _ => ⟨fun i hi => (by omega), fun i hi => (by omega), fun t => ?_, fun k x tag h => ?_, fun k h => ?_, fun _ => rfl, fun m h => (by omega)⟩, fun i r h => (by cases h), fun _ i r h => (by cases h)⟩
    · rw [look_tagLs]; rfl
    · rw [look_tagHs] at h
      cases hl : look k H with
      | none => rw [hl] at h; cases h
      | some y =>
        rw [hl] at h
        cases h
        refine ⟨rfl, ?_⟩
        unfold lookH
        rw [hl]
        cases x <;> rfl
    · rw [look_tagHs] at h
      cases hl : look k H with
      | none => refine ⟨rfl, ?_⟩; unfold lookH; rw [hl]
      | some y => rw [hl] at h; cases h
  obtain ⟨X', H', nx', rs', ps', h1, hP, hps⟩ := drawR_loop h0 hg h hP0 rfl (Nat.zero_le _)
  obtain ⟨Rf, hRf⟩ : ∃ Rf : Nat → Rc, ∀ i r, look i rs' = some r → Rf i = r := ⟨fun i => (look i rs').getD dfl, fun i r h => by simp [h]⟩
  obtain ⟨r1, r2, r3, r4, r5, r6, r7⟩ := hP.rcs Rf hRf
  have nxm : ∀ m, m < ops.size → (Rf m).nx + (Rf m).E.news.length ≤ nx' := by
    intro m hlt
    obtain ⟨m', e⟩ : ∃ m', ops.size = m' + 1 := ⟨ops.size - 1, by omega⟩
    have g2 := r7 m' e
    by_cases e' : m = m'
    · subst e'; omega
    · have := nx_lt (F := F) r1 m m' (by omega) (by omega)
      omega
  have nx0 : nx ≤ nx' := by
    by_cases e : ops.size = 0
    · rw [r6 e]; exact Nat.le_refl _
    · have h1 := nx_ge (F := F) r1 0 (by omega)
      have h2 := nxm 0 (by omega)
      omega
  have nameLt : ∀ i, i < ops.size → ∀ k, nameOk Rf nx i k → k < nx' := by
    intro i hi k hk
    rcases hk with hk | ⟨m, hm, hk⟩
    · omega
    · have hmi : m < ops.size := by
        rcases hm with rfl | hm
        · exact hi
        · have := ((r1 i hi).gen m hm).1; omega
      have := nxm m hmi
      omega
  have fsLv : ∀ m t x, fsL Rf m t = some x → x = some (Rf m).E.v := by
    intro m t x h
    unfold fsL at h
    split at h
    · cases h; rfl
    · cases h
  have finL : ∀ t v, look t (untLs X') = some v → valS (fsL Rf) (fun _ => true) (fun t => look t L) ops.size t = some v ∧ ∀ k ∈ v.ns, k < nx' := by
    intro t v h
    rw [look_untLs, r3 t] at h
    split at h
    · rename_i m hm
      obtain ⟨a, b, c⟩ := lastT_some hm
      cases h
      cases hf : fsL Rf m t with
      | none => rw [hf] at b; cases b
      | some x =>
        have := fsLv m t x hf
        subst this
        refine ⟨valS_last a rfl hf fun i h1 h2 _ => c i h1 h2, fun k hk => nameLt m a k ((r1 m a).nv k hk)⟩
    · rename_i hm
      have hv : look t L = some v := by
        cases hl : look t L with
        | none => rw [hl] at h; cases h
        | some y => rw [hl] at h; cases h; rfl
      refine ⟨?_, fun k hk => by have := hW.l t v hv k hk; omega⟩
      rw [valS_base (fun i hi _ => lastT_none hm i hi)]
      exact hv
  have finH : ∀ k x, lookH (untHs H') k = some x → valS (fsH Rf) (fun _ => true) (lookH H) ops.size k = some x ∧ k < nx' ∧ ∀ m ∈ x.2.ns, m < nx' := by
    intro k x h
    unfold lookH at h
    rw [look_untHs] at h
    cases hl : look k H' with
    | none => rw [hl] at h; cases h
    | some y =>
      obtain ⟨y, tag⟩ := y
      rw [hl] at h
      cases y with
      | none => cases h
      | some y =>
        simp at h
        subst h
        have h4 := r4 k _ _ hl
        split at h4
        · rename_i m hm
          obtain ⟨a, b, c⟩ := lastT_some hm
          refine ⟨valS_last a rfl h4.2 fun i h1 h2 _ => c i h1 h2, ?_, ?_⟩
          · have := touch_lt (F := F) r1 m a k (by rw [h4.2]; simp) h0
            have := nxm m a
            omega
          · intro q hq
            have h5 := h4.2
            unfold fsH at h5
            split at h5
            · exact nameLt m a q ((r1 m a).nn y (List.mem_of_getElem? (Option.some.inj h5)) q hq)
            · split at h5
              · rename_i q' o hf
                have h2 := List.mem_of_find?_eq_some hf
                cases h5
                exact nameLt m a q ((r1 m a).nu _ _ h2 q hq)
              · cases h5
              · cases h5
        · rename_i hm
          obtain ⟨a, b⟩ := hW.h k y h4.2
          refine ⟨?_, by omega, fun m hm => by have := b m hm; omega⟩
          rw [valS_base (fun i hi _ => lastT_none hm i hi)]
          exact h4.2
  refine ⟨X', H', nx', ps', h1, ⟨fun t v h => (finL t v h).2, fun k x h => (finH k x h).2⟩, hps, fun hp hQ e a w S => ?_⟩
  refine wp_region_any hm ?_
  have S' : Sat F (fun t => look t L) (lookH H) e a { w with drawn := w.drawn + 1 } := by
    refine ⟨⟨S.fr.os, S.fr.tape, S.fr.out, S.fr.size, S.fr.block⟩, S.sz, S.df, S.sl, fun n b o h => ?_, S.dj⟩
    obtain ⟨h1, h2⟩ := S.ob n b o h
    exact ⟨Ob.stays h1 fun g _ => rfl, h2⟩
  have hrec : ∀ i, i < ops.size → ∃ r, look i rs' = some r ∧ Rf i = r := fun i hi => by
    obtain ⟨r, hr⟩ := hP.ge i hi
    exact ⟨r, hr, hRf i r hr⟩
  refine draw_any (F := F) r1 hst (fun i hi => ?_) (fun t v h m hm => hW.l t v h m hm) (fun k x h => hW.h k x h) rfl (fun i hi => ?_) (fun e a w S => hQ e a w (S.weak (fun t v h => (finL t v h).1) (fun k x h => (finH k x h).1)))
    ops.size (Array.replicate ops.size false) a _ (by simp) (by simp) (fun i hi hf => ?_) ⟨e, ?_⟩
  · obtain ⟨r, hr, e⟩ := hrec i hi
    rw [e]
    exact hP.obs hp i r hr
  · obtain ⟨r, hr, e⟩ := hrec i hi
    rw [e]
    exact hP.ops i r hr
  · simp [Array.getD_eq_getD_getElem?, hi] at hf
  · have hz : ∀ i, i < ops.size → (Array.replicate ops.size false).getD i false = false := fun i hi => by simp [Array.getD_eq_getD_getElem?, hi]
    refine S'.weak (fun t v h => ?_) (fun k x h => ?_)
    · rw [valS_base (fun i hi hf => by rw [hz i hi] at hf; cases hf)] at h; exact h
    · rw [valS_base (fun i hi hf => by rw [hz i hi] at hf; cases hf)] at h; exact h
end Vc
