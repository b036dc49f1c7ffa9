/- The disk: what stays; the fence's sector of epochs; the chapter's example. -/
import Derived.Test.YtokhlioogjalkaaGreatDisk4
namespace Cw
open Go Vc
open Go.Proofs
set_option maxRecDepth 100000
theorem fenc_data : fenc.data.toList = [70, 69, 78, 67] := rfl
theorem app_data (a b : ByteArray) : (a ++ b).data.toList = a.data.toList ++ b.data.toList := by simp
theorem wallB_data (a b : Nat) : (wallB a b).data.toList = [70, 69, 78, 67] ++ le 4 a ++ le 4 b ++ List.replicate 52 0 := by
  rw [wallB, app_data, app_data, app_data, S_data, S_data, S_data, fenc_data]
theorem ep_wall {a b : Nat} (ha : a < 4294967296) (hb : b < 4294967296) : ep (wallB a b) = (a, b) := by
  have l1 := le_length 4 a
  have l2 := le_length 4 b
  have h1 : numAt (wallB a b) 4 4 = a := by
    rw [numAt, wallB_data, List.append_assoc, List.append_assoc, List.drop_append_of_le_length (by simp)]
    rw [show ([70, 69, 78, 67] : List UInt8).drop 4 = [] from rfl, List.nil_append, List.take_append_of_le_length (by omega), List.take_of_length_le (by omega)]
    exact num_le 4 a ha
  have h2 : numAt (wallB a b) 8 4 = b := by
    rw [numAt, wallB_data, List.append_assoc, List.drop_append_of_le_length (by simp [l1])]
    rw [List.drop_of_length_le (by simp [l1]), List.nil_append, List.take_append_of_le_length (by omega), List.take_of_length_le (by omega)]
    exact num_le 4 b hb
  rw [ep, h1, h2]
theorem fok_wall {a b : Nat} (ha : a < 4294967296) (hb : b < 4294967296) : fok (wallB a b) = true := by
  rw [fok, ep_wall ha hb, wallB_size]
  simp
theorem psD_wall {a b : Nat} (ha : a < 4294967296) (hb : b < 4294967296) (node n : Int) (hn : node = 0 ∨ node = 1) : psD (wallB a b) node n = decide (((if node = 0 then a else b : Nat) : Int) ≤ n) := by
  have e1 : passE (wallB a b) node = 0 := by simp [passE, fok_wall ha hb, hn]
  simp only [psD, passB, e1, epN, ep_wall ha hb]
  simp
/-- What stays of a disk of n sectors. -/
structure DOk (n : Nat) (S : List ByteArray) (W : List (Int × Wr)) (last : Int) : Prop where
  len : S.length = n
  two : 2 ≤ n
  sz : ∀ s ∈ S, s.size = 64
  pl : ∀ p ∈ W, inS n p.2.pl = true
  ws : ∀ p ∈ W, p.2.s.size = 64
  key : (W.map Prod.fst).Pairwise (· < ·)
  le : ∀ p ∈ W, 1 ≤ p.1 ∧ p.1 ≤ last
  l0 : 0 ≤ last
section
variable {n : Nat} {S : List ByteArray} {W : List (Int × Wr)} {last : Int}
theorem mem_set_sz {S : List ByteArray} {k : Nat} {t : ByteArray} (h : ∀ s ∈ S, s.size = 64) (ht : t.size = 64) : ∀ s ∈ S.set k t, s.size = 64 := fun s hs => by
  rcases List.mem_or_eq_of_mem_set hs with h1 | h1
  · exact h s h1
  · rw [h1]; exact ht
theorem DOk.lay (h : DOk n S W last) (k : Int) (s : ByteArray) : DOk n (layS S k s) W last := by
  unfold layS
  split
  · rename_i hw
    exact { h with len := by rw [List.length_set]; exact h.len, sz := mem_set_sz h.sz (wrE_ok hw).2 }
  · exact h
theorem wdel_fst_sub (k : Int) : ∀ W : List (Int × Wr), ((wdel k W).map Prod.fst).Sublist (W.map Prod.fst)
  | [] => List.Sublist.refl _
  | (q, x) :: l => by
    unfold wdel
    split
    · exact List.sublist_cons_self _ _
    · exact (wdel_fst_sub k l).cons_cons _
theorem DOk.del (h : DOk n S W last) (k : Int) : DOk n S (wdel k W) last :=
  { h with pl := fun p hp => h.pl p (wdel_mem hp), ws := fun p hp => h.ws p (wdel_mem hp), key := h.key.sublist (wdel_fst_sub k W), le := fun p hp => h.le p (wdel_mem hp) }
theorem DOk.ap (h : DOk n S W last) (k : Int) : DOk n (apS S W k) (wdel k W) last := by
  have h' := h.del k
  unfold apS
  cases hg : wget k W with
  | none => exact h'
  | some x =>
    simp only
    split
    · exact { h' with len := by rw [List.length_set]; exact h.len, sz := mem_set_sz h.sz (h.ws _ (wget_mem hg)) }
    · exact h'
theorem isuE_0 {node ep pl : Int} {s : ByteArray} (h : isuE S W node ep pl s = 0) : isE node ep = 0 ∧ wrE S.length pl s = 0 ∧ W.length < 1024 ∧ psD (s1 S) node ep = true := by
  unfold isuE at h
  split at h
  · cases h
  · rename_i h1
    split at h
    · rename_i h2; exact absurd h h2
    · rename_i h2
      split at h
      · cases h
      · rename_i h3
        split at h
        · rename_i h4
          exact ⟨by simpa using h1, by simpa using h2, by omega, h4⟩
        · cases h
theorem DOk.isu (h : DOk n S W last) (node ep pl : Int) (s : ByteArray) : DOk n S (isuW S W last node ep pl s) (isuL S W last node ep pl s) := by
  unfold isuW isuL
  by_cases he : isuE S W node ep pl s = 0
  · rw [if_pos he, if_pos he]
    obtain ⟨_, h2, _, _⟩ := isuE_0 he
    obtain ⟨h3, h4⟩ := wrE_ok h2
    have hl := h.l0
    refine ⟨h.len, h.two, h.sz, fun p hp => ?_, fun p hp => ?_, ?_, fun p hp => ?_, by omega⟩
    · rcases List.mem_append.1 hp with hp | hp
      · exact h.pl p hp
      · rw [List.mem_singleton.1 hp, ← h.len]; exact h3
    · rcases List.mem_append.1 hp with hp | hp
      · exact h.ws p hp
      · rw [List.mem_singleton.1 hp]; exact h4
    · rw [List.map_append, List.pairwise_append]
      refine ⟨h.key, by simp, fun a ha b hb => ?_⟩
      obtain ⟨p, hp, rfl⟩ := List.mem_map.1 ha
      have := h.le p hp
      simp at hb
      subst hb
      omega
    · rcases List.mem_append.1 hp with hp | hp
      · have := h.le p hp; omega
      · rw [List.mem_singleton.1 hp]; simp; omega
  · rw [if_neg he, if_neg he]; exact h
theorem setE_size (s : ByteArray) (node n : Int) : (setE s node n).size = 64 := by
  unfold setE
  split <;> exact wallB_size _ _
theorem DOk.rs (h : DOk n S W last) (node m : Int) : DOk n (rsS S node m) W last := by
  unfold rsS
  split
  · exact { h with len := by rw [List.length_set]; exact h.len, sz := mem_set_sz h.sz (setE_size _ _ _) }
  · exact h
theorem DOk.new {n : Nat} (h : 2 ≤ n) : DOk n (S0 n) [] 0 where
  len := by simp [S0]
  two := h
  sz := mem_set_sz (fun s hs => by rw [(List.mem_replicate.1 hs).2, B0, S_size]; rfl) (wallB_size _ _)
  pl := by simp
  ws := by simp
  key := by simp
  le := by simp
  l0 := Int.le_refl _
theorem s1_new {n : Nat} (h : 2 ≤ n) : s1 (S0 n) = wallB 0 0 := by
  rw [s1, S0, List.getD_eq_getElem?_getD, List.getElem?_set]
  simp [show 1 < n by omega]
theorem rd_new {n : Nat} {k : Int} (h : inS n k = true) (h1 : k ≠ 1) : rdT (S0 n) k = B0 := by
  have hb := inS_iff.1 h
  have : inS (S0 n).length k = true := by simpa [S0] using h
  rw [rdT, if_pos this, S0, List.getD_eq_getElem?_getD, List.getElem?_set]
  rw [if_neg (by omega), List.getElem?_replicate, if_pos (by omega)]
  rfl
theorem fit_empty : fit ⟨#[]⟩ = B0 := by
  have : (fit ⟨#[]⟩).data.toList = B0.data.toList := by decide
  rcases hf : fit ⟨#[]⟩ with ⟨d⟩
  rw [hf] at this
  rw [B0, S]
  congr 1
  apply Array.toList_inj.1
  simpa [B0, S] using this
end
abbrev dX (S : List ByteArray) (W : List (Int × Wr)) (last : Int) : AbP := exP (dP S W last)
theorem dX_nn (S : List ByteArray) (W : List (Int × Wr)) (last : Int) : NotNil (dX S W last) := NotNil.ex fun b => disk_pins _ _ _ _
theorem dP_st (S : List ByteArray) (W : List (Int × Wr)) (last : Int) : ∀ b, stable (dP S W last b) := fun b => absP_stable _ _
end Cw
