/- The document's cache: Sectors. -/
import Derived.Test.YtaopblgnaoojkaaRCac3
namespace Cw
open Go Vc
open Go.Proofs
set_option maxRecDepth 100000
def insI (x : Int) (out : List Int) : List Int := out.takeWhile (fun y => decide (y < x)) ++ x :: out.dropWhile (fun y => decide (y < x))
theorem insI_take {x : Int} : ∀ {out : List Int} {k : Nat}, k ≤ out.length → (∀ j (h : j < out.length), j < k → out[j] < x) → (∀ h : k < out.length, ¬ out[k] < x) → insI x out = out.take k ++ x :: out.drop k
  | [], 0, _, _, _ => rfl
  | y :: out, 0, _, _, h => by
    have hy : ¬ y < x := h (by simp)
    simp [insI, List.takeWhile_cons, List.dropWhile_cons, hy]
  | y :: out, k + 1, h0, h1, h2 => by
    have hy : y < x := h1 0 (by simp) (by omega)
    have ih := insI_take (x := x) (out := out) (k := k) (by simpa using h0) (fun j hj hk => h1 (j + 1) (by simpa using hj) (by omega)) (fun h => h2 (by simpa using h))
    simp only [insI, List.takeWhile_cons, List.dropWhile_cons, decide_eq_true hy, if_true, List.take_succ_cons, List.drop_succ_cons, List.cons_append] at ih ⊢
    rw [ih]
theorem insI_perm (x : Int) (out : List Int) : (insI x out).Perm (x :: out) := by
  unfold insI
  refine List.perm_middle.trans ?_
  rw [List.takeWhile_append_dropWhile]
theorem insI_sorted {x : Int} : ∀ {out : List Int}, out.Pairwise (· ≤ ·) → (insI x out).Pairwise (· ≤ ·)
  | [], _ => by simp [insI]
  | y :: out, h => by
    rw [List.pairwise_cons] at h
    by_cases hy : y < x
    · have ih := insI_sorted (x := x) h.2
      have e : insI x (y :: out) = y :: insI x out := by simp [insI, List.takeWhile_cons, List.dropWhile_cons, hy]
      rw [e, List.pairwise_cons]
      refine ⟨fun z hz => ?_, ih⟩
      rcases List.mem_cons.1 ((insI_perm x out).mem_iff.1 hz) with rfl | hz
      · omega
      · exact h.1 z hz
    · have e : insI x (y :: out) = x :: y :: out := by simp [insI, List.takeWhile_cons, List.dropWhile_cons, hy]
      rw [e, List.pairwise_cons]
      refine ⟨fun z hz => ?_, List.pairwise_cons.2 h⟩
      rcases List.mem_cons.1 hz with rfl | hz
      · omega
      · have := h.1 z hz; omega
theorem srt_eq {l xs : List Int} (hp : l.Perm xs) (hs : l.Pairwise (· ≤ ·)) : srtI xs = l := by
  refine List.Perm.eq_of_pairwise (le := fun a b : Int => a ≤ b) (fun a b _ _ h1 h2 => Int.le_antisymm h1 h2) ?_ hs ((List.mergeSort_perm _ _).trans hp.symm)
  have := List.pairwise_mergeSort (le := fun x y : Int => decide (x ≤ y)) (fun a b c h1 h2 => by simp at *; omega) (fun a b => by simp; omega) xs
  exact this.imp fun h => by simpa using h
theorem srtI_le (xs : List Int) : (srtI xs).Pairwise (· ≤ ·) := by
  have := List.pairwise_mergeSort (le := fun x y : Int => decide (x ≤ y)) (fun a b c h1 h2 => by simp at *; omega) (fun a b => by simp; omega) xs
  exact this.imp fun h => by simpa using h
def insAll (xs : List Int) : List Int := xs.foldl (fun o x => insI x o) []
theorem insAll_ok (xs : List Int) : insAll xs = srtI xs := by
  have key : ∀ (xs o : List Int), o.Pairwise (· ≤ ·) → (xs.foldl (fun o x => insI x o) o).Perm (o ++ xs) ∧ (xs.foldl (fun o x => insI x o) o).Pairwise (· ≤ ·) := by
    intro xs
    induction xs with
    | nil => intro o h; exact ⟨by simp, h⟩
    | cons x xs ih =>
      intro o h
      obtain ⟨h1, h2⟩ := ih (insI x o) (insI_sorted h)
      refine ⟨h1.trans ?_, h2⟩
      refine ((insI_perm x o).append_right xs).trans ?_
      exact (List.perm_middle (a := x) (l₁ := o) (l₂ := xs)).symm
  obtain ⟨h1, h2⟩ := key xs [] List.Pairwise.nil
  exact (srt_eq h1 h2).symm
/-- The keys that are told: all, or those that are dirty. -/
def keysF (dy : Bool) (L : List (Int × Bd)) : List Int := (L.filter fun p => !dy || p.2.d).map Prod.fst
theorem keysF_all (L : List (Int × Bd)) : srtI (keysF false L) = allR L := by
  have : L.filter (fun p => !false || p.2.d) = L := List.filter_eq_self.2 fun _ _ => rfl
  rw [keysF, this]
  rfl
theorem keysF_dirty {L : List (Int × Bd)} (hn : (L.map Prod.fst).Nodup) : srtI (keysF true L) = dirtyR L := by
  have e : keysF true L = (L.map Prod.fst).filter (isDirty L) := by
    unfold keysF
    rw [List.filter_map]
    congr 1
    refine List.filter_congr fun p hp => ?_
    simp only [Function.comp, isDirty, gget_nd (k := p.1) (x := p.2) hn hp, Bool.not_true, Bool.false_or]
  refine srt_eq ?_ ((srtI_le _).filter _)
  rw [e]
  exact (List.mergeSort_perm _ _).filter _
def outI (dy : Bool) (L : List (Int × Bd)) (i : Nat) : List Int := insAll (keysF dy (L.take i))
theorem outI_succ {dy : Bool} {L : List (Int × Bd)} {i : Nat} (h : i < L.length) : outI dy L (i + 1) = if (!dy || L[i].2.d) = true then insI L[i].1 (outI dy L i) else outI dy L i := by
  unfold outI keysF insAll
  rw [List.take_succ_eq_append_getElem h, List.filter_append, List.map_append, List.foldl_append]
  by_cases hd : (!dy || L[i].2.d) = true
  · rw [if_pos hd, show [L[i]].filter (fun p => !dy || p.2.d) = [L[i]] by simp only [List.filter, hd]]; rfl
  · rw [if_neg hd, show [L[i]].filter (fun p => !dy || p.2.d) = [] by simp only [List.filter, hd]]; rfl
theorem outI_len {dy : Bool} {L : List (Int × Bd)} {i : Nat} : (outI dy L i).length ≤ L.length := by
  unfold outI
  rw [insAll_ok]
  have h1 : (srtI (keysF dy (L.take i))).length = (keysF dy (L.take i)).length := by simp [srtI]
  rw [h1, keysF, List.length_map]
  exact Nat.le_trans (List.length_filter_le _ _) (List.length_take_le' _ _)
theorem ints_len {m : Nat} (z : m ≤ 256) : (0 + m + 1 + m ≤ maxLen ∧ (0 + m + 1 + m) * 8 ≤ 140737488355328) := by
  refine ⟨?_, by omega⟩
  simp only [maxLen]
  omega
section
variable {H : HL} {nx d l : Nat} {b1 b2 : Bool} {room : Int} {L : List (Int × Bd)}
set_option maxRecDepth 100000 in
set_option maxHeartbeats 2000000 in
theorem rsect (hd : lookH H d = some (b1, .cells [iT room, .nm l] 67)) (hl : lookH H l = some (b2, .own 73 4 L.length (rcs L))) (z : L.length ≤ 256) (dy : Bool) :
    FnH Try.prog 21 [.c (.p d 0), .c (.b dy)] H nx ⟨.t (.c (.nm nx)), [(true, .own 3 1 (outI dy L L.length).length (ivs (outI dy L L.length)))], [], []⟩ := by
  refine fnN (fn := Try.f21) 73 rfl rfl rfl (args' := [.c (.p 0 0), .c (.b dy)]) (H' := hRC room L) (nx' := 2) (fun e w M => ⟨_, mem_rd (r2' d l) (memRC hd hl) M, rfl⟩) rfl rfl rfl (inR_one _) rfl fun w => ?_
  show At _ _ _ _ _ _ [(0, some (false, .cells [iT room, .nm 1] 67)), (1, some (false, .own 73 4 L.length (rcs L)))] 2
  refine rn [] rfl (by repeat' (first | exact trivial | exact rfl | refine And.intro ?_ ?_)) ?_
  refine At.nil 5 3 1 rfl ?_
  refine At.loop (X := (i : Nat) ×' (i ≤ L.length)) 3 (fun s => L.length - s.1)
    (fun s => [(0, .t (.c (.p 0 0))), (1, .t (.c (.b dy))), (5, .t (.c (.nm 2))), (6, .t (.c (iT (s.1 : Nat))))])
    (fun s => [(0, some (false, .cells [iT room, .nm 1] 67)), (1, some (false, .own 73 4 L.length (rcs L))), (2, some (true, .own 3 1 (outI dy L s.1).length (ivs (outI dy L s.1))))]) ⟨0, by omega⟩ [] (fun s => wf rfl rfl) (by repeat' (first | exact trivial | exact rfl | refine And.intro ?_ ?_)) (by repeat' (first | exact trivial | exact rfl | refine And.intro ?_ ?_)) rfl fun s => ?_
  obtain ⟨i, hi⟩ := s
  have w2 : IntKind.i64.wrap ((i : Int) + 1) = ((i + 1 : Nat) : Int) := by rw [wrap_small (by omega) (by omega)]; omega
  refine rn [] rfl (by repeat' (first | exact trivial | exact rfl | refine And.intro ?_ ?_)) ?_
  refine ⟨fun h => ?_, fun h => ?_⟩
  · have hlt : i < L.length := by have : (i : Int) < (L.length : Int) := of_decide_eq_true h; omega
    have hμ : L.length - (i + 1) < L.length - i := by omega
    have hi' : i + 1 ≤ L.length := by omega
    have e1 := rcs_at hlt
    have q1 := rcs_d hlt
    have b0 : (0 : Int) ≤ (i : Int) := by omega
    have b1 : (i : Int) < (L.length : Int) := by omega
    have c5 : (i : Int).toNat * 4 < (rcs L).length := by rw [rcs_length]; omega
    have hs := outI_succ (dy := dy) hlt
    have hol := outI_len (dy := dy) (L := L) (i := i)
    generalize hO : outI dy L i = O at *
    by_cases hsk : (!dy || L[i].2.d) = true
    · rw [if_pos hsk] at hs
      have hz3 : O.length ≤ 256 := by omega
      rcases Bool.eq_false_or_eq_true dy with hdv | hdv
      · have hxd : L[i].2.d = true := by rw [hdv] at hsk; simpa using hsk
        rw [hxd] at q1
        refine rn [(19, .dec true), (27, .ld [.b true]), (29, .dec false)] rfl (by (repeat' (first | exact trivial | exact rfl | exact trivial | exact fun _ => trivial | first | exact q1 | exact ⟨q1, trivial⟩ | exact b0 | exact b1 | exact c5 | exact hdv | (rw [hdv]; rfl) | decide | refine And.intro ?_ ?_))) ?_
        refine At.loop (X := (k : Nat) ×' (k ≤ O.length ∧ ∀ j (h : j < O.length), j < k → O[j] < L[i].1)) 3 (fun s => O.length - s.1)
          (fun s => [(0, .t (.c (.p 0 0))), (1, .t (.c (.b dy))), (5, .t (.c (.nm 2))), (6, .t (.c (iT (i : Nat)))), (7, .t (.c (iT (s.1 : Nat))))])
          (fun s => [(0, some (false, .cells [iT room, .nm 1] 67)), (1, some (false, .own 73 4 L.length (rcs L))), (2, some (true, .own 3 1 O.length (ivs O)))]) ⟨0, by omega, fun j _ h => by omega⟩ [] (fun s => wf rfl rfl) (by (repeat' (first | exact trivial | exact rfl | exact trivial | exact fun _ => trivial | exact hdv | refine And.intro ?_ ?_))) (by (repeat' (first | exact trivial | exact rfl | exact trivial | exact fun _ => trivial | first | exact congrArg List.length hO | exact congrArg ivs hO | refine And.intro ?_ ?_))) rfl fun s => ?_
        obtain ⟨k, hk1, hk2⟩ := s
        have w3 : IntKind.i64.wrap ((k : Int) + 1) = ((k + 1 : Nat) : Int) := by rw [wrap_small (by omega) (by omega)]; omega
        have tail : (∀ h : k < O.length, ¬ O[k] < L[i].1) → outI dy L (i + 1) = O.take k ++ L[i].1 :: O.drop k := fun h => by rw [hs, insI_take hk1 hk2 h]
        by_cases hgo : ∃ h : k < O.length, O[k] < L[i].1
        · obtain ⟨hkl, hkx⟩ := hgo
          have l1 : decide ((k : Int) < (O.length : Int)) = true := decide_eq_true (by omega)
          have l2 : decide (O[k] < L[i].1) = true := decide_eq_true hkx
          have e2 : (ivs O)[(k : Int).toNat * 1]? = some (.int .i64 O[k]) := by simpa using ivs_at hkl
          have d0 : (0 : Int) ≤ (k : Int) := by omega
          have d1 : (k : Int) < (O.length : Int) := by omega
          refine rn [(34, .dec true), (38, .ld [iT O[k]]), (46, .ld [iT L[i].1]), (48, .dec true)] rfl (by (repeat' (first | exact trivial | exact rfl | exact trivial | exact fun _ => trivial | first | exact l1 | exact l2 | exact e2 | exact ⟨e2, trivial⟩ | exact e1 | exact ⟨e1, trivial⟩ | exact b0 | exact b1 | exact c5 | exact d0 | exact d1 | (rw [l1, l2]; rfl) | (rw [l2]; rfl) | decide | refine And.intro ?_ ?_))) ?_
          exact roundEnd ⟨k + 1, by omega, fun j hj h => by
            rcases Nat.lt_or_eq_of_le (Nat.le_of_lt_succ h) with h | rfl
            · exact hk2 j hj h
            · exact hkx⟩ [] (by show O.length - (k + 1) < O.length - k; omega) (by (repeat' (first | exact trivial | exact rfl | exact w3 | exact fun _ => w3 | refine And.intro ?_ ?_))) (by repeat' (first | exact trivial | exact rfl | refine And.intro ?_ ?_)) rfl
        · have ht := tail fun h hx => hgo ⟨h, hx⟩
          have f1 : (0 : Int) ≤ (k : Int) := by omega
          have f2 : (k : Int) ≤ (O.length : Int) := by omega
          have n1 : 0 + (k : Int).toNat ≤ maxLen := by have := (ints_len hz3).1; simp only [maxLen] at *; omega
          have n2 : (0 + (k : Int).toNat) * 8 ≤ 140737488355328 := by omega
          have n3 : 0 + (k : Int).toNat + 1 ≤ maxLen := by have := (ints_len hz3).1; simp only [maxLen] at *; omega
          have n4 : (0 + (k : Int).toNat + 1) * 8 ≤ 140737488355328 := by omega
          have n5 : 0 + (k : Int).toNat + 1 + (O.length - (k : Int).toNat) ≤ maxLen := by have := (ints_len hz3).1; simp only [maxLen] at *; omega
          have n6 : (0 + (k : Int).toNat + 1 + (O.length - (k : Int).toNat)) * 8 ≤ 140737488355328 := by omega
          have n7 : (k : Int).toNat + (O.length - (k : Int).toNat) ≤ O.length := by omega
          have n8 : 0 + (k : Int).toNat ≤ O.length := by omega
          have o1 := ivs_one O
          have o2 := ivs_lit L[i].1
          have e5 : 0 + (k : Int).toNat + 1 + (O.length - (k : Int).toNat) = (outI dy L (i + 1)).length := by
            rw [ht, List.length_append, List.length_cons, List.length_take, List.length_drop, Nat.min_eq_left hk1]
            omega
          have e6 : app (app (app [] (((ivs O).drop 0).take ((k : Int).toNat * 1))) [Value.int .i64 L[i].1]) (((ivs O).drop ((k : Int).toNat * 1)).take ((O.length - (k : Int).toNat) * 1)) = ivs (outI dy L (i + 1)) := by
            rw [app_eq, app_eq, app_eq, ht]
            simp only [ivs, List.nil_append, List.drop_zero, Int.toNat_natCast, Nat.mul_one, List.map_append, List.map_take, List.map_drop, List.map_cons]
            rw [List.take_of_length_le (l := (List.map (Value.int .i64) O).drop k) (by simp)]
            simp
          by_cases hkl : k < O.length
          · have l1 : decide ((k : Int) < (O.length : Int)) = true := decide_eq_true (by omega)
            have l2 : decide (O[k] < L[i].1) = false := decide_eq_false fun hx => hgo ⟨hkl, hx⟩
            have e2 : (ivs O)[(k : Int).toNat * 1]? = some (.int .i64 O[k]) := by simpa using ivs_at hkl
            have d1 : (k : Int) < (O.length : Int) := by omega
            refine rn [(34, .dec true), (38, .ld [iT O[k]]), (46, .ld [iT L[i].1]), (48, .dec false)] rfl (by (repeat' (first | exact trivial | exact rfl | exact trivial | exact fun _ => trivial | first | exact l1 | exact l2 | exact e2 | exact ⟨e2, trivial⟩ | exact e1 | exact ⟨e1, trivial⟩ | exact b0 | exact b1 | exact c5 | exact f1 | exact d1 | (rw [l1, l2]; rfl) | (rw [l2]; rfl) | decide | refine And.intro ?_ ?_))) (roundExit rfl ?_)
            refine rnA [(20010, .dec true)] rfl (by repeat' (first | exact trivial | exact rfl | refine And.intro ?_ ?_)) ?_
            refine At.nil 8 3 1 rfl ?_
            refine rn [(64, .ld [iT L[i].1]), (65, .dec true)] rfl (by (repeat' (first | exact trivial | exact rfl | exact trivial | exact fun _ => trivial | first | exact e1 | exact ⟨e1, trivial⟩ | exact b0 | exact b1 | exact c5 | exact f1 | exact f2 | exact ⟨f1, f2⟩ | exact n1 | exact n2 | exact n3 | exact n4 | exact n5 | exact n6 | exact n7 | exact n8 | exact o1 | exact o2 | decide | refine And.intro ?_ ?_))) ?_
            exact roundEnd ⟨i + 1, hi'⟩ [(2, 7)] hμ (by (repeat' (first | exact trivial | exact rfl | exact w2 | exact fun _ => w2 | refine And.intro ?_ ?_))) (by (repeat' (first | exact trivial | exact rfl | exact e6 | exact fun _ => e6 | exact e5 | refine And.intro ?_ ?_))) rfl
          · have l1 : decide ((k : Int) < (O.length : Int)) = false := decide_eq_false (by omega)
            refine rn [(34, .dec false), (48, .dec false)] rfl (by (repeat' (first | exact trivial | exact rfl | exact trivial | exact fun _ => trivial | first | exact l1 | (rw [l1]; rfl) | decide | refine And.intro ?_ ?_))) (roundExit rfl ?_)
            refine rnA [(20010, .dec true)] rfl (by repeat' (first | exact trivial | exact rfl | refine And.intro ?_ ?_)) ?_
            refine At.nil 8 3 1 rfl ?_
            refine rn [(64, .ld [iT L[i].1]), (65, .dec true)] rfl (by (repeat' (first | exact trivial | exact rfl | exact trivial | exact fun _ => trivial | first | exact e1 | exact ⟨e1, trivial⟩ | exact b0 | exact b1 | exact c5 | exact f1 | exact f2 | exact ⟨f1, f2⟩ | exact n1 | exact n2 | exact n3 | exact n4 | exact n5 | exact n6 | exact n7 | exact n8 | exact o1 | exact o2 | decide | refine And.intro ?_ ?_))) ?_
            exact roundEnd ⟨i + 1, hi'⟩ [(2, 7)] hμ (by (repeat' (first | exact trivial | exact rfl | exact w2 | exact fun _ => w2 | refine And.intro ?_ ?_))) (by (repeat' (first | exact trivial | exact rfl | exact e6 | exact fun _ => e6 | exact e5 | refine And.intro ?_ ?_))) rfl
      · skip
        refine rn [(19, .dec false), (29, .dec false)] rfl (by (repeat' (first | exact trivial | exact rfl | exact trivial | exact fun _ => trivial | first | exact q1 | exact ⟨q1, trivial⟩ | exact b0 | exact b1 | exact c5 | exact hdv | (rw [hdv]; rfl) | decide | refine And.intro ?_ ?_))) ?_
        refine At.loop (X := (k : Nat) ×' (k ≤ O.length ∧ ∀ j (h : j < O.length), j < k → O[j] < L[i].1)) 3 (fun s => O.length - s.1)
          (fun s => [(0, .t (.c (.p 0 0))), (1, .t (.c (.b dy))), (5, .t (.c (.nm 2))), (6, .t (.c (iT (i : Nat)))), (7, .t (.c (iT (s.1 : Nat))))])
          (fun s => [(0, some (false, .cells [iT room, .nm 1] 67)), (1, some (false, .own 73 4 L.length (rcs L))), (2, some (true, .own 3 1 O.length (ivs O)))]) ⟨0, by omega, fun j _ h => by omega⟩ [] (fun s => wf rfl rfl) (by (repeat' (first | exact trivial | exact rfl | exact trivial | exact fun _ => trivial | exact hdv | refine And.intro ?_ ?_))) (by (repeat' (first | exact trivial | exact rfl | exact trivial | exact fun _ => trivial | first | exact congrArg List.length hO | exact congrArg ivs hO | refine And.intro ?_ ?_))) rfl fun s => ?_
        obtain ⟨k, hk1, hk2⟩ := s
        have w3 : IntKind.i64.wrap ((k : Int) + 1) = ((k + 1 : Nat) : Int) := by rw [wrap_small (by omega) (by omega)]; omega
        have tail : (∀ h : k < O.length, ¬ O[k] < L[i].1) → outI dy L (i + 1) = O.take k ++ L[i].1 :: O.drop k := fun h => by rw [hs, insI_take hk1 hk2 h]
        by_cases hgo : ∃ h : k < O.length, O[k] < L[i].1
        · obtain ⟨hkl, hkx⟩ := hgo
          have l1 : decide ((k : Int) < (O.length : Int)) = true := decide_eq_true (by omega)
          have l2 : decide (O[k] < L[i].1) = true := decide_eq_true hkx
          have e2 : (ivs O)[(k : Int).toNat * 1]? = some (.int .i64 O[k]) := by simpa using ivs_at hkl
          have d0 : (0 : Int) ≤ (k : Int) := by omega
          have d1 : (k : Int) < (O.length : Int) := by omega
          refine rn [(34, .dec true), (38, .ld [iT O[k]]), (46, .ld [iT L[i].1]), (48, .dec true)] rfl (by (repeat' (first | exact trivial | exact rfl | exact trivial | exact fun _ => trivial | first | exact l1 | exact l2 | exact e2 | exact ⟨e2, trivial⟩ | exact e1 | exact ⟨e1, trivial⟩ | exact b0 | exact b1 | exact c5 | exact d0 | exact d1 | (rw [l1, l2]; rfl) | (rw [l2]; rfl) | decide | refine And.intro ?_ ?_))) ?_
          exact roundEnd ⟨k + 1, by omega, fun j hj h => by
            rcases Nat.lt_or_eq_of_le (Nat.le_of_lt_succ h) with h | rfl
            · exact hk2 j hj h
            · exact hkx⟩ [] (by show O.length - (k + 1) < O.length - k; omega) (by (repeat' (first | exact trivial | exact rfl | exact w3 | exact fun _ => w3 | refine And.intro ?_ ?_))) (by repeat' (first | exact trivial | exact rfl | refine And.intro ?_ ?_)) rfl
        · have ht := tail fun h hx => hgo ⟨h, hx⟩
          have f1 : (0 : Int) ≤ (k : Int) := by omega
          have f2 : (k : Int) ≤ (O.length : Int) := by omega
          have n1 : 0 + (k : Int).toNat ≤ maxLen := by have := (ints_len hz3).1; simp only [maxLen] at *; omega
          have n2 : (0 + (k : Int).toNat) * 8 ≤ 140737488355328 := by omega
          have n3 : 0 + (k : Int).toNat + 1 ≤ maxLen := by have := (ints_len hz3).1; simp only [maxLen] at *; omega
          have n4 : (0 + (k : Int).toNat + 1) * 8 ≤ 140737488355328 := by omega
          have n5 : 0 + (k : Int).toNat + 1 + (O.length - (k : Int).toNat) ≤ maxLen := by have := (ints_len hz3).1; simp only [maxLen] at *; omega
          have n6 : (0 + (k : Int).toNat + 1 + (O.length - (k : Int).toNat)) * 8 ≤ 140737488355328 := by omega
          have n7 : (k : Int).toNat + (O.length - (k : Int).toNat) ≤ O.length := by omega
          have n8 : 0 + (k : Int).toNat ≤ O.length := by omega
          have o1 := ivs_one O
          have o2 := ivs_lit L[i].1
          have e5 : 0 + (k : Int).toNat + 1 + (O.length - (k : Int).toNat) = (outI dy L (i + 1)).length := by
            rw [ht, List.length_append, List.length_cons, List.length_take, List.length_drop, Nat.min_eq_left hk1]
            omega
          have e6 : app (app (app [] (((ivs O).drop 0).take ((k : Int).toNat * 1))) [Value.int .i64 L[i].1]) (((ivs O).drop ((k : Int).toNat * 1)).take ((O.length - (k : Int).toNat) * 1)) = ivs (outI dy L (i + 1)) := by
            rw [app_eq, app_eq, app_eq, ht]
            simp only [ivs, List.nil_append, List.drop_zero, Int.toNat_natCast, Nat.mul_one, List.map_append, List.map_take, List.map_drop, List.map_cons]
            rw [List.take_of_length_le (l := (List.map (Value.int .i64) O).drop k) (by simp)]
            simp
          by_cases hkl : k < O.length
          · have l1 : decide ((k : Int) < (O.length : Int)) = true := decide_eq_true (by omega)
            have l2 : decide (O[k] < L[i].1) = false := decide_eq_false fun hx => hgo ⟨hkl, hx⟩
            have e2 : (ivs O)[(k : Int).toNat * 1]? = some (.int .i64 O[k]) := by simpa using ivs_at hkl
            have d1 : (k : Int) < (O.length : Int) := by omega
            refine rn [(34, .dec true), (38, .ld [iT O[k]]), (46, .ld [iT L[i].1]), (48, .dec false)] rfl (by (repeat' (first | exact trivial | exact rfl | exact trivial | exact fun _ => trivial | first | exact l1 | exact l2 | exact e2 | exact ⟨e2, trivial⟩ | exact e1 | exact ⟨e1, trivial⟩ | exact b0 | exact b1 | exact c5 | exact f1 | exact d1 | (rw [l1, l2]; rfl) | (rw [l2]; rfl) | decide | refine And.intro ?_ ?_))) (roundExit rfl ?_)
            refine rnA [(20010, .dec true)] rfl (by repeat' (first | exact trivial | exact rfl | refine And.intro ?_ ?_)) ?_
            refine At.nil 8 3 1 rfl ?_
            refine rn [(64, .ld [iT L[i].1]), (65, .dec true)] rfl (by (repeat' (first | exact trivial | exact rfl | exact trivial | exact fun _ => trivial | first | exact e1 | exact ⟨e1, trivial⟩ | exact b0 | exact b1 | exact c5 | exact f1 | exact f2 | exact ⟨f1, f2⟩ | exact n1 | exact n2 | exact n3 | exact n4 | exact n5 | exact n6 | exact n7 | exact n8 | exact o1 | exact o2 | decide | refine And.intro ?_ ?_))) ?_
            exact roundEnd ⟨i + 1, hi'⟩ [(2, 7)] hμ (by (repeat' (first | exact trivial | exact rfl | exact w2 | exact fun _ => w2 | refine And.intro ?_ ?_))) (by (repeat' (first | exact trivial | exact rfl | exact e6 | exact fun _ => e6 | exact e5 | refine And.intro ?_ ?_))) rfl
          · have l1 : decide ((k : Int) < (O.length : Int)) = false := decide_eq_false (by omega)
            refine rn [(34, .dec false), (48, .dec false)] rfl (by (repeat' (first | exact trivial | exact rfl | exact trivial | exact fun _ => trivial | first | exact l1 | (rw [l1]; rfl) | decide | refine And.intro ?_ ?_))) (roundExit rfl ?_)
            refine rnA [(20010, .dec true)] rfl (by repeat' (first | exact trivial | exact rfl | refine And.intro ?_ ?_)) ?_
            refine At.nil 8 3 1 rfl ?_
            refine rn [(64, .ld [iT L[i].1]), (65, .dec true)] rfl (by (repeat' (first | exact trivial | exact rfl | exact trivial | exact fun _ => trivial | first | exact e1 | exact ⟨e1, trivial⟩ | exact b0 | exact b1 | exact c5 | exact f1 | exact f2 | exact ⟨f1, f2⟩ | exact n1 | exact n2 | exact n3 | exact n4 | exact n5 | exact n6 | exact n7 | exact n8 | exact o1 | exact o2 | decide | refine And.intro ?_ ?_))) ?_
            exact roundEnd ⟨i + 1, hi'⟩ [(2, 7)] hμ (by (repeat' (first | exact trivial | exact rfl | exact w2 | exact fun _ => w2 | refine And.intro ?_ ?_))) (by (repeat' (first | exact trivial | exact rfl | exact e6 | exact fun _ => e6 | exact e5 | refine And.intro ?_ ?_))) rfl
    · rw [if_neg hsk] at hs
      have hdy : dy = true := by cases hd0 : dy with | true => rfl | false => rw [hd0] at hsk; exact (hsk rfl).elim
      have hxd : L[i].2.d = false := by cases hx : L[i].2.d with | false => rfl | true => rw [hx] at hsk; simp at hsk
      rw [hxd] at q1
      have g1 : dy = true := hdy
      refine rn [(19, .dec true), (27, .ld [.b false]), (29, .dec true)] rfl (by (repeat' (first | exact trivial | exact rfl | exact g1 | exact fun _ => g1 | first | exact q1 | exact ⟨q1, trivial⟩ | exact b0 | exact b1 | exact c5 | (rw [g1]; rfl) | decide | refine And.intro ?_ ?_))) ?_
      exact roundEnd ⟨i + 1, hi'⟩ [] hμ (by (repeat' (first | exact trivial | exact rfl | exact w2 | exact fun _ => w2 | refine And.intro ?_ ?_))) (by (repeat' (first | exact trivial | exact rfl | exact trivial | exact fun _ => trivial | first | exact congrArg List.length (hO.trans hs.symm) | exact congrArg ivs (hO.trans hs.symm) | exact congrArg List.length hs.symm | exact congrArg ivs hs.symm | refine And.intro ?_ ?_))) rfl
  · have hlt : i = L.length := by have : ¬ (i : Int) < (L.length : Int) := of_decide_eq_false h; omega
    refine rn [] rfl (by repeat' (first | exact trivial | exact rfl | refine And.intro ?_ ?_)) (roundExit rfl ?_)
    refine rnA [] rfl (by repeat' (first | exact trivial | exact rfl | refine And.intro ?_ ?_)) ?_
    subst hlt
    exact retN tysOk [(nx, 2)] rfl (by simp only [retS, SV.eqs, eqsT, TV.eqs, CV.eqs, ren_one]; repeat' (first | exact trivial | exact rfl | refine And.intro ?_ ?_)) (by simp only [newsH, subH, ren_one]; repeat' (first | exact trivial | exact rfl | refine And.intro ?_ ?_)) (by simp [injK, keysH, newsH, inL]) rfl
end
end Cw
