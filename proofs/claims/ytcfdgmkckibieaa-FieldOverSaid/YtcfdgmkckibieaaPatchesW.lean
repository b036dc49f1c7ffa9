/- FieldPatches, FieldOver answer true. -/
import Derived.Test.YtcfdgmkckibieaaLend
namespace Cw
open Go Go.RowKit Go.IntWalk
open Go.Proofs

theorem own_below {w w' : World} {base : Nat} {e : TypeId} {size n : Nat} {v : Value} {xs : List Value} (h : w.ownsRow base e size v n xs) (hb : Below w.heap.size w w') : w'.ownsRow base e size v n xs := by
  obtain ⟨h0, h⟩ := h
  rcases h with h | ⟨g, cap, cur, rfl, hbg, hg, hrest⟩
  · exact ⟨h0, .inl h⟩
  · refine ⟨h0, .inr ⟨g, cap, cur, rfl, hbg, ?_, hrest⟩⟩
    rw [hb.block g]
    · exact hg
    · rcases Nat.lt_or_ge g w.heap.size with h' | h'
      · exact h'
      · rw [Array.getElem?_eq_none h'] at hg; cases hg

set_option maxHeartbeats 1000000 in
theorem fieldPatches_true (s : ByteArray) (A : Option Addr) (c : Nat) (l : List Pt) (o : Int) (t : ByteArray) (hs : s.size ≤ 9223372036854775807) (hz : l.length * 24 ≤ 140737488351232) (hp : ∀ p ∈ l, p.2.size ≤ 9223372036854775807) (ht : t.size ≤ 9223372036854775807) (w : World)
    (hl : Rds w A l.length c 2 (l.flatMap pcells)) : Calls Try.prog 8 #[.string s, .slice A l.length c, .agg #[.int .i64 o, .string t]] w fun e w' => e = .returned (.bool true) ∧ Below w.heap.size w w' := by
  have hT := two_new w (.int .i64 o) (.string t) 25
  have hB := below_alloc (Below.refl w.heap.size w) (.cells #[.int .i64 o, .string t] 25)
  have hR := hl.below (Nat.le_refl _) hB
  go_enter Try.func8, Try.ntmps8
  go_wp2_with fail
  generalize World.alloc w _ = w0 at *
  refine (lend_any A c l hz _ hR).mono ?_
  rintro e w1 ⟨g, cap, rfl, hb, hO⟩
  have hR1 := hR.below (Nat.le_refl _) hb
  have hT1 := two_step hT hb
  have hB1 := below_step hb hB.size hB
  clear hR hT hB hb
  go_wp2_with fail
  refine (patched_any s _ l hp hs _ (sl_rds (Rds.first hO l.length (by omega) (pcells_len l)))).mono ?_
  rintro e w2 ⟨rfl, hb⟩
  have hR := hR1.below (Nat.le_refl _) hb
  have hT := two_step hT1 hb
  have hB := below_step hb hB1.size hB1
  have hO2 := own_below hO hb
  clear hR1 hT1 hB1 hb hO
  go_wp2_with fail
  refine (rpatched_any s _ l hs _ (sl_rds hR)).mono ?_
  rintro e w3 ⟨rfl, hb⟩
  have hR1 := hR.below (Nat.le_refl _) hb
  have hT1 := two_step hT hb
  have hB1 := below_step hb hB.size hB
  have hO := own_below hO2 hb
  clear hR hT hB hb hO2
  have HK := Lib.hid (kept_any A c g cap _ l hz _ hR1 hO)
  generalize pt s l = v1 at *
  generalize pte s l = v2 at *
  go_wp2_with (first | (go_at_call 30; refine HK.out.mono ?_; rintro e w4 ⟨rfl, hb⟩; have hR := hR1.below (Nat.le_refl _) hb; have hT := two_step hT1 hb; have hB := below_step hb hB1.size hB1; clear hR1 hT1 hB1 hb HK hO) | (go_at_call 16; refine (works_any _).mono ?_; rintro e w5 ⟨rfl, hb⟩; have hR1 := hR.below (Nat.le_refl _) hb; have hT1 := two_step hT hb; have hB1 := below_step hb hB.size hB; clear hR hT hB hb))
  go_loopw [12] (fun i wr => ∃ k : Nat, k ≤ l.length ∧ k ≤ 20 ∧ i = .int .i64 k ∧ Below w5.heap.size w5 wr) (fun i _ => l.length - (intOf i).toNat)
  case atStart => exact ⟨0, by omega, by omega, rfl, Below.refl _ _⟩
  case round =>
    obtain ⟨k, hk, hk2, rfl, hBr⟩ := hrel
    have hB := below_step hBr hB1.size hB1
    by_cases hlt : k < l.length
    · by_cases h20 : k < 20
      · have hT := two_step hT1 hBr
        have hS := sl_rds (hR1.below (Nat.le_refl _) hBr)
        obtain ⟨a, c', hv, _, _, hab, hcell⟩ := hS
        cases hv
        obtain ⟨b, rfl, d0, d1⟩ := hcell k hlt
        rw [add_succ] at d1
        have hbk := hab b rfl (by omega)
        have hq := hp l[k] (List.getElem_mem hlt)
        generalize l[k] = q at *
        obtain ⟨o2, t2⟩ := q
        simp only at *
        have O1 := over_any (o, t) (o2, t2) ht hq
        have O2 := rover_any (o, t) (o2, t2)
        generalize ovb (o, t) (o2, t2) = x1 at O1 O2
        generalize ove (o, t) (o2, t2) = x2 at O1 O2
        have H1 := Lib.hid O1
        have H2 := Lib.hid O2
        clear O1 O2 hab hcell hR1 hT1
        go_wp2_with fail
        refine region_held (by kernel_rfl) (by kernel_rfl) (fun τ hN F hF hG => ?_)
        have e0 := fun n => ((hF n).cell (p := b.add (k * 2)) (by rw [add_block]; exact hbk)).trans d0
        have e1 := fun n => ((hF n).cell (p := ⟨(b.add (k * 2)).block, (b.add (k * 2)).off + 1, none⟩) (by rw [add_block]; exact hbk)).trans d1
        have p0 := fun n => (two_step hT (hF n)).1
        have p1 := fun n => (two_step hT (hF n)).2.1
        (repeat (go_big_quiet_step (first | (go_at_call 31; refine (H1.out _).mono ?_; rintro e w' ⟨rfl, hb⟩; exact ⟨rfl, hG _ ((hF _).trans (hb.mono (hF _).size))⟩))))
        refine wpQuiet_nil ?_
        intro n
        have hT' := two_step hT (hF n)
        have d0' := e0 n
        have d1' := e1 n
        have hB' := below_step (hF n) hB.size hB
        have hBr' := below_step (hF n) hBr.size hBr
        have hbk' := Nat.lt_of_lt_of_le hbk (hF n).size
        generalize F n = w6 at *
        clear hF hG e0 e1 p0 p1 hT d0 d1 hB hBr hbk
        go_wp2_with fail
        refine region_held (by kernel_rfl) (by kernel_rfl) (fun τ hN F hF hG => ?_)
        have e0 := fun n => ((hF n).cell (p := b.add (k * 2)) (by rw [add_block]; exact hbk')).trans d0'
        have e1 := fun n => ((hF n).cell (p := ⟨(b.add (k * 2)).block, (b.add (k * 2)).off + 1, none⟩) (by rw [add_block]; exact hbk')).trans d1'
        have p0 := fun n => (two_step hT' (hF n)).1
        have p1 := fun n => (two_step hT' (hF n)).2.1
        (repeat (go_big_quiet_step (first | (go_at_call 32; refine (H2.out _).mono ?_; rintro e w' ⟨rfl, hb⟩; exact ⟨rfl, hG _ ((hF _).trans (hb.mono (hF _).size))⟩))))
        refine wpQuiet_nil ?_
        intro n
        have hBr := below_step (hF n) hBr'.size hBr'
        generalize F n = w7 at *
        clear hF hG e0 e1 p0 p1 hT' d0' d1' hB' hBr'
        have b1 : (x1 != x1) = false := by simp
        have b2 : (x2 != x2) = false := by simp
        go_wp2_with fail
        go_roundw
        case rel => exact ⟨k + 1, by omega, by omega, by go_num, hBr⟩
        case measure => simp [intOf]; omega
      · go_wp2_with fail
        go_ret
        exact ⟨rfl, hB⟩
    · go_wp2_with fail
      go_ret
      exact ⟨rfl, hB⟩

theorem one_all (s : List UInt8) (t : ByteArray) (hs : s.length = 64) (ht : t.size = 64) : one s (0, t) = t.data.toList := by
  have e : t.data.toList.length = 64 := ht
  simp only [one, over, Int.toNat_zero, List.take_zero, List.nil_append, e, Nat.zero_add]
  rw [List.drop_eq_nil_of_le (by omega), List.append_nil]

theorem over_calls (s t : ByteArray) (hs : s.size = 64) (ht : t.size = 64) (l : List Pt) (hn : l.length ≤ 100) : (l.all okp = true ∧ pte s (l ++ [(0, t)]) = 0 ∧ pt s (l ++ [(0, t)]) = t) ∨ (pte s (l ++ [(0, t)]) = 1 ∧ pt s (l ++ [(0, t)]) = ⟨#[]⟩) := by
  have hok : okp ((0 : Int), t) = true := by simp [okp, finside, ht]
  by_cases h : l.all okp = true
  · left
    obtain ⟨h1, h2⟩ := pt_ok s (l ++ [(0, t)]) hs (by simp; omega) (by simp [List.all_append, h, hok])
    refine ⟨h, h1, ?_⟩
    rw [h2, patchAll_snoc, one_all _ _ (patchAll_length l _ hs h) ht, S_self]
  · right
    have e : pte s (l ++ [(0, t)]) = 1 := by
      rw [pte, if_neg (by omega), if_neg (by simp; omega), if_neg]
      simp only [List.all_append, Bool.and_eq_true]
      exact fun h2 => h h2.1
    exact ⟨e, by rw [pt, if_neg (by omega)]⟩

set_option maxHeartbeats 1000000 in
theorem fieldOver_true (s : ByteArray) (A : Option Addr) (c : Nat) (l : List Pt) (t : ByteArray) (hs : s.size ≤ 9223372036854775807) (hz : l.length * 24 ≤ 140737488351232) (hp : ∀ p ∈ l, p.2.size ≤ 9223372036854775807) (ht : t.size ≤ 9223372036854775807) (w : World)
    (hl : Rds w A l.length c 2 (l.flatMap pcells)) : Calls Try.prog 7 #[.string s, .slice A l.length c, .string t] w fun e w' => e = .returned (.bool true) ∧ Below w.heap.size w w' := by
  have hB := Below.refl w.heap.size w
  have zs := fit_size s
  have zt := fit_size t
  have F1 := Lib.hid (fit_any s hs)
  have F2 := Lib.hid (fit_any t ht)
  generalize fit s = u at *
  generalize fit t = v at *
  go_enter Try.func7, Try.ntmps7
  go_wp2_with (go_at_call 16; refine (works_any _).mono ?_; rintro e w1 ⟨rfl, hb⟩; have X := adv0 hB hb; clear hB hb; have hB := X; clear X)
  refine (F1.out _).mono ?_
  rintro e w1 ⟨rfl, hb⟩
  have hB := adv0 hB hb
  clear hb
  go_wp2_with fail
  refine (F2.out _).mono ?_
  rintro e w2 ⟨rfl, hb⟩
  have hB := adv0 hB hb
  clear hb
  by_cases h100 : 100 < l.length
  · go_wp2_with fail
    go_ret
    exact ⟨rfl, hB⟩
  · obtain ⟨i0, hi, hz0, hz1, hz2⟩ := info_parts patch_info.1
    have hR := hl.below (Nat.le_refl _) hB
    have hB0 := below_alloc (Below.refl w2.heap.size w2) (.cells #[] 25)
    have hO := own_lit0 w2 25 2
    have hR0 := hR.below (Nat.le_refl _) hB0
    have hq : ∀ p ∈ l ++ [((0 : Int), v)], p.2.size ≤ 9223372036854775807 := by
      intro p hp'
      rcases List.mem_append.1 hp' with h | h
      · exact hp p h
      · simp only [List.mem_singleton] at h
        subst h
        simp only
        omega
    have hP := fun w a h => patched_any u a (l ++ [((0 : Int), v)]) hq (by omega) w h
    have HP := Lib.hid hP
    have hcase := Lib.hid (over_calls u v zs zt l (by omega))
    clear hP hq
    go_wp2_with (first | (at_builtin; refine wpList_pushAll rfl (.tmp 20) (.tmp 21) 32 rfl w2.heap.size 25 i0 _ 2 24 Try.underlying32 hi hz0 hz1 hz2 patch_info.2 (by decide) _ _ _ rfl hO A l.length c _ rfl hR0 (pcells_one l) (by unfold maxLen; omega) (by omega) hB0.size ?_; intro v1 w3 hO1 hb1; have hB1 := hB0.trans hb1; clear hB0 hb1 hR0 hO hR) | (at_builtin; refine wpList_push rfl (.tmp 22) (.tmp 25) 32 rfl w2.heap.size 25 i0 _ 2 24 Try.underlying32 hi hz0 hz1 hz2 patch_info.2 (by decide) _ _ _ rfl hO1 [_, _] _ rfl rfl (by simp [Value.oneCell']) (by unfold maxLen; omega) (by omega) hB1.size ?_; intro v2 w4 hO2 hb2; have hB2 := hB1.trans hb2; clear hB1 hb2 hO1; simp only [Nat.zero_add, List.nil_append] at hO2))
    have hO3 : w4.ownsRow w2.heap.size 25 2 v2 (l ++ [((0 : Int), v)]).length ((l ++ [((0 : Int), v)]).flatMap pcells) := by simpa [pcells, List.flatMap_append] using hO2
    have hS := sl_own hO3
    have hB3 := below_step hB2 hB.size hB
    clear hO2 hO3 hB2
    refine (HP.out _ _ hS).mono ?_
    rintro e w5 ⟨rfl, hb⟩
    have hB4 := below_step hb hB3.size hB3
    clear hb
    generalize pt u (l ++ [((0 : Int), v)]) = x1 at *
    generalize pte u (l ++ [((0 : Int), v)]) = x2 at *
    rcases hcase.out with ⟨_, rfl, rfl⟩ | ⟨rfl, rfl⟩
    · go_wp2_with fail
      go_ret
      exact ⟨ret_bool (by simp), hB4⟩
    · go_wp2_with fail
      go_ret
      exact ⟨rfl, hB4⟩
end Cw
