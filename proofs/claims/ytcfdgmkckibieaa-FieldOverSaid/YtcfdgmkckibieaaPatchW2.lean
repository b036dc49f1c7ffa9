/- The walks of the document's One, Patched. -/
import Derived.Test.YtcfdgmkckibieaaPatchW
namespace Cw
open Go Go.RowKit Go.IntWalk
open Go.Proofs

theorem one_eq (s : ByteArray) (o : Nat) (t : ByteArray) (hs : s.size = 64) (h : o + t.size ≤ 64) : s.extract 0 o ++ t ++ s.extract (o + t.size) 64 = S (one s.data.toList (o, t)) := by
  apply ByteArray.ext
  apply Array.toList_inj.1
  have e : t.data.toList.length = t.size := rfl
  have e2 : s.data.toList.length = 64 := hs
  simp only [ByteArray.data_append, ByteArray.data_extract, Array.toList_append, Array.toList_extract, one, over, S, Int.toNat_natCast, List.toList_toArray, e]
  rw [List.append_assoc]
  congr 2
  rw [List.extract_eq_take_drop, List.take_of_length_le (by rw [List.length_drop, e2]; exact Nat.le_refl _)]

set_option maxHeartbeats 1000000 in
theorem one_any (s : ByteArray) (o : Nat) (t : ByteArray) (hs : s.size = 64) (h1 : 0 < t.size) (h2 : t.size ≤ 64) (h3 : o ≤ 64 - t.size) (w : World) : Calls Try.prog 40 #[.string s, .agg #[.int .i64 o, .string t]] w fun e w' => e = .returned (.string (S (one s.data.toList (o, t)))) ∧ Below w.heap.size w w' := by
  have hB0 := below_alloc (Below.refl w.heap.size w) (.cells #[.int .i64 o, .string t] 25)
  have hT := two_new w (.int .i64 o) (.string t) 25
  have o3 : o + t.size ≤ 64 := by omega
  have o4 : (o : Int) ≤ 64 := by omega
  have q1 : IntKind.i64.wrap ((o : Int) + t.size) = ((o + t.size : Nat) : Int) := by rw [IntWalk.i64_in _ (by omega)]; omega
  go_enter Try.func40, Try.ntmps40
  go_wp2_with fail
  have t0 := hT.1
  have t1 := hT.2.1
  generalize World.alloc w _ = w0 at *
  clear hT
  go_quiet (fail)
  go_wp2_with fail
  go_ret
  refine ⟨?_, below_drewN hB0 _⟩
  rw [one_eq s o t hs o3]
  rfl

theorem S_self (s : ByteArray) : S s.data.toList = s := by simp [S]

set_option maxHeartbeats 1000000 in
theorem rpatched_any (s : ByteArray) (v : Value) (l : List Pt) (hs : s.size ≤ 9223372036854775807) (w : World) (hl : Sl w v l) : Calls Try.prog 29 #[.string s, v] w fun e w' => e = .returned (.tuple #[.string (pt s l), .int .i64 (pte s l)]) ∧ Below w.heap.size w w' := by
  obtain ⟨a, c, rfl, hlc, hcm, hab, hcell⟩ := hl
  by_cases hz : s.size = 64
  · by_cases hn : 1024 < l.length
    · have e1 : pte s l = 2 := by rw [pte, if_neg (by omega), if_pos hn]
      have e2 : pt s l = ⟨#[]⟩ := by rw [pt, if_neg (by omega)]
      have hE := Lib.hid (And.intro e1 e2)
      have hb : ((s.size : Int) != 64) = false := by rw [hz]; rfl
      clear e1 e2 hz
      go_enter Try.func29, Try.ntmps29
      go_wp2_with fail
      go_ret2
      rw [hE.out.1, hE.out.2]
      exact ⟨rfl, Below.refl _ _⟩
    · have hb : ((s.size : Int) != 64) = false := by rw [hz]; rfl
      have hl0 : s.data.toList.length = 64 := hz
      have hE : (True ∧ pte s l = if l.all okp then 0 else 1) := ⟨trivial, by rw [pte, if_neg (by omega), if_neg hn]⟩
      have hE := Lib.hid hE
      go_enter Try.func29, Try.ntmps29
      go_wp2_with fail
      go_loopw [6] (fun i wr => ∃ k : Nat, k ≤ l.length ∧ i = .int .i64 k ∧ (l.take k).all okp = true ∧ Below w.heap.size w wr) (fun i _ => l.length - (intOf i).toNat)
      case atStart => exact ⟨0, by omega, rfl, by simp, Below.refl _ _⟩
      case round =>
        obtain ⟨k, hk, rfl, hall, hB⟩ := hrel
        by_cases hlt : k < l.length
        · obtain ⟨b, rfl, d0, d1⟩ := hcell k hlt
          have hbk := hab b rfl (by omega)
          have d0 := (hB.cell (p := b.add (k * 2)) (by rw [add_block]; exact hbk)).trans d0
          have d1 := (hB.cell (p := b.add (k * 2 + 1)) (by rw [add_block]; exact hbk)).trans d1
          rw [add_succ] at d1
          by_cases hok : okp l[k] = true
          · have hx : fcheck l[k].1 l[k].2.size = 0 := by rw [fcheck]; exact if_pos hok
            generalize hpk : l[k] = q at *
            obtain ⟨o, t⟩ := q
            simp only at *
            go_wp2_with (go_at_call 15; refine (rfcheck_any _ _ _).mono ?_; rintro e w1 ⟨rfl, hb⟩; have hB1 := below_step hb hB.size hB)
            clear hb d0 d1
            go_roundw
            case rel => exact ⟨k + 1, by omega, by go_num, all_take l k hlt hall (by rw [hpk]; exact hok), hB1⟩
            case measure => simp [intOf]; omega
          · have hok0 : okp l[k] = false := by simpa using hok
            have hx : fcheck l[k].1 l[k].2.size = 1 := by rw [fcheck]; exact if_neg hok
            have e1 : pte s l = 1 := by rw [hE.out.2, not_all l k hlt hok0]; rfl
            have e2 : pt s l = ⟨#[]⟩ := by rw [pt, if_neg (by omega)]
            have hF := Lib.hid (And.intro e1 e2)
            clear e1 e2
            generalize hpk : l[k] = q at *
            obtain ⟨o, t⟩ := q
            simp only at *
            go_wp2_with (go_at_call 15; refine (rfcheck_any _ _ _).mono ?_; rintro e w1 ⟨rfl, hb⟩; have hB1 := below_step hb hB.size hB)
            go_ret2
            rw [hF.out.1, hF.out.2]
            exact ⟨rfl, hB1⟩
        · obtain rfl : k = l.length := by omega
          rw [List.take_length] at hall
          have hB1 := hB
          clear hB
          have e1 : pte s l = 0 := by rw [hE.out.2, hall]; rfl
          have e2 : pt s l = S (patchAll s.data.toList l) := by rw [pt, if_pos e1]
          have hF := Lib.hid (And.intro e1 e2)
          clear e1 e2
          go_wp2_with fail
          go_loopw [0, 7] (fun t i wr => ∃ k : Nat, k ≤ l.length ∧ i = .int .i64 k ∧ t = .string (S (patchAll s.data.toList (l.take k))) ∧ Below w.heap.size w wr) (fun _ i _ => l.length - (intOf i).toNat)
          case atStart => exact ⟨0, by omega, rfl, by simp [patchAll, S_self], hB1⟩
          case round =>
            obtain ⟨k, hk, rfl, rfl, hB⟩ := hrel
            by_cases hlt : k < l.length
            · obtain ⟨b, rfl, d0, d1⟩ := hcell k hlt
              have hbk := hab b rfl (by omega)
              have d0 := (hB.cell (p := b.add (k * 2)) (by rw [add_block]; exact hbk)).trans d0
              have d1 := (hB.cell (p := b.add (k * 2 + 1)) (by rw [add_block]; exact hbk)).trans d1
              rw [add_succ] at d1
              have hok : okp l[k] = true := List.all_eq_true.1 hall _ (List.getElem_mem hlt)
              have hok' := okp_iff hok
              have hln := patchAll_length (l.take k) s.data.toList hl0 (by rw [List.all_eq_true] at hall ⊢; exact fun p hp => hall p (List.mem_of_mem_take hp))
              have hst := patchAll_take s.data.toList l k hlt
              generalize hpk : l[k] = q at *
              obtain ⟨o, t⟩ := q
              simp only at *
              obtain ⟨o, rfl⟩ := Int.eq_ofNat_of_zero_le hok'.1
              have hone := one_any (S (patchAll s.data.toList (l.take k))) o t (by rw [S_size, hln]) hok'.2.1 hok'.2.2.1 (by omega)
              rw [show (S (patchAll s.data.toList (l.take k))).data.toList = patchAll s.data.toList (l.take k) by simp [S], ← hst] at hone
              have H1 := Lib.hid hone
              clear hone hst hok'
              generalize S (patchAll s.data.toList (l.take k)) = cur at *
              go_wp2_with (go_at_call 40; refine (H1.out _).mono ?_; rintro e w1 ⟨rfl, hb⟩; have hB1 := below_step hb hB.size hB)
              go_roundw
              case rel => exact ⟨k + 1, by omega, by go_num, rfl, hB1⟩
              case measure => simp [intOf]; omega
            · obtain rfl : k = l.length := by omega
              rw [List.take_length]
              go_wp2_with fail
              go_ret2
              rw [hF.out.1, hF.out.2]
              exact ⟨rfl, hB⟩
  · have e1 : pte s l = 4 := by rw [pte, if_pos hz]
    have e2 : pt s l = ⟨#[]⟩ := by rw [pt, if_neg (by omega)]
    have hE := Lib.hid (And.intro e1 e2)
    have hb : ((s.size : Int) != 64) = true := by simp; omega
    clear e1 e2 hz
    go_enter Try.func29, Try.ntmps29
    go_wp2_with fail
    go_ret2
    rw [hE.out.1, hE.out.2]
    exact ⟨rfl, Below.refl _ _⟩
end Cw
