/- Lists of patches in memory; the walks of field.Patched and of the document's One, Patched. -/
import Derived.Test.YtapmgndnjgoimaaGreatFieldW3
import Derived.Test.YtapmgndnjgoimaaGreatTwo
import Derived.StillTailTactics
import Derived.Test.YtapmgndnjgoimaaGreatFit
namespace Cw
open Go Go.RowKit Go.IntWalk
open Go.Proofs

/-- A patch: its place, its text. -/
abbrev Pt := Int × ByteArray
/-- A slice value that holds these patches. -/
def Sl (w : World) (v : Value) (l : List Pt) : Prop := ∃ (a : Option Addr) (c : Nat), v = .slice a l.length c ∧ l.length ≤ c ∧ c ≤ maxLen ∧
  (∀ b, a = some b → 0 < l.length → b.block < w.heap.size) ∧ (∀ i (h : i < l.length), ∃ b, a = some b ∧ w.cell? (b.add (i * 2)) = some (.int .i64 l[i].1) ∧ w.cell? (b.add (i * 2 + 1)) = some (.string l[i].2))
theorem Sl.step {w w1 : World} {v : Value} {l : List Pt} (h : Sl w v l) (hb : Below w.heap.size w w1) : Sl w1 v l := by
  obtain ⟨a, c, h1, h2, h3, h4, h5⟩ := h
  refine ⟨a, c, h1, h2, h3, fun b hb' h0 => Nat.lt_of_lt_of_le (h4 b hb' h0) hb.size, fun i hi => ?_⟩
  obtain ⟨b, e, h6, h7⟩ := h5 i hi
  have hk := h4 b e (by omega)
  have blk : ∀ n, (b.add n).block = b.block := fun n => by unfold Addr.add; split <;> rfl
  exact ⟨b, e, (hb.cell (p := b.add (i * 2)) (by rw [blk]; exact hk)).trans h6, (hb.cell (p := b.add (i * 2 + 1)) (by rw [blk]; exact hk)).trans h7⟩

def okp (p : Pt) : Bool := finside p.1 p.2.size
/-- Bytes, patched by one, by all. -/
def one (s : List UInt8) (p : Pt) : List UInt8 := over s p.1.toNat p.2.data.toList
def patchAll (s : List UInt8) (l : List Pt) : List UInt8 := l.foldl one s
def pte (s : ByteArray) (l : List Pt) : Int := if s.size ≠ 64 then 4 else if 1024 < l.length then 2 else if l.all okp then 0 else 1
def pt (s : ByteArray) (l : List Pt) : ByteArray := if pte s l = 0 then S (patchAll s.data.toList l) else ⟨#[]⟩

theorem okp_iff {p : Pt} (h : okp p = true) : 0 ≤ p.1 ∧ 0 < p.2.size ∧ p.2.size ≤ 64 ∧ p.1 ≤ 64 - p.2.size := by
  have := h
  simp [okp, finside] at this
  omega
theorem one_length (s : List UInt8) (p : Pt) (hs : s.length = 64) (h : okp p = true) : (one s p).length = 64 := by
  have := okp_iff h
  rw [one, over_length, hs]
  have e : p.2.data.toList.length = p.2.size := rfl
  omega
theorem patchAll_length (l : List Pt) : ∀ (s : List UInt8), s.length = 64 → l.all okp = true → (patchAll s l).length = 64 := by
  induction l with
  | nil => intro s hs _; exact hs
  | cons p l ih =>
    intro s hs h
    simp only [List.all_cons, Bool.and_eq_true] at h
    exact ih (one s p) (one_length s p hs h.1) h.2
theorem patchAll_take (s : List UInt8) (l : List Pt) (k : Nat) (hk : k < l.length) : patchAll s (l.take (k + 1)) = one (patchAll s (l.take k)) l[k] := by
  rw [← List.take_append_getElem hk, patchAll, List.foldl_append]
  rfl
theorem all_take (l : List Pt) (k : Nat) (hk : k < l.length) (h : (l.take k).all okp = true) (h1 : okp l[k] = true) : (l.take (k + 1)).all okp = true := by
  rw [← List.take_append_getElem hk, List.all_append, h]
  simpa using h1
theorem not_all (l : List Pt) (k : Nat) (hk : k < l.length) (h1 : okp l[k] = false) : l.all okp = false := by
  rw [List.all_eq_false]
  exact ⟨l[k], List.getElem_mem hk, by simp [h1]⟩

theorem Row.lt {w : World} {g : Nat} {l : List UInt8} (h : Row w g l) : g < w.heap.size := by
  obtain ⟨cur, t, fz, rest, hg, _⟩ := h
  rcases Nat.lt_or_ge g w.heap.size with h | h
  · exact h
  · rw [Array.getElem?_eq_none h] at hg; cases hg
theorem add_succ (b : Addr) (n : Nat) : b.add (n + 1) = ⟨(b.add n).block, (b.add n).off + 1, none⟩ := by
  obtain ⟨b, o, sp⟩ := b
  unfold Addr.add
  rw [if_neg (by omega)]
  split <;> simp_all [Nat.add_assoc]
theorem add_block (b : Addr) (n : Nat) : (b.add n).block = b.block := by unfold Addr.add; split <;> rfl

set_option maxRecDepth 100000 in
set_option maxHeartbeats 1000000 in
theorem patched_any (s : ByteArray) (v : Value) (l : List Pt) (hp : ∀ p ∈ l, p.2.size ≤ 9223372036854775807) (hs : s.size ≤ 9223372036854775807) (w : World) (hl : Sl w v l) : Calls Tryz.prog 76 #[.string s, v] w fun e w' => e = .returned (.tuple #[.string (pt s l), .int .i64 (pte s l)]) ∧ Below w.heap.size w w' := by
  obtain ⟨a, c, rfl, hlc, hcm, hab, hcell⟩ := hl
  by_cases hz : s.size = 64
  · by_cases hn : 1024 < l.length
    · have e1 : pte s l = 2 := by rw [pte, if_neg (by omega), if_pos hn]
      have e2 : pt s l = ⟨#[]⟩ := by rw [pt, if_neg (by omega)]
      have hE := Lib.hid (And.intro e1 e2)
      have hb : ((s.size : Int) != 64) = false := by rw [hz]; rfl
      clear e1 e2 hz
      go_enter Tryz.func76, Tryz.ntmps76
      go_wp2_with fail
      go_ret2
      rw [hE.out.1, hE.out.2]
      exact ⟨rfl, Below.refl _ _⟩
    · have hb : ((s.size : Int) != 64) = false := by rw [hz]; rfl
      have hcb := Lib.run_convert_string_bytes (P := Tryz.prog) w 9 37 5 s Tryz.underlying9 Tryz.underlying37 Tryz.underlying5
      have hR0 := row_bytes w s 5
      have hB0 := below_bytes w s 5
      have hc0 := grownCap_ge w s.size 0 5
      have hl0 : s.data.toList.length = 64 := hz
      have hE : (True ∧ pte s l = if l.all okp then 0 else 1) := ⟨trivial, by rw [pte, if_neg (by omega), if_neg hn]⟩
      have hE := Lib.hid hE
      rw [hz] at hcb hc0
      generalize grownCap w 64 0 5 = c0 at *
      generalize Lib.bytesWorld w 5 s = w0 at *
      go_enter Tryz.func76, Tryz.ntmps76
      go_wp2_with fail
      go_loopw [22] (fun i wr => ∃ k : Nat, k ≤ l.length ∧ i = .int .i64 k ∧ (l.take k).all okp = true ∧ Below w.heap.size w wr ∧ Row wr w.heap.size (patchAll s.data.toList (l.take k))) (fun i _ => l.length - (RowKit.intOf i).toNat)
      case atStart => exact ⟨0, by omega, rfl, by simp, hB0, by simpa [patchAll] using hR0⟩
      case round =>
        obtain ⟨k, hk, rfl, hall, hB, hR⟩ := hrel
        by_cases hlt : k < l.length
        · obtain ⟨b, rfl, d0, d1⟩ := hcell k hlt
          have hbk := hab b rfl (by omega)
          have d0 := (hB.cell (p := b.add (k * 2)) (by rw [add_block]; exact hbk)).trans d0
          have d1 := (hB.cell (p := b.add (k * 2 + 1)) (by rw [add_block]; exact hbk)).trans d1
          rw [add_succ] at d1
          have hp1 := hp l[k] (List.getElem_mem hlt)
          have hRa := fun o => hR.kept ((Below.refl wr.heap.size wr).alloc (Nat.le_refl _) o) hR.lt
          by_cases hok : okp l[k] = true
          · have hok' := okp_iff hok
            have hx : fcheck l[k].1 l[k].2.size = 0 := by rw [fcheck]; exact if_pos hok
            generalize hpk : l[k] = q at *
            obtain ⟨o, t⟩ := q
            simp only at *
            go_wp2_with (go_at_call 42; refine (fcheck_any _ _ hp1 _).mono ?_; rintro e w1 ⟨rfl, hb⟩; have hT := two_step (two_new wr _ _ _) hb; have t0 := hT.1; have t1 := hT.2.1; have hB1 := below_step hb (by have := hB.size; simp; omega) (below_alloc hB _); have hR1 := (hRa _).kept hb (hRa _).lt)
            clear hb hT d0 d1 hRa hcell hB0 hR0 hcb
            obtain ⟨o, rfl⟩ := Int.eq_ofNat_of_zero_le hok'.1
            have o1 : o < 64 := by omega
            have o2 : o < c0 := by omega
            have o3 : o + t.size ≤ 64 := by omega
            have o4 : (o : Int) ≤ 64 := by omega
            go_still_tail 6, (by kernel_rfl)
            rw [if_neg (by omega)]
            have hR2 : Row w1.drew w.heap.size (patchAll s.data.toList (l.take k)) := hR1
            have hB2 : Below w.heap.size w w1.drew := hB1.drew
            change wpList _ _ _ _ _ w1.drew
            generalize w1.drew = w2 at *
            have hln := patchAll_length (l.take k) s.data.toList hl0 hall
            refine wpList_copy_str rfl (.tmp 34) (.tmp 36) 37 9 rfl 5 Tryz.underlying37 u8_size w.heap.size o (64 - o) (c0 - o) t rfl rfl _ hR2 (by rw [hln]; omega) w.heap.size w hB2 (Nat.le_refl _) ?_
            intro w3 hR3 hB3
            clear t0 t1 hR2 hB2 hR1 hB1
            go_wp2_with fail
            go_roundw
            case rel =>
              refine ⟨k + 1, by omega, by go_num, all_take l k hlt hall (by rw [hpk]; exact hok), hB3, ?_⟩
              rw [patchAll_take _ _ _ hlt, hpk]
              rw [List.take_of_length_le (show t.data.toList.length ≤ 64 - o by show t.size ≤ _; omega)] at hR3
              exact hR3
            case measure => simp [RowKit.intOf]; omega
          · have hok0 : okp l[k] = false := by simpa using hok
            have hx : fcheck l[k].1 l[k].2.size = 1 := by rw [fcheck]; exact if_neg hok
            have e1 : pte s l = 1 := by rw [hE.out.2, not_all l k hlt hok0]; rfl
            have e2 : pt s l = ⟨#[]⟩ := by rw [pt, if_neg (by omega)]
            have hF := Lib.hid (And.intro e1 e2)
            clear e1 e2
            generalize hpk : l[k] = q at *
            obtain ⟨o, t⟩ := q
            simp only at *
            go_wp2_with (go_at_call 42; refine (fcheck_any _ _ hp1 _).mono ?_; rintro e w1 ⟨rfl, hb⟩; have hB1 := below_step hb (by have := hB.size; simp; omega) (below_alloc hB _))
            go_ret2
            rw [hF.out.1, hF.out.2]
            exact ⟨rfl, hB1⟩
        · obtain rfl : k = l.length := by omega
          rw [List.take_length] at hall hR
          have e1 : pte s l = 0 := by rw [hE.out.2, hall]; rfl
          have e2 : pt s l = S (patchAll s.data.toList l) := by rw [pt, if_pos e1]
          have hF := Lib.hid (And.intro e1 e2)
          clear e1 e2
          have hcv := hR.text (P := Tryz.prog) 37 9 5 Tryz.underlying37 Tryz.underlying5 Tryz.underlying9 64 c0 (patchAll_length l s.data.toList hl0 hall).symm
          go_wp2_with fail
          go_ret2
          rw [hF.out.1, hF.out.2]
          exact ⟨rfl, hB⟩
  · have e1 : pte s l = 4 := by rw [pte, if_pos hz]
    have e2 : pt s l = ⟨#[]⟩ := by rw [pt, if_neg (by omega)]
    have hE := Lib.hid (And.intro e1 e2)
    have hb : ((s.size : Int) != 64) = true := by simp; omega
    clear e1 e2 hz
    go_enter Tryz.func76, Tryz.ntmps76
    go_wp2_with fail
    go_ret2
    rw [hE.out.1, hE.out.2]
    exact ⟨rfl, Below.refl _ _⟩
end Cw
/- The walks of the document's One, Patched. -/
namespace Cw
open Go Go.RowKit Go.IntWalk
open Go.Proofs

theorem one_eq (s : ByteArray) (o : Nat) (t : ByteArray) (hs : s.size = 64) (h : o + t.size ≤ 64) : s.extract 0 o ++ t ++ s.extract (o + t.size) 64 = S (one s.data.toList (o, t)) := by
  apply ByteArray.ext
  apply Array.toList_inj.1
  have e : t.data.toList.length = t.size := rfl
  have e2 : s.data.toList.length = 64 := hs
  simp only [ByteArray.data_append, ByteArray.data_extract, Array.toList_append, Array.toList_extract, one, over, S, Int.toNat_natCast, List.toList_toArray, e]
  rw [List.append_assoc]
  congr 2
  rw [List.extract_eq_take_drop, List.take_of_length_le (by rw [List.length_drop, e2]; exact Nat.le_refl _)]

theorem S_self (s : ByteArray) : S s.data.toList = s := by simp [S]

end Cw
