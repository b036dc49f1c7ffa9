/- The walks of Between. -/
import Derived.Test.YtcfdgmkckibieaaPatchW
namespace Cw
open Go Go.RowKit Go.IntWalk
open Go.Proofs

/-- Do two texts differ at a place? -/
def dif (x y : ByteArray) (i : Nat) : Bool := if h : i < x.size ∧ i < y.size then x[i]'h.1 != y[i]'h.2 else false
/-- What is found up to a place: the patches that are through, and where one is open. -/
def st (x y : ByteArray) : Nat → List Pt × Option Nat
  | 0 => ([], none)
  | i + 1 => match (st x y i).2, dif x y i with
    | some f, true => ((st x y i).1, some f)
    | some f, false => ((st x y i).1 ++ [((f : Int), y.extract f i)], none)
    | none, true => ((st x y i).1, some i)
    | none, false => ((st x y i).1, none)
def btw (x y : ByteArray) : List Pt := if x.size = 64 ∧ y.size = 64 then (st x y 65).1 else []
def btwe (x y : ByteArray) : Int := if x.size = 64 ∧ y.size = 64 then 0 else 4

/-- The place that is open, as the program keeps it. -/
def frI : Option Nat → Int | none => -1 | some f => (f : Int)

theorem st_len (x y : ByteArray) : ∀ i, (st x y i).1.length ≤ i
  | 0 => by simp [st]
  | i + 1 => by
    have := st_len x y i
    rw [st]
    split <;> simp <;> omega
theorem st_from (x y : ByteArray) : ∀ i f, (st x y i).2 = some f → f < i
  | 0, f, h => by simp [st] at h
  | i + 1, f, h => by
    have ih := st_from x y i
    rw [st] at h
    split at h
    · rename_i g hg _
      simp at h
      have := ih g hg
      omega
    · simp at h
    · simp at h
      omega
    · simp at h

theorem dif_num (x y : ByteArray) (k : Nat) (h1 : k < x.size) (h2 : k < y.size) : (((x[k]'h1).toNat : Int) != ((y[k]'h2).toNat : Int)) = dif x y k := by
  rw [dif, dif_pos ⟨h1, h2⟩]
  by_cases h : x[k]'h1 = y[k]'h2
  · simp [h]
  · have : (x[k]'h1).toNat ≠ (y[k]'h2).toNat := fun e => h (UInt8.toNat_inj.1 e)
    have e2 : (((x[k]'h1).toNat : Int) != ((y[k]'h2).toNat : Int)) = true := by simp; omega
    rw [e2]
    simpa using h
theorem dif_out (x y : ByteArray) (k : Nat) (h : x.size ≤ k) : dif x y k = false := by rw [dif, dif_neg (by omega)]

def pcells (p : Pt) : List Value := [.int .i64 p.1, .string p.2]
theorem patch_info : (Try.prog.info? 25).map (fun i => (i.zero, i.size, i.bytes)) = some (some (.agg #[.int .i64 0, .string ⟨#[]⟩]), 2, 24) ∧ (Value.agg #[.int .i64 0, .string ⟨#[]⟩]).cells.size = 2 :=
  ⟨by kernel_rfl, rfl⟩

theorem pcells_len (l : List Pt) : (l.flatMap pcells).length = l.length * 2 := by
  induction l with
  | nil => rfl
  | cons p l ih => simp [List.flatMap_cons, pcells, ih]; omega
theorem pcells_get (l : List Pt) : ∀ i (h : i < l.length), (l.flatMap pcells)[i * 2]? = some (.int .i64 l[i].1) ∧ (l.flatMap pcells)[i * 2 + 1]? = some (.string l[i].2) := by
  induction l with
  | nil => intro i h; simp at h
  | cons p l ih =>
    intro i h
    cases i with
    | zero => simp [List.flatMap_cons, pcells]
    | succ i =>
      have := ih i (by simpa using h)
      have e : (i + 1) * 2 = i * 2 + 2 := by omega
      simpa [List.flatMap_cons, pcells, e, Nat.add_assoc] using this

/-- What a call owns is a slice of these patches. -/
theorem sl_own {w : World} {base : Nat} {e : TypeId} {v : Value} {l : List Pt} (h : w.ownsRow base e 2 v l.length (l.flatMap pcells)) : Sl w v l := by
  rcases h.2 with ⟨rfl, h0⟩ | ⟨g, cap, cur, rfl, hb, hg, hnc, hcm, hrest⟩
  · have : l = [] := List.eq_nil_of_length_eq_zero h0
    subst this
    exact ⟨none, 0, rfl, Nat.le_refl _, by decide, by simp, by simp⟩
  · refine ⟨_, cap, rfl, hnc, hcm, ?_, ?_⟩
    · rintro b ⟨⟩ _
      rcases Nat.lt_or_ge g w.heap.size with h' | h'
      · exact h'
      · rw [Array.getElem?_eq_none h'] at hg; cases hg
    · intro i hi
      have hc := h.cells (g := g) rfl
      obtain ⟨g1, g2⟩ := pcells_get l i hi
      exact ⟨_, rfl, hc _ _ g1, hc _ _ g2⟩

set_option maxHeartbeats 1000000 in
theorem between_any (x y : ByteArray) (hx : x.size ≤ 9223372036854775807) (hy : y.size ≤ 9223372036854775807) (w : World) : Calls Try.prog 17 #[.string x, .string y] w fun e w' => ∃ v, e = .returned (.tuple #[v, .int .i64 (btwe x y)]) ∧ Below w.heap.size w w' ∧ Sl w' v (btw x y) := by
  by_cases hz : x.size = 64 ∧ y.size = 64
  · obtain ⟨zx, zy⟩ := hz
    have e1 : btwe x y = 0 := by rw [btwe, if_pos ⟨zx, zy⟩]
    have e2 : btw x y = (st x y 65).1 := by rw [btw, if_pos ⟨zx, zy⟩]
    have hE := Lib.hid (And.intro e1 e2)
    have bx : ((x.size : Int) != 64) = false := by rw [zx]; rfl
    have by' : ((y.size : Int) != 64) = false := by rw [zy]; rfl
    clear e1 e2
    go_enter Try.func17, Try.ntmps17
    go_wp2_with fail
    go_loopw [6, 7, 8] (fun v f i wr => ∃ k : Nat, k ≤ 65 ∧ i = .int .i64 k ∧ f = .int .i64 (frI (st x y k).2) ∧ Below w.heap.size w wr ∧ wr.ownsRow w.heap.size 25 2 v (st x y k).1.length ((st x y k).1.flatMap pcells)) (fun _ _ i _ => 65 - (intOf i).toNat)
    case atStart => exact ⟨0, by omega, rfl, rfl, Below.refl _ _, World.ownsRow_nil _ _ _ _⟩
    case round =>
      obtain ⟨k, hk, rfl, rfl, hB, hO⟩ := hrel
      by_cases hk65 : k = 65
      · subst hk65
        go_wp2_with fail
        go_ret2
        have hS := sl_own hO
        rw [← hE.out.2] at hS
        exact ⟨_, by rw [hE.out.1]; rfl, hB, hS⟩
      · have hlen := st_len x y k
        have hfrom := st_from x y k
        have hst : st x y (k + 1) = match (st x y k).2, dif x y k with
          | some f, true => ((st x y k).1, some f)
          | some f, false => ((st x y k).1 ++ [((f : Int), y.extract f k)], none)
          | none, true => ((st x y k).1, some k)
          | none, false => ((st x y k).1, none) := rfl
        have hd : ∀ (h1 : k < x.size) (h2 : k < y.size), (((x[k]'h1).toNat : Int) != ((y[k]'h2).toNat : Int)) = dif x y k := fun h1 h2 => (dif_num x y k h1 h2)
        have hd64 : k = 64 → dif x y k = false := fun h => dif_out x y k (by omega)
        generalize hs0 : st x y k = s0 at *
        clear hs0
        obtain ⟨out, fr⟩ := s0
        generalize dif x y k = d at *
        simp only at hst hlen hfrom hO
        obtain ⟨i0, hi, hz0, hz1, hz2⟩ := info_parts patch_info.1
        have hk64 : (k : Int) ≤ 64 := by omega
        rcases fr with _ | f
        · rw [show frI none = -1 from rfl]
          cases d
          · by_cases h64 : k = 64
            · subst h64
              go_wp2_with fail
              go_quiet (fail)
              have hB1 := below_drewN hB nq
              have hO1 : (wr.drewN nq).ownsRow w.heap.size 25 2 _ _ _ := hO
              generalize wr.drewN nq = w1 at *
              clear hB hO
              go_wp2_with (at_builtin; refine wpList_push rfl (.tmp 47) (.tmp 54) 32 rfl w.heap.size 25 i0 _ 2 24 Try.underlying32 hi hz0 hz1 hz2 patch_info.2 (by decide) _ _ _ rfl hO1 [_, _] _ rfl rfl (by simp [Value.oneCell']) (by unfold maxLen; omega) (by omega) hB1.size ?_; intro v2 w2 hO2 hb2)
              go_roundw
              case rel => exact ⟨65, by omega, by go_num, by rw [hst]; rfl, hB1, by rw [hst]; exact hO1⟩
              case measure => simp [intOf]
            · have hb := hd (by omega) (by omega)
              have hk' : (k : Int) < 64 := by omega
              go_wp2_with fail
              go_quiet (fail)
              have hB1 := below_drewN hB nq
              have hO1 : (wr.drewN nq).ownsRow w.heap.size 25 2 _ _ _ := hO
              generalize wr.drewN nq = w1 at *
              clear hB hO
              go_wp2_with (at_builtin; refine wpList_push rfl (.tmp 47) (.tmp 54) 32 rfl w.heap.size 25 i0 _ 2 24 Try.underlying32 hi hz0 hz1 hz2 patch_info.2 (by decide) _ _ _ rfl hO1 [_, _] _ rfl rfl (by simp [Value.oneCell']) (by unfold maxLen; omega) (by omega) hB1.size ?_; intro v2 w2 hO2 hb2)
              go_roundw
              case rel => exact ⟨k + 1, by omega, by go_num, by rw [hst]; rfl, hB1, by rw [hst]; exact hO1⟩
              case measure => simp [intOf]; omega
          · have h64 : k ≠ 64 := fun h => by simpa using hd64 h
            have hb := hd (by omega) (by omega)
            have hk' : (k : Int) < 64 := by omega
            go_wp2_with fail
            go_quiet (fail)
            have hB1 := below_drewN hB nq
            have hO1 : (wr.drewN nq).ownsRow w.heap.size 25 2 _ _ _ := hO
            generalize wr.drewN nq = w1 at *
            clear hB hO
            go_wp2_with (at_builtin; refine wpList_push rfl (.tmp 47) (.tmp 54) 32 rfl w.heap.size 25 i0 _ 2 24 Try.underlying32 hi hz0 hz1 hz2 patch_info.2 (by decide) _ _ _ rfl hO1 [_, _] _ rfl rfl (by simp [Value.oneCell']) (by unfold maxLen; omega) (by omega) hB1.size ?_; intro v2 w2 hO2 hb2)
            go_roundw
            case rel => exact ⟨k + 1, by omega, by go_num, by rw [hst]; rfl, hB1, by rw [hst]; exact hO1⟩
            case measure => simp [intOf]; omega
        · rw [show frI (some f) = (f : Int) from rfl]
          have hfk := hfrom f rfl
          have hfk' : (f : Int) ≤ k := by omega
          have hf0 : ¬ (f : Int) < 0 := by omega
          cases d
          · by_cases h64 : k = 64
            · subst h64
              go_wp2_with fail
              go_quiet (fail)
              have hB1 := below_drewN hB nq
              have hO1 : (wr.drewN nq).ownsRow w.heap.size 25 2 _ _ _ := hO
              generalize wr.drewN nq = w1 at *
              clear hB hO
              go_wp2_with (at_builtin; refine wpList_push rfl (.tmp 47) (.tmp 54) 32 rfl w.heap.size 25 i0 _ 2 24 Try.underlying32 hi hz0 hz1 hz2 patch_info.2 (by decide) _ _ _ rfl hO1 [_, _] _ rfl rfl (by simp [Value.oneCell']) (by unfold maxLen; omega) (by omega) hB1.size ?_; intro v2 w2 hO2 hb2)
              go_roundw
              case rel => exact ⟨65, by omega, by go_num, by rw [hst]; rfl, hB1.trans hb2, by rw [hst]; simpa [pcells, List.flatMap_append] using hO2⟩
              case measure => simp [intOf]
            · have hb := hd (by omega) (by omega)
              have hk' : (k : Int) < 64 := by omega
              go_wp2_with fail
              go_quiet (fail)
              have hB1 := below_drewN hB nq
              have hO1 : (wr.drewN nq).ownsRow w.heap.size 25 2 _ _ _ := hO
              generalize wr.drewN nq = w1 at *
              clear hB hO
              go_wp2_with (at_builtin; refine wpList_push rfl (.tmp 47) (.tmp 54) 32 rfl w.heap.size 25 i0 _ 2 24 Try.underlying32 hi hz0 hz1 hz2 patch_info.2 (by decide) _ _ _ rfl hO1 [_, _] _ rfl rfl (by simp [Value.oneCell']) (by unfold maxLen; omega) (by omega) hB1.size ?_; intro v2 w2 hO2 hb2)
              go_roundw
              case rel => exact ⟨k + 1, by omega, by go_num, by rw [hst]; rfl, hB1.trans hb2, by rw [hst]; simpa [pcells, List.flatMap_append] using hO2⟩
              case measure => simp [intOf]; omega
          · have h64 : k ≠ 64 := fun h => by simpa using hd64 h
            have hb := hd (by omega) (by omega)
            have hk' : (k : Int) < 64 := by omega
            go_wp2_with fail
            go_quiet (fail)
            have hB1 := below_drewN hB nq
            have hO1 : (wr.drewN nq).ownsRow w.heap.size 25 2 _ _ _ := hO
            generalize wr.drewN nq = w1 at *
            clear hB hO
            go_wp2_with (at_builtin; refine wpList_push rfl (.tmp 47) (.tmp 54) 32 rfl w.heap.size 25 i0 _ 2 24 Try.underlying32 hi hz0 hz1 hz2 patch_info.2 (by decide) _ _ _ rfl hO1 [_, _] _ rfl rfl (by simp [Value.oneCell']) (by unfold maxLen; omega) (by omega) hB1.size ?_; intro v2 w2 hO2 hb2)
            go_roundw
            case rel => exact ⟨k + 1, by omega, by go_num, by rw [hst]; rfl, hB1, by rw [hst]; exact hO1⟩
            case measure => simp [intOf]; omega
  · have e1 : btwe x y = 4 := by rw [btwe, if_neg hz]
    have e2 : btw x y = [] := by rw [btw, if_neg hz]
    have hE := Lib.hid (And.intro e1 e2)
    have hN : Sl w (.slice none 0 0) [] := ⟨none, 0, rfl, Nat.le_refl _, by decide, by simp, by simp⟩
    rw [← e2] at hN
    clear e1 e2
    by_cases zx : x.size = 64
    · have bx : ((x.size : Int) != 64) = false := by rw [zx]; rfl
      have by' : ((y.size : Int) != 64) = true := by
        have : y.size ≠ 64 := fun h => hz ⟨zx, h⟩
        simp; omega
      clear hz
      go_enter Try.func17, Try.ntmps17
      go_wp2_with fail
      go_ret2
      exact ⟨_, by rw [hE.out.1]; rfl, Below.refl _ _, hN⟩
    · have bx : ((x.size : Int) != 64) = true := by simp; omega
      clear hz
      go_enter Try.func17, Try.ntmps17
      go_wp2_with fail
      go_ret2
      exact ⟨_, by rw [hE.out.1]; rfl, Below.refl _ _, hN⟩
end Cw
