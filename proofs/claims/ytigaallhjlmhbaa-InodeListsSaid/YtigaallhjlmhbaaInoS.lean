/- The law InodeLists, by reckoning. -/
import Derived.Test.YtigaallhjlmhbaaInoR
import Derived.Test.YtigaallhjlmhbaaInoQ
import Derived.Test.YtigaallhjlmhbaaOpen
namespace Cw
open Go Vc
open Go.Proofs
set_option maxRecDepth 100000
/-- The bytes of a list of numbers. -/
def lb (W : List Int) : List UInt8 := (W.map fun x => le 2 x.toNat).flatten
structure Wk (W : List Int) : Prop where
  len : W.length = 32
  bd : ∀ x ∈ W, 0 ≤ x ∧ x ≤ 65535
theorem lb_length : ∀ (W : List Int), (lb W).length = 2 * W.length
  | [] => rfl
  | x :: W => by
    have := lb_length W
    simp only [lb, List.map_cons, List.flatten_cons, List.length_append, List.length_cons, le_length] at *
    omega
theorem lb_drop : ∀ (W : List Int) (i : Nat), (lb W).drop (2 * i) = lb (W.drop i)
  | W, 0 => by simp
  | [], i + 1 => by simp [lb]
  | x :: W, i + 1 => by
    rw [List.drop_succ_cons, ← lb_drop W i]
    have : lb (x :: W) = le 2 x.toNat ++ lb W := rfl
    rw [this, show 2 * (i + 1) = 2 + 2 * i by omega, ← List.drop_drop, List.drop_left' (le_length 2 x.toNat)]
theorem lb_take : ∀ (W : List Int) (i : Nat), (lb W).take (2 * i) = lb (W.take i)
  | W, 0 => by simp [lb]
  | [], i + 1 => by simp [lb]
  | x :: W, i + 1 => by
    have : lb (x :: W) = le 2 x.toNat ++ lb W := rfl
    have h2 : lb (x :: W.take i) = le 2 x.toNat ++ lb (W.take i) := rfl
    rw [List.take_succ_cons, h2, ← lb_take W i, this, show 2 * (i + 1) = (le 2 x.toNat).length + 2 * i by rw [le_length]; omega, List.take_length_add_append]
theorem lb_append (a b : List Int) : lb (a ++ b) = lb a ++ lb b := by simp [lb]
theorem lb_set (W : List Int) (hW : Wk W) (j : Nat) (hj : j < 32) (x : Int) : one (lb W) ((2 * j : Nat), S (le 2 x.toNat)) = lb (W.set j x) := by
  have hl := hW.len
  rw [List.set_eq_take_append_cons_drop, if_pos (by omega), lb_append]
  have h2 : lb (x :: W.drop (j + 1)) = le 2 x.toNat ++ lb (W.drop (j + 1)) := rfl
  rw [h2, ← lb_take, ← lb_drop]
  simp only [one, over, S_data, Int.toNat_natCast, le_length]
  rw [show 2 * (j + 1) = 2 * j + 2 by omega]
theorem item_at (W : List Int) (hW : Wk W) (j : Nat) (hj : j < 32) : item (S (lb W)) j = W[j]'(by rw [hW.len]; exact hj) := by
  have hl := hW.len
  have hb := hW.bd (W[j]'(by omega)) (List.getElem_mem _)
  have h1 := getn_at (lb W) (by rw [lb_length]; omega) (2 * j) 2 (by omega) (by omega)
  unfold item
  rw [show (2 * (j : Int)) = ((2 * j : Nat) : Int) by omega]
  refine (congrArg Nat.cast h1).trans ?_
  rw [lb_drop, List.drop_eq_getElem_cons (by omega)]
  have h2 : lb (W[j]'(by omega) :: W.drop (j + 1)) = le 2 (W[j]'(by omega)).toNat ++ lb (W.drop (j + 1)) := rfl
  rw [h2, List.take_left' (le_length 2 _), num_le 2 _ (by omega)]
  omega
theorem items_all (W : List Int) (hW : Wk W) : items (S (lb W)) 32 = W := by
  refine List.ext_getElem (by rw [items_length, hW.len]) fun i h1 h2 => ?_
  rw [items_length] at h1
  simp only [items, List.getElem_map, List.getElem_range]
  exact item_at W hW i h1
theorem wk_set {W : List Int} (hW : Wk W) (j : Nat) {x : Int} (hx : 0 ≤ x ∧ x ≤ 65535) : Wk (W.set j x) := by
  refine ⟨by rw [List.length_set]; exact hW.len, fun y hy => ?_⟩
  rcases List.mem_or_eq_of_mem_set hy with h | h
  · exact hW.bd y h
  · rw [h]; exact hx
theorem wk_zero : Wk (List.replicate 32 0) := ⟨by simp, fun x hx => by rw [List.eq_of_mem_replicate hx]; omega⟩
theorem lb_zero : S (lb (List.replicate 32 0)) = B0 := by decide +kernel
theorem set_ivs (W : List Int) (j : Nat) (x : Int) (h : j < W.length) : ivs (W.set j x) = setAt (ivs W) j [.int .i64 x] := by
  rw [List.set_eq_take_append_cons_drop, if_pos h]
  simp [setAt, ivs, List.map_take, List.map_drop]
theorem ilists_h (a b c : Int) (L : List Int) (hz : L.length ≤ 100000000000000) : FnH Try.prog 10 [geoT a b c, .c (.nm 0)] [(0, some (false, .rd 1 L.length (ivs L)))] 1 ⟨.t (.c (.b true)), [], [], []⟩ := by
  refine fnR (fn := Try.f10) 70 rfl rfl rfl (args' := [geoT a b c, .c (.nm 0)]) (H' := [(0, some (false, .rd 1 L.length (ivs L)))]) (nx' := 1) (fun e w M => ⟨e, ⟨fun n b o h => ⟨(M.ob n b o h).1, fun g hg => ⟨(M.ob n b o h).2 g hg, fun hb => ?_⟩⟩, fun n o m c q h h' => M.dj n o m c q h h'⟩, rfl⟩) rfl rfl rfl rfl fun w => ?_
  · subst hb
    rw [lookH_cons] at h
    split at h
    · cases h
    · cases h
  refine rn [(14, .ret (.t (.c (.b true)))), (15, .dec false), (16, .ret (.t (.c (.s B0))))] rfl (by (repeat' (first | exact trivial | exact rfl | exact iworks0 | exact fun _ => iworks0 | exact blank0 | refine And.intro ?_ ?_))) ?_
  refine At.loop (X := (k : Nat) ×' (W : List Int) ×' (k ≤ 60 ∧ k ≤ L.length ∧ Wk W)) 3 (fun x => 60 - x.1)
    (fun x => [(1, .t (.c (.nm 0))), (2, .t (.c (.p 1 0))), (5, .t (.c (.s (S (lb x.2.1))))), (6, .t (.c (.p 2 0))), (7, .t (.c (iT (x.1 : Nat))))])
    (fun x => [(0, some (false, .rd 1 L.length (ivs L))), (1, some (true, .cells [iT a, iT b, iT c] 34)), (2, some (true, .row (ivs x.2.1) 71))]) ⟨0, List.replicate 32 0, by omega, by omega, wk_zero⟩ [] (fun x => wf rfl rfl) (by (repeat' (first | exact trivial | exact rfl | exact lb_zero.symm | exact fun _ => lb_zero.symm | refine And.intro ?_ ?_))) (by repeat' (first | exact trivial | exact rfl | refine And.intro ?_ ?_)) rfl fun x => ?_
  obtain ⟨k, W, hk1, hk2, hW⟩ := x
  refine rn [] rfl (by repeat' (first | exact trivial | exact rfl | refine And.intro ?_ ?_)) ?_
  refine ⟨fun h => ?_, fun h => ?_⟩
  · have h1 : (k : Int) < (L.length : Int) := of_decide_eq_true (Bool.and_eq_true_iff.1 h).1
    have h2 : (k : Int) < 60 := of_decide_eq_true (Bool.and_eq_true_iff.1 h).2
    have hlt : k < L.length := by omega
    have hj : (k : Int).tmod 32 = ((k % 32 : Nat) : Int) := rfl
    have hjl : k % 32 < 32 := Nat.mod_lt _ (by decide)
    have hav : av 0 ((k : Int).tmod 32) 32 L[k] = pv ((2 * (k % 32) : Nat) : Int) 2 L[k] := by
      have ha : atn ((k % 32 : Nat) : Int) 32 = false := by simp [atn]; omega
      have ho : (0 : Int) + 2 * ((k % 32 : Nat) : Int) = ((2 * (k % 32) : Nat) : Int) := by omega
      simp only [av, pv, hj, ato, atb, ate, ha, ho, Bool.false_eq_true, if_false]
    have hitem := item0 ((k : Int).tmod 32) L[k]
    rw [show (.tup [patT (ato 0 ((k : Int).tmod 32) 32 L[k]) (atb 0 ((k : Int).tmod 32) 32 L[k]), .c (iT (ate 0 ((k : Int).tmod 32) 32 L[k]))] : SV) = pv ((2 * (k % 32) : Nat) : Int) 2 L[k] from hav] at hitem
    have e1 : (ivs L)[(k : Int).toNat * 1]? = some (.int .i64 L[k]) := by simpa using ivs_at hlt
    have b0 : (0 : Int) ≤ (k : Int) := by omega
    have w2 : IntKind.i64.wrap ((k : Int) + 1) = ((k + 1 : Nat) : Int) := by rw [wrap_small (by omega) (by omega)]; omega
    by_cases he : pute ((2 * (k % 32) : Nat) : Int) 2 L[k] = 0
    · have hx := pute_bd he
      have hx' : 0 ≤ L[k] ∧ L[k] ≤ 65535 := by
        have := hx.2
        simp at this
        omega
      obtain ⟨p1, p2⟩ := pt_one (lb W) (by rw [lb_length, hW.len]) he (by omega) (by omega) (by omega)
      rw [show (2 : Int).toNat = 2 from rfl, lb_set W hW (k % 32) hjl L[k]] at p2
      have hp := fun {H : HL} {nx kk : Nat} {bb : Bool} {T : TypeId} {cs : List CV} (hk : lookH H kk = some (bb, .cells cs T)) (hx : ∀ e, cs.map (CV.den e) = pcells [pat ((2 * (k % 32) : Nat) : Int) 2 L[k]]) => patched_lit (S (lb W)) [pat ((2 * (k % 32) : Nat) : Int) 2 L[k]] (by intro q hq; rw [List.mem_singleton.1 hq]; exact pat_size _ _ _) (by rw [S_size, lb_length, hW.len]; decide) (by simp [maxLen]) (nx := nx) (m := 1) hk rfl hx
      rw [p1, p2] at hp
      have b3 : (0 : Int) ≤ (k : Int).tmod 32 := by rw [hj]; omega
      have b4 : (k : Int).tmod 32 < 32 := by rw [hj]; omega
      refine rn [(33, .ld [iT L[k]]), (34, .ret (pv ((2 * (k % 32) : Nat) : Int) 2 L[k])), (38, .dec false), (43, .spec ⟨.tup [.c (.s (S (lb (W.set (k % 32) L[k])))), .c (iT 0)], [], [], []⟩), (47, .dec false), (54, .ld [iT L[k]])] rfl ?_ ?_
      · repeat' (first | exact trivial | exact rfl | exact e1 | exact hitem | exact b0 | exact h1 | exact b3 | exact b4 | exact hp rfl (fun _ => rfl) | decide | refine And.intro ?_ ?_)
        all_goals first | (simpa using he) | (show 0 + ((k : Int).tmod 32).toNat * 1 + 1 ≤ (ivs W).length; rw [hj, ivs_length, hW.len]; omega)
      · refine roundEnd ⟨k + 1, W.set (k % 32) L[k], by omega, by omega, wk_set hW _ hx'⟩ [] (by show 60 - (k + 1) < 60 - k; omega) (by (repeat' (first | exact trivial | exact rfl | exact w2 | exact fun _ => w2 | refine And.intro ?_ ?_))) ?_ rfl
        repeat' (first | exact trivial | exact rfl | refine And.intro ?_ ?_)
        show setAt (ivs W) (0 + ((k : Int).tmod 32).toNat * 1) [.int .i64 L[k]] = ivs (W.set (k % 32) L[k])
        rw [hj, set_ivs W (k % 32) L[k] (by rw [hW.len]; exact hjl)]
        congr 1
        omega
    · refine rn [(33, .ld [iT L[k]]), (34, .ret (pv ((2 * (k % 32) : Nat) : Int) 2 L[k])), (38, .dec true)] rfl (by (repeat' (first | exact trivial | exact rfl | exact e1 | exact fun _ => e1 | first | exact hitem | exact b0 | exact h1 | decide | simpa using he | refine And.intro ?_ ?_))) ?_
      exact roundEnd ⟨k + 1, W, by omega, by omega, hW⟩ [] (by show 60 - (k + 1) < 60 - k; omega) (by (repeat' (first | exact trivial | exact rfl | exact w2 | exact fun _ => w2 | refine And.intro ?_ ?_))) (by repeat' (first | exact trivial | exact rfl | refine And.intro ?_ ?_)) rfl
  · refine rn [] rfl (by repeat' (first | exact trivial | exact rfl | refine And.intro ?_ ?_)) (roundExit rfl ?_)
    have hsz : (S (lb W)).size ≤ 9223372036854775807 := by rw [S_size, lb_length, hW.len]; decide
    by_cases hg : Gok a b c ∧ lok a b c (S (lb W))
    · have hl := fun {H : HL} {nx : Nat} => ilist_h a b c (S (lb W)) hsz hg.1 hg.2 (H := H) (nx := nx)
      rw [items_all W hW] at hl
      refine rnA [(59, .spec ⟨.tup [.c (.nm 3), .c (iT 0)], [(true, .own 3 1 32 (ivs W))], [], []⟩), (63, .dec false), (69, .spec ⟨.t (.c (.b (decide (W = W)))), [], [], []⟩)] rfl ?_ ?_
      · repeat' (first | exact trivial | exact rfl | exact hl | refine And.intro ?_ ?_)
        refine same_h (fun e w M => ?_) (by rw [hW.len]; decide)
        obtain ⟨⟨hown, hfp⟩, hlt⟩ := M.ob 3 _ _ rfl
        obtain ⟨⟨hfp2, hblk⟩, hlt2⟩ := M.ob 2 _ _ rfl
        have hob : (Ob.rd 1 32 (ivs W)).holds (e.ren []) 3 w := Ob.eqs_ok (o := .own 3 1 32 (ivs W)) (ρ := []) (by repeat' (first | exact trivial | exact rfl | refine And.intro ?_ ?_)) ⟨hown, hfp⟩
        obtain ⟨A1, c1, q1, q2, q3⟩ := hob
        refine ⟨A1, c1, some ⟨e.blk 2, 0, none⟩, 32, ?_, ?_, fun a ha h0 => hlt _ (q3 a ha h0), ?_, ?_, fun a ha _ => ?_⟩
        · rw [hW.len]; exact q1
        · rw [hW.len]; exact q2
        · rw [hW.len]; rfl
        · rw [hW.len]
          refine ⟨by rw [ivs_length, hW.len], Nat.le_refl _, by decide, fun h => (by cases h), fun j u hu => ⟨_, rfl, ?_⟩⟩
          rw [lit_add, cell_of_row w (e.blk 2) _ _ _ (0, 0) hblk]
          simpa using hu
        · cases ha
          exact hlt2 _ ((hfp2 _).2 rfl)
      · rw [decide_eq_true rfl]
        exact ret0 tysOk rfl (by repeat' (first | exact trivial | exact rfl | refine And.intro ?_ ?_)) rfl
    · have hno := ilist_no a b c (S (lb W)) hsz hg
      have hne : ((if Gok a b c then (60 : Int) else 4) != 0) = true := by by_cases hh : Gok a b c <;> simp [hh]
      refine rnA [(59, .ret (.tup [.c .nsl, .c (iT (if Gok a b c then 60 else 4))])), (63, .dec true)] rfl (by (repeat' (first | exact trivial | exact rfl | exact hno | exact fun _ => hno | exact hne | refine And.intro ?_ ?_))) ?_
      exact ret0 tysOk rfl (by repeat' (first | exact trivial | exact rfl | refine And.intro ?_ ?_)) rfl
theorem inodeLists_true (a b c : Int) (L : List Int) (A : Option Addr) (cap : Nat) (w : World) (hz : L.length ≤ 100000000000000) (hR : Vc.Rds w A L.length cap 1 (ivs L)) : Calls Try.prog 10 #[geo a b c, .slice A L.length cap] w fun e w' => e = .returned (.bool true) ∧ RowKit.Below w.heap.size w w' := by
  have key : ∀ n x, lookH [(0, some (false, Ob.rd 1 L.length (ivs L)))] n = some x → n = 0 ∧ x = (false, Ob.rd 1 L.length (ivs L)) := by
    intro n x h
    rw [lookH_cons] at h
    split at h
    · cases h; exact ⟨by assumption, rfl⟩
    · cases h
  have h := (ilists_h a b c L hz).h (fun n x h => by
      obtain ⟨h1, h2⟩ := key n x h
      subst h1 h2
      exact ⟨by omega, fun m hm => by cases hm⟩) (fun v hv n hn => by
      rcases List.mem_cons.1 hv with rfl | hv
      · cases hn
      · rw [List.mem_singleton.1 hv] at hn
        have : n = 0 := by simpa [TV.ns, CV.ns] using hn
        omega)
    ⟨fun _ => 0, fun _ => .slice A L.length cap, fun _ g => ∃ a, A = some a ∧ 0 < (ivs L).length ∧ g = a.block⟩ w ⟨fun n b o h => by
      obtain ⟨_, h2⟩ := key n _ h
      cases h2
      refine ⟨⟨A, cap, rfl, hR, fun a ha h0 => ⟨a, ha, h0, rfl⟩⟩, fun g ⟨a, ha, h0, hg⟩ => ?_⟩
      obtain ⟨u, hu⟩ : ∃ u, (ivs L)[0]? = some u := ⟨_, List.getElem?_eq_getElem h0⟩
      obtain ⟨a', ha', hc⟩ := hR.2.2.2.2 0 u hu
      rw [ha] at ha'
      cases ha'
      have := lt_of_cell hc
      rw [hg]
      rwa [add_block] at this, fun n o m c q h h' => by
      obtain ⟨_, h2⟩ := key n _ h
      cases h2⟩
  refine Calls.mono h ?_
  rintro en w' ⟨e', rfl, M⟩
  exact ⟨rfl, ⟨M.os, M.tape, M.out, M.size, fun g hg => M.block g hg fun n o ho => by cases ho⟩⟩
end Cw
