/- The walk of the document's list of all sectors (cutwaterref03.All). -/
import Derived.Test.YtjnbdhgkoolhnaaGreatGeomW
import Derived.Test.YtjnbdhgkoolhnaaGreatThings
namespace Cw
open Go Go.RowKit
open Go.Proofs

set_option maxRecDepth 100000 in
set_option maxHeartbeats 400000 in
theorem rcheck_any (a b c : Int) (w : World) :
    Calls Tryz.prog 25 #[geo a b c] w fun e w' => e = .returned (.int .i64 (gcheck a b c)) ∧ Below w.heap.size w w' := by
  go_enter Tryz.func25, Tryz.ntmps25
  go_wp2
  all_goals (go_ret; refine ⟨ret_int ?_, by go_grown⟩; first | rw [gcheck, if_pos (by unfold Gok; omega)] | rw [gcheck, if_neg (by unfold Gok; omega)])

theorem gcheck_yes {a b c : Int} (h : Gok a b c) : gcheck a b c = 0 := by rw [gcheck, if_pos h]
theorem gcheck_no {a b c : Int} (h : ¬ Gok a b c) : gcheck a b c = 4 := by rw [gcheck, if_neg h]

set_option maxRecDepth 100000 in
set_option maxHeartbeats 400000 in
theorem rregions_any (a b c : Int) (w : World) :
    Calls Tryz.prog 28 #[geo a b c] w fun e w' => e = .returned (.int .i64 (gregions a b c)) ∧ Below w.heap.size w w' := by
  by_cases h : Gok a b c
  · have H := Lib.hid h
    have p := ab_bd h
    have hm := gcheck_yes h
    obtain ⟨h1, h2, h3, h4, h5, h6⟩ := h
    go_enter Tryz.func28, Tryz.ntmps28
    go_wp2_with fail
    all_goals obtain ⟨hB, hc, hz⟩ := start_facts w #[.int .i64 a, .int .i64 b, .int .i64 c] 23
    all_goals generalize World.alloc w (.cells #[.int .i64 a, .int .i64 b, .int .i64 c] 23) = w0 at *
    go_wp2_with (go_at_call 25; refine (rcheck_any _ _ _ _).mono ?_; rintro e w1 ⟨rfl, hb⟩; have X := adv hB hb hc hz; clear hB hb hc hz; obtain ⟨hB, hc, hz⟩ := X)
    go_ret
    exact ⟨ret_int (by rw [gregions, if_pos H.out]), hB⟩
  · have H := Lib.hid h
    have hm := gcheck_no h
    clear h
    go_enter Tryz.func28, Tryz.ntmps28
    go_wp2_with fail
    all_goals obtain ⟨hB, hc, hz⟩ := start_facts w #[.int .i64 a, .int .i64 b, .int .i64 c] 23
    all_goals generalize World.alloc w (.cells #[.int .i64 a, .int .i64 b, .int .i64 c] 23) = w0 at *
    go_wp2_with (go_at_call 25; refine (rcheck_any _ _ _ _).mono ?_; rintro e w1 ⟨rfl, hb⟩; have X := adv hB hb hc hz; clear hB hb hc hz; obtain ⟨hB, hc, hz⟩ := X)
    go_ret
    exact ⟨ret_int (by rw [gregions, if_neg H.out]), hB⟩

/-! ### What the call has of the list -/
def thCells (x : Nat × Nat × Nat × Nat) : List Value := [.int .i64 x.1, .int .i64 x.2.1, .int .i64 x.2.2.1, .int .i64 x.2.2.2]

theorem owns_below {base : Nat} {e : TypeId} {size : Nat} {v : Value} {n : Nat} {xs : List Value} {w w1 : World} (h : w.ownsRow base e size v n xs) (hb : Below w.heap.size w w1) : w1.ownsRow base e size v n xs := by
  refine ⟨h.1, ?_⟩
  rcases h.2 with hn | ⟨g, cap, cur, rfl, h1, h2, r⟩
  · exact .inl hn
  · exact .inr ⟨g, cap, cur, rfl, h1, (hb.block g (Array.getElem?_eq_some_iff.1 h2).1).trans h2, r⟩

/-- 'l' is laid in a block of its own: the slice over all of it owns it. -/
theorem owns_full (w : World) (base : Nat) (e : TypeId) (size n : Nat) (xs : List Value) (hb : base ≤ w.heap.size) (hn : n ≤ maxLen) (hs : xs.length = n * size) :
    (w.alloc (.cells xs.toArray e)).ownsRow base e size (.slice (some ⟨w.heap.size, 0, none⟩) n n) n xs :=
  ⟨hs, .inr ⟨w.heap.size, n, xs.toArray, rfl, hb, heap_alloc_new w _, Nat.le_refl _, hn, by simpa using hs, by rw [← hs]; simp⟩⟩

/-- One struct is boxed (block 'w.heap.size'); the slice v, of the call's own, holds the list L. -/
def ThR (w : World) (cs : Array Value) (E : TypeId) (L : List (Nat × Nat × Nat × Nat)) (v : Value) (wr : World) : Prop :=
  Below w.heap.size w wr ∧ (∀ o, wr.cell? ⟨w.heap.size, o, none⟩ = cs[o]?) ∧ w.heap.size < wr.heap.size ∧ wr.ownsRow (w.heap.size + 1) E 4 v L.length (L.flatMap thCells)

theorem ThR.step {w : World} {cs : Array Value} {E : TypeId} {L : List (Nat × Nat × Nat × Nat)} {v : Value} {wr w1 : World} (h : ThR w cs E L v wr) (hb : Below wr.heap.size wr w1) : ThR w cs E L v w1 :=
  ⟨(adv h.1 hb h.2.1 h.2.2.1).1, (adv h.1 hb h.2.1 h.2.2.1).2.1, (adv h.1 hb h.2.1 h.2.2.1).2.2, owns_below h.2.2.2 hb⟩
theorem ThR.push {w : World} {cs : Array Value} {E : TypeId} {L : List (Nat × Nat × Nat × Nat)} {v v1 : Value} {wr w1 : World} {ys : List Value} (h : ThR w cs E L v wr) (x : Nat × Nat × Nat × Nat) (hx : thCells x = ys)
    (hO : w1.ownsRow (w.heap.size + 1) E 4 v1 (L.length + 1) (L.flatMap thCells ++ ys)) (hb : Below (w.heap.size + 1) wr w1) : ThR w cs E (L ++ [x]) v1 w1 := by
  refine ⟨below_step hb (by omega) h.1, carry hb (by omega) h.2.1, Nat.lt_of_lt_of_le h.2.2.1 hb.size, ?_⟩
  subst hx
  simpa using hO

theorem ThR.start (w : World) (cs : Array Value) (t E : TypeId) : ThR w cs E [(0, 0, 0, 0), (1, 0, 0, 0)] (.slice (some ⟨w.heap.size + 1, 0, none⟩) 2 2) ((w.alloc (.cells cs t)).alloc (.cells #[.int .i64 0, .int .i64 0, .int .i64 0, .int .i64 0, .int .i64 1, .int .i64 0, .int .i64 0, .int .i64 0] E)) := by
  obtain ⟨h1, h2, h3⟩ := start_facts w cs t
  have hb : Below (w.alloc (.cells cs t)).heap.size (w.alloc (.cells cs t)) ((w.alloc (.cells cs t)).alloc (.cells #[.int .i64 0, .int .i64 0, .int .i64 0, .int .i64 0, .int .i64 1, .int .i64 0, .int .i64 0, .int .i64 0] E)) := (Below.refl _ _).alloc (Nat.le_refl _) _
  obtain ⟨g1, g2, g3⟩ := adv h1 hb h2 h3
  refine ⟨g1, g2, g3, ?_⟩
  have := owns_full (w.alloc (.cells cs t)) (w.heap.size + 1) E 4 2 [.int .i64 0, .int .i64 0, .int .i64 0, .int .i64 0, .int .i64 1, .int .i64 0, .int .i64 0, .int .i64 0] (by simp) (by unfold maxLen; omega) rfl
  simpa [thCells] using this

theorem wpList_pushTh {P : Program} {ops : Array Oper} {rest : List Oper} {o : Oper} {a : Act} {Q : Exit → Act → World → Prop} {w wr : World} (hgd : o.guard = none) (s x : Operand) (t : TypeId) (ho : o.op = .call { callee := .builtin .append, args := #[s, x], argTypes := #[t, t] })
    {e : TypeId} {z : Value} (ht : P.underlying t = some (.slice e)) (hinfo : (P.info? e).map (fun i => (i.zero, i.size, i.bytes)) = some (some z, 4, 32) ∧ z.cells.size = 4)
    {cs : Array Value} {L : List (Nat × Nat × Nat × Nat)} {v : Value} (hR : ThR w cs e L v wr) (hs : a.eval s = v) (hlen : L.length ≤ 1000)
    (x1 x2 x3 x4 : Int) (c : Nat) (hx : a.eval x = .slice (some ⟨wr.heap.size, 0, none⟩) 1 c)
    (h : ∀ v' w', w'.ownsRow (w.heap.size + 1) e 4 v' (L.length + 1) (L.flatMap thCells ++ [.int .i64 x1, .int .i64 x2, .int .i64 x3, .int .i64 x4]) → Below (w.heap.size + 1) wr w' → wpList P ops Q rest (a.put o.dst v') w') :
    wpList P ops Q (o :: rest) a (wr.alloc (.cells #[.int .i64 x1, .int .i64 x2, .int .i64 x3, .int .i64 x4] e)) := by
  obtain ⟨i, hi, hz0, hz1, hz2⟩ := info_parts hinfo.1
  exact wpList_push hgd s x t ho (w.heap.size + 1) e i z 4 32 ht hi hz0 hz1 hz2 hinfo.2 (by decide) v _ _ hs hR.2.2.2 [.int .i64 x1, .int .i64 x2, .int .i64 x3, .int .i64 x4] c hx rfl
    (by simp [Value.oneCell']) (by unfold maxLen; omega) (by omega) hR.2.2.1 h

theorem thing_info : (Tryz.prog.info? 70).map (fun i => (i.zero, i.size, i.bytes)) = some (some (.agg #[.int .i64 0, .int .i64 0, .int .i64 0, .int .i64 0]), 4, 32) ∧ (Value.agg #[.int .i64 0, .int .i64 0, .int .i64 0, .int .i64 0]).cells.size = 4 :=
  ⟨by kernel_rfl, rfl⟩

def base2 : List (Nat × Nat × Nat × Nat) := [(0, 0, 0, 0), (1, 0, 0, 0)]
def tabl (n : Nat) : List (Nat × Nat × Nat × Nat) := base2 ++ (List.range n).map (fun i => (2, i, 0, 0))
def grps (a b c n : Nat) : List (Nat × Nat × Nat × Nat) := tabl (tabs a b) ++ (List.range n).flatMap (group b c)
theorem tabl_succ (n : Nat) : tabl (n + 1) = tabl n ++ [(2, n, 0, 0)] := by simp [tabl, List.range_succ]
theorem tabl_length (n : Nat) : (tabl n).length = 2 + n := by simp [tabl, base2]; omega
def gi (a b c n i : Nat) : List (Nat × Nat × Nat × Nat) := grps a b c n ++ [(3, n, n, 0)] ++ [(4, n, n, 0)] ++ (List.range i).map (fun i => (5, n * b + i + 1, n, i))
def gb (a b c n i : Nat) : List (Nat × Nat × Nat × Nat) := gi a b c n b ++ (List.range i).map (fun i => (6, n * c + i, n, i))
theorem gi_succ (a b c n i : Nat) : gi a b c n (i + 1) = gi a b c n i ++ [(5, n * b + i + 1, n, i)] := by simp [gi, List.range_succ]
theorem gb_succ (a b c n i : Nat) : gb a b c n (i + 1) = gb a b c n i ++ [(6, n * c + i, n, i)] := by simp [gb, List.range_succ]
theorem grps_succ (a b c n : Nat) : grps a b c (n + 1) = gb a b c n c := by simp [gb, gi, grps, group, List.range_succ]
theorem grps_length (a b c n : Nat) : (grps a b c n).length = 2 + tabs a b + n * (2 + b + c) := by
  simp only [grps, List.length_append, tabl_length, flatMap_length (group b c) _ (group_length b c)]
theorem gi_length (a b c n i : Nat) : (gi a b c n i).length = 2 + tabs a b + n * (2 + b + c) + 2 + i := by simp [gi, grps_length]; omega
theorem gb_length (a b c n i : Nat) : (gb a b c n i).length = 2 + tabs a b + n * (2 + b + c) + 2 + b + i := by simp [gb, gi_length]
theorem grps_all (a b c : Nat) : grps a b c a = things a b c := rfl

set_option maxRecDepth 100000 in
set_option maxHeartbeats 2000000 in
theorem all_any (a b c : Nat) (h : Gok a b c) (w : World) :
    Calls Tryz.prog 26 #[geo a b c] w fun e w' => ∃ v, e = .returned v ∧ ThR w #[.int .i64 a, .int .i64 b, .int .i64 c] 70 (things a b c) v w' := by
  have H := Lib.hid h
  have hr : gregions a b c = (a : Int) + a * b := by rw [gregions, if_pos h]
  have p := ab_bd h
  obtain ⟨h1, h2, h3, h4, h5, h6⟩ := h
  have pn : a * b ≤ 128 := by
    have e : ((a * b : Nat) : Int) = (a : Int) * b := by simp
    omega
  have ht : tabs a b ≤ 9 := by unfold tabs; omega
  go_enter Tryz.func26, Tryz.ntmps26
  go_wp2_with fail
  go_loopw [3, 4] (fun v i wr => ∃ k : Nat, k ≤ tabs a b ∧ i = .int .i64 k ∧ ThR w #[.int .i64 a, .int .i64 b, .int .i64 c] 70 (tabl k) v wr) (fun _ i _ => tabs a b - (RowKit.intOf i).toNat)
  case atStart => exact ⟨0, by omega, rfl, ThR.start w _ _ _⟩
  case round =>
    obtain ⟨k, hk, rfl, hR⟩ := hrel
    have hc := hR.2.1
    have hlen := tabl_length k
    by_cases hlt : k < tabs a b
    · have hlt' := hlt
      have htest : (k : Int) * 16 < (a : Int) + a * b := by unfold tabs at hlt; omega
      go_wp2_with (first | (go_at_call 28; refine (rregions_any _ _ _ _).mono ?_; rintro e w1 ⟨rfl, hb⟩; have X := hR.step hb; clear hb hR hc; have hR := X; have hc := X.2.1; clear X) | (at_builtin; refine wpList_pushTh rfl _ _ 65 rfl Tryz.underlying65 thing_info hR rfl (by omega) _ _ _ _ _ rfl ?_; intro v1 w1 hO hb; have X := hR.push (2, k, 0, 0) (by simp [thCells]) hO hb; clear hO hb hR hc; have hR := X; have hc := X.2.1; clear X))
      go_roundw
      case rel => exact ⟨k + 1, by omega, by go_num, by rw [tabl_succ]; exact hR⟩
      case measure => simp [RowKit.intOf]; omega
    · have hkt : k = tabs a b := by omega
      have htest : ¬ (k : Int) * 16 < (a : Int) + a * b := by unfold tabs at hlt; omega
      subst hkt
      go_wp2_with (go_at_call 28; refine (rregions_any _ _ _ _).mono ?_; rintro e w1 ⟨rfl, hb⟩; have X := hR.step hb; clear hb hR hc; have hR := X; have hc := X.2.1; clear X)
      clear htest hlt hlen
      go_loopw [3, 5] (fun v i wr => ∃ n : Nat, n ≤ a ∧ i = .int .i64 n ∧ ThR w #[.int .i64 a, .int .i64 b, .int .i64 c] 70 (grps a b c n) v wr) (fun _ i _ => a - (RowKit.intOf i).toNat)
      case atStart => exact ⟨0, by omega, rfl, by simpa [grps] using hR⟩
      case round =>
        clear hR hc
        obtain ⟨n, hn, rfl, hR⟩ := hrel
        have hc := hR.2.1
        by_cases hlt : n < a
        · have hlt' := hlt
          have htest : (n : Int) < a := by omega
          have q1 : n * (2 + b + c) ≤ 4 * 98 := Nat.mul_le_mul (by omega) (by omega)
          have l1 := grps_length a b c n
          have q2 : 0 ≤ (n : Int) * b ∧ (n : Int) * b ≤ 4 * 32 := prod_bd (a := (a : Int)) (m := 4) (by omega) (by omega) (by omega) (by omega) (by omega) (by omega) (by omega)
          have q3 : 0 ≤ (n : Int) * c ∧ (n : Int) * c ≤ 4 * 64 := prod_bd (a := (a : Int)) (m := 4) (by omega) (by omega) (by omega) (by omega) (by omega) (by omega) (by omega)
          have l1' : (grps a b c n).length ≤ 500 := by omega
          have l2' : (grps a b c n ++ [(3, n, n, 0)]).length ≤ 501 := by simp; omega
          go_wp2_with (first | (at_builtin; refine wpList_pushTh rfl (.tmp 29) (.tmp 33) 65 rfl Tryz.underlying65 thing_info hR rfl (by omega) _ _ _ _ _ rfl ?_; intro v1 w1 hO hb; have X := hR.push (3, n, n, 0) (by simp [thCells]) hO hb; clear hO hb hR hc; have hR := X; have hc := X.2.1; clear X) | (at_builtin; refine wpList_pushTh rfl (.tmp 35) (.tmp 39) 65 rfl Tryz.underlying65 thing_info hR rfl (by omega) _ _ _ _ _ rfl ?_; intro v1 w1 hO hb; have X := hR.push (4, n, n, 0) (by simp [thCells]) hO hb; clear hO hb hR hc; have hR := X; have hc := X.2.1; clear X))
          clear htest hlt l1' l2'
          go_loopw [3, 6] (fun v i wr => ∃ m : Nat, m ≤ b ∧ i = .int .i64 m ∧ ThR w #[.int .i64 a, .int .i64 b, .int .i64 c] 70 (gi a b c n m) v wr) (fun _ i _ => b - (RowKit.intOf i).toNat)
          case atStart => exact ⟨0, by omega, rfl, by simpa [gi] using hR⟩
          case round =>
            clear hR hc
            obtain ⟨m, hm, rfl, hR⟩ := hrel
            have hc := hR.2.1
            have l2 := gi_length a b c n m
            have l2' : (gi a b c n m).length ≤ 900 := by omega
            by_cases hlt : m < b
            · have htest : (m : Int) < b := by omega
              go_wp2_with (at_builtin; refine wpList_pushTh rfl _ _ 65 rfl Tryz.underlying65 thing_info hR rfl (by omega) _ _ _ _ _ rfl ?_; intro v1 w1 hO hb; have X := hR.push (5, n * b + m + 1, n, m) (by simp [thCells]) hO hb; clear hO hb hR hc; have hR := X; have hc := X.2.1; clear X)
              go_roundw
              case rel => exact ⟨m + 1, by omega, by go_num, by rw [gi_succ]; exact hR⟩
              case measure => simp [RowKit.intOf]; omega
            · obtain rfl : m = b := by omega
              have htest : ¬ (m : Int) < m := by omega
              go_wp2_with fail
              clear htest hlt l2 l2'
              go_loopw [3, 7] (fun v i wr => ∃ t : Nat, t ≤ c ∧ i = .int .i64 t ∧ ThR w #[.int .i64 a, .int .i64 m, .int .i64 c] 70 (gb a m c n t) v wr) (fun _ i _ => c - (RowKit.intOf i).toNat)
              case atStart => exact ⟨0, by omega, rfl, by simpa [gb] using hR⟩
              case round =>
                clear hR hc
                obtain ⟨t, htc, rfl, hR⟩ := hrel
                have hc := hR.2.1
                have l2 := gb_length a m c n t
                have l2' : (gb a m c n t).length ≤ 900 := by omega
                by_cases hlt : t < c
                · have htest : (t : Int) < c := by omega
                  go_wp2_with (at_builtin; refine wpList_pushTh rfl _ _ 65 rfl Tryz.underlying65 thing_info hR rfl (by omega) _ _ _ _ _ rfl ?_; intro v1 w1 hO hb; have X := hR.push (6, n * c + t, n, t) (by simp [thCells]) hO hb; clear hO hb hR hc; have hR := X; have hc := X.2.1; clear X)
                  go_roundw
                  case rel => exact ⟨t + 1, by omega, by go_num, by rw [gb_succ]; exact hR⟩
                  case measure => simp [RowKit.intOf]; omega
                · obtain rfl : t = c := by omega
                  have htest : ¬ (t : Int) < t := by omega
                  go_wp2_with fail
                  go_roundw
                  case rel => exact ⟨n + 1, by omega, by go_num, by rw [grps_succ]; exact hR⟩
                  case measure => simp [RowKit.intOf]; omega
        · obtain rfl : n = a := by omega
          have htest : ¬ (n : Int) < n := by omega
          go_wp2_with fail
          go_ret
          exact ⟨_, rfl, by rw [← grps_all]; exact hR⟩
end Cw
namespace Cw
open Go Go.RowKit
open Go.Proofs

theorem flatMap4_get (L : List (Nat × Nat × Nat × Nat)) : ∀ (i j : Nat) (x : Nat × Nat × Nat × Nat), L[i]? = some x → j < 4 → (L.flatMap thCells)[i * 4 + j]? = (thCells x)[j]? := by
  induction L with
  | nil => intro i j x h; simp at h
  | cons y L ih =>
    intro i j x h hj
    rw [List.flatMap_cons]
    cases i with
    | zero =>
      simp at h
      subst h
      rw [List.getElem?_append_left (by simp [thCells]; omega)]
      simp
    | succ i =>
      rw [List.getElem?_append_right (by simp [thCells]; omega), show (i + 1) * 4 + j - (thCells y).length = i * 4 + j by simp [thCells]; omega]
      exact ih i j x (by simpa using h) hj

theorem ThR.get {w : World} {cs : Array Value} {E : TypeId} {L : List (Nat × Nat × Nat × Nat)} {v : Value} {wr : World} (h : ThR w cs E L v wr) (hL : 0 < L.length) :
    ∃ g cap, v = .slice (some ⟨g, 0, none⟩) L.length cap ∧ w.heap.size < g ∧ g < wr.heap.size ∧ L.length ≤ cap ∧
      ∀ i x, L[i]? = some x → ∀ j u, (thCells x)[j]? = some u → wr.cell? ⟨g, i * 4 + j, none⟩ = some u := by
  rcases h.2.2.2.2 with ⟨_, h0⟩ | ⟨g, cap, cur, rfl, hg, hh, hn, hm, hs, ht⟩
  · omega
  · refine ⟨g, cap, rfl, hg, (Array.getElem?_eq_some_iff.1 hh).1, hn, fun i x hi j u hu => ?_⟩
    have hj : j < 4 := by
      obtain ⟨h1, _⟩ := List.getElem?_eq_some_iff.1 hu
      simpa [thCells] using h1
    have hk := flatMap4_get L i j x hi hj
    rw [hu, ← ht, List.getElem?_take] at hk
    rw [cell_of_row wr g (i * 4 + j) cur E (0, 0) hh]
    split at hk
    · simpa using hk
    · cases hk

set_option maxRecDepth 100000 in
set_option maxHeartbeats 400000 in
theorem rtable_any (a b c r : Int) (w : World) :
    Calls Tryz.prog 163 #[geo a b c, .int .i64 r] w fun e w' => e = .returned (.tuple #[.int .i64 (ts a b c r), .int .i64 (toff a b c r), .int .i64 (te a b c r)]) ∧ Below w.heap.size w w' := by
  have hrb := regions_bd a b c
  by_cases h : Gok a b c
  · have H := Lib.hid h
    have hm := gcheck_yes h
    by_cases hr : 0 ≤ r ∧ r < gregions a b c
    · have he : te a b c r = 0 := within_zero h hr.1 hr.2
      have e2 : ts a b c r = 2 + r / 16 := by unfold ts; rw [he]; rfl
      have e3 : toff a b c r = r % 16 * 4 := by unfold toff; rw [he]; rfl
      have hE := Lib.hid (And.intro he (And.intro e2 e3))
      clear he e2 e3 h
      have t0 : ¬ r < 0 := by omega
      have t1 : ¬ gregions a b c ≤ r := by omega
      go_enter Tryz.func163, Tryz.ntmps163
      go_wp2_with fail
      all_goals obtain ⟨hB, hc, hz⟩ := start_facts w #[.int .i64 a, .int .i64 b, .int .i64 c] 23
      all_goals generalize World.alloc w (.cells #[.int .i64 a, .int .i64 b, .int .i64 c] 23) = w0 at *
      go_wp2_with (first | (go_at_call 25; refine (rcheck_any _ _ _ _).mono ?_; rintro e w1 ⟨rfl, hb⟩; have X := adv hB hb hc hz; clear hB hb hc hz; obtain ⟨hB, hc, hz⟩ := X) | (go_at_call 28; refine (rregions_any _ _ _ _).mono ?_; rintro e w1 ⟨rfl, hb⟩; have X := adv hB hb hc hz; clear hB hb hc hz; obtain ⟨hB, hc, hz⟩ := X))
      go_ret3
      refine ⟨?_, hB⟩
      rw [hE.out.1, hE.out.2.1, hE.out.2.2]
      rfl
    · have he : te a b c r = 1 := by unfold te gwithin; rw [if_neg (not_not_intro h), if_pos (by omega)]
      have e2 : ts a b c r = 0 := by unfold ts; rw [he]; rfl
      have e3 : toff a b c r = 0 := by unfold toff; rw [he]; rfl
      have hE := Lib.hid (And.intro he (And.intro e2 e3))
      clear he e2 e3 h
      by_cases t0 : r < 0
      all_goals
        have t0' := t0
        go_enter Tryz.func163, Tryz.ntmps163
        go_wp2_with fail
        all_goals obtain ⟨hB, hc, hz⟩ := start_facts w #[.int .i64 a, .int .i64 b, .int .i64 c] 23
        all_goals generalize World.alloc w (.cells #[.int .i64 a, .int .i64 b, .int .i64 c] 23) = w0 at *
        go_wp2_with (first | (go_at_call 25; refine (rcheck_any _ _ _ _).mono ?_; rintro e w1 ⟨rfl, hb⟩; have X := adv hB hb hc hz; clear hB hb hc hz; obtain ⟨hB, hc, hz⟩ := X) | (go_at_call 28; refine (rregions_any _ _ _ _).mono ?_; rintro e w1 ⟨rfl, hb⟩; have X := adv hB hb hc hz; clear hB hb hc hz; obtain ⟨hB, hc, hz⟩ := X))
        go_ret3
        refine ⟨?_, hB⟩
        rw [hE.out.1, hE.out.2.1, hE.out.2.2]
        rfl
  · have hm := gcheck_no h
    have he : te a b c r = 4 := by unfold te gwithin; rw [if_pos h]
    have e2 : ts a b c r = 0 := by unfold ts; rw [he]; rfl
    have e3 : toff a b c r = 0 := by unfold toff; rw [he]; rfl
    have hE := Lib.hid (And.intro he (And.intro e2 e3))
    clear he e2 e3 h
    go_enter Tryz.func163, Tryz.ntmps163
    go_wp2_with fail
    all_goals obtain ⟨hB, hc, hz⟩ := start_facts w #[.int .i64 a, .int .i64 b, .int .i64 c] 23
    all_goals generalize World.alloc w (.cells #[.int .i64 a, .int .i64 b, .int .i64 c] 23) = w0 at *
    go_wp2_with (go_at_call 25; refine (rcheck_any _ _ _ _).mono ?_; rintro e w1 ⟨rfl, hb⟩; have X := adv hB hb hc hz; clear hB hb hc hz; obtain ⟨hB, hc, hz⟩ := X)
    go_ret3
    refine ⟨?_, hB⟩
    rw [hE.out.1, hE.out.2.1, hE.out.2.2]
    rfl
end Cw
namespace Cw
open Go Go.RowKit
open Go.Proofs

end Cw
