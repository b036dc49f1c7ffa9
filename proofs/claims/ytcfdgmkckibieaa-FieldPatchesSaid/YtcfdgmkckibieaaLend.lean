/- append of a slice that came in onto one of the call's own; a literal's slice; LendPatches, KeptPatches. -/
import Derived.Test.YtcfdgmkckibieaaOpen
import Derived.Test.YtcfdgmkckibieaaSame
import Derived.Test.YtcfdgmkckibieaaDiffLaw
import Derived.Laws.AppendOwnNone
namespace Cw
open Go Go.RowKit Go.IntWalk
open Go.Proofs

section push
variable {P : Program} {w : World} {ops : Array Oper} {rest : List Oper} {o : Oper} {a : Act} {Q : Exit → Act → World → Prop}
/-- 'append(s, x...)', s of the call's own, x any slice. -/
theorem wpList_pushAll (hgd : o.guard = none) (s x : Operand) (t : TypeId) (ho : o.op = .call { callee := .builtin .append, args := #[s, x], argTypes := #[t, t] })
    (base : Nat) (e : TypeId) (i : TypeInfo) (z : Value) (size bytes : Nat) (ht : P.underlying t = some (.slice e)) (hi : P.info? e = some i) (hz : i.zero = some z)
    (hsize : i.size = size) (hby : i.bytes = bytes) (hzs : z.cells.size = size) (hsz : 0 < size)
    (v : Value) (n : Nat) (xs : List Value) (hs : a.eval s = v) (hown : w.ownsRow base e size v n xs)
    (A : Option Addr) (m c : Nat) (news : List Value) (hx : a.eval x = .slice A m c) (hr : Rds w A m c size news) (h1 : ∀ u ∈ news, u.oneCell' = true)
    (h63 : n + m ≤ maxLen) (hbytes : (n + m) * bytes ≤ 140737488355328) (hbase : base ≤ w.heap.size)
    (h : ∀ v' w', w'.ownsRow base e size v' (n + m) (xs ++ news) → Below base w w' → wpList P ops Q rest (a.put o.dst v') w') : wpList P ops Q (o :: rest) a w := by
  obtain ⟨r1, r2, r3, r4, r5⟩ := hr
  cases A with
  | none =>
    have c0 : c = 0 := r4 rfl
    subst c0
    have m0 : m = 0 := by omega
    subst m0
    have e0 : news = [] := List.eq_nil_of_length_eq_zero (by simpa using r1)
    subst e0
    exact wpList_append_own_none hgd s x t ho base e i size ht hi v n xs hs hown hx (h v w (by simpa using hown) (Below.refl _ _))
  | some ad =>
    exact wpList_append_own _ hgd s x t ho base e i z size bytes ht hi hz hsize hby hzs hsz v n xs hs hown ad m c news hx r1 (fun j u hu => by
      obtain ⟨b, e, hc⟩ := r5 j u hu
      cases e
      exact hc) h1 h63 hbytes hbase (fun v' w' h2 h3 _ => h v' w' h2 (below_grown h3 (fun k hk => (hown.lt k hk).1) hbase))
end push

/-- A literal's empty slice is of the call's own. -/
theorem own_lit0 (w : World) (e : TypeId) (size : Nat) : (w.alloc (.cells #[] e)).ownsRow w.heap.size e size (.slice (some ⟨w.heap.size, 0, none⟩) 0 0) 0 [] :=
  ⟨by simp, .inr ⟨w.heap.size, 0, #[], rfl, Nat.le_refl _, heap_alloc_new w _, Nat.le_refl _, by decide, by simp, by simp⟩⟩

theorem pcells_one (l : List Pt) : ∀ u ∈ l.flatMap pcells, u.oneCell' = true := by
  intro u hu
  obtain ⟨p, _, h⟩ := List.mem_flatMap.1 hu
  simp only [pcells, List.mem_cons, List.not_mem_nil, or_false] at h
  rcases h with rfl | rfl <;> rfl

/-- A slice that reads as these patches. -/
theorem sl_rds {w : World} {A : Option Addr} {c : Nat} {l : List Pt} (h : Rds w A l.length c 2 (l.flatMap pcells)) : Sl w (.slice A l.length c) l := by
  obtain ⟨h1, h2, h3, h4, h5⟩ := h
  refine ⟨A, c, rfl, h2, h3, ?_, ?_⟩
  · rintro b rfl h0
    obtain ⟨g1, _⟩ := pcells_get l 0 h0
    obtain ⟨a, e, hc⟩ := h5 _ _ g1
    cases e
    have := lt_of_cell hc
    rwa [addr_blk] at this
  · intro i hi
    obtain ⟨g1, g2⟩ := pcells_get l i hi
    obtain ⟨a, e, hc⟩ := h5 _ _ g1
    obtain ⟨a', e', hc'⟩ := h5 _ _ g2
    subst e
    cases e'
    exact ⟨a, rfl, hc, hc'⟩
theorem rds_sl {w : World} {A : Option Addr} {n c : Nat} {l : List Pt} (h : Sl w (.slice A n c) l) : n = l.length := by
  obtain ⟨a, c', h1, _⟩ := h
  cases h1
  rfl

/-- Of a row of the call's own its first elements. -/
theorem Rds.first {w : World} {g cap n size : Nat} {base : Nat} {e : TypeId} {xs ys : List Value} (h : w.ownsRow base e size (.slice (some ⟨g, 0, none⟩) n cap) n (xs ++ ys)) (m : Nat) (hm : m ≤ n) (hx : xs.length = m * size) :
    Rds w (some ⟨g, 0, none⟩) m cap size xs := by
  obtain ⟨h0, h⟩ := h
  rcases h with ⟨h1, _⟩ | ⟨g', cap', cur, h1, hb, hg, hnc, hcm, hr, ht⟩
  · cases h1
  · cases h1
    refine ⟨hx, by omega, hcm, by simp, fun j u hu => ⟨_, rfl, ?_⟩⟩
    have hown : w.ownsRow base e size (.slice (some ⟨g, 0, none⟩) n cap) n (xs ++ ys) := ⟨h0, .inr ⟨g, cap, cur, rfl, hb, hg, hnc, hcm, hr, ht⟩⟩
    refine hown.cells (g := g) rfl j u ?_
    rw [List.getElem?_append_left (by rcases Nat.lt_or_ge j xs.length with h | h; exact h; rw [List.getElem?_eq_none h] at hu; cases hu)]
    exact hu

theorem own_some {w : World} {base : Nat} {e : TypeId} {size n : Nat} {v : Value} {xs : List Value} (h : w.ownsRow base e size v n xs) (h0 : 0 < n) : ∃ g cap, v = .slice (some ⟨g, 0, none⟩) n cap ∧ n ≤ cap := by
  rcases h.2 with ⟨_, h2⟩ | ⟨g, cap, cur, h1, _, _, hnc, _⟩
  · omega
  · exact ⟨g, cap, h1, hnc⟩

set_option maxHeartbeats 1000000 in
theorem lend_any (A : Option Addr) (c : Nat) (l : List Pt) (hz : l.length * 24 ≤ 140737488351232) (w : World) (hl : Rds w A l.length c 2 (l.flatMap pcells)) : Calls Try.prog 28 #[.slice A l.length c] w fun e w' => ∃ g cap, e = .returned (.slice (some ⟨g, 0, none⟩) l.length cap) ∧ Below w.heap.size w w' ∧
    w'.ownsRow w.heap.size 25 2 (.slice (some ⟨g, 0, none⟩) (l.length + 1) cap) (l.length + 1) (l.flatMap pcells ++ [.int .i64 (-77), .string ⟨#[]⟩]) := by
  obtain ⟨i0, hi, hz0, hz1, hz2⟩ := info_parts patch_info.1
  have hB := below_alloc (Below.refl w.heap.size w) (.cells #[] 25)
  have hO := own_lit0 w 25 2
  have hR := hl.below (Nat.le_refl _) hB
  go_enter Try.func28, Try.ntmps28
  go_wp2_with (first | (at_builtin; refine wpList_pushAll rfl (.tmp 4) (.tmp 5) 32 rfl w.heap.size 25 i0 _ 2 24 Try.underlying32 hi hz0 hz1 hz2 patch_info.2 (by decide) _ _ _ rfl hO A l.length c _ rfl hR (pcells_one l) (by unfold maxLen; omega) (by omega) hB.size ?_; intro v1 w1 hO1 hb1; have hB1 := hB.trans hb1; clear hB hb1 hR hO) | (at_builtin; refine wpList_push rfl (.tmp 7) (.tmp 9) 32 rfl w.heap.size 25 i0 _ 2 24 Try.underlying32 hi hz0 hz1 hz2 patch_info.2 (by decide) _ _ _ rfl hO1 [_, _] _ rfl rfl (by simp [Value.oneCell']) (by unfold maxLen; omega) (by omega) hB1.size ?_; intro v2 w2 hO2 hb2; have hB2 := hB1.trans hb2; clear hB1 hb2 hO1; simp only [Nat.zero_add, List.nil_append] at hO2; obtain ⟨g, cap, rfl, hcc⟩ := own_some hO2 (by omega); have hc1 : (l.length : Int) ≤ cap := by omega))
  go_ret
  exact ⟨g, cap, rfl, hB2, hO2⟩

set_option maxHeartbeats 1000000 in
theorem kept_any (A : Option Addr) (c g cap base : Nat) (l : List Pt) (hz : l.length * 24 ≤ 140737488351232) (w : World) (hl : Rds w A l.length c 2 (l.flatMap pcells))
    (hO : w.ownsRow base 25 2 (.slice (some ⟨g, 0, none⟩) (l.length + 1) cap) (l.length + 1) (l.flatMap pcells ++ [.int .i64 (-77), .string ⟨#[]⟩])) :
    Calls Try.prog 30 #[.slice (some ⟨g, 0, none⟩) l.length cap, .slice A l.length c] w fun e w' => e = .returned (.bool true) ∧ Below w.heap.size w w' := by
  have hS1 := sl_rds hl
  have hS2 := sl_rds (Rds.first hO l.length (by omega) (pcells_len l))
  have hK := same_any _ _ l (by omega) w hS2 hS1
  have hcells := hO.cells (g := g) rfl
  have hlen := pcells_len l
  have c0 := hcells (l.length * 2) (.int .i64 (-77)) (by rw [← hlen]; simp)
  have c1 := hcells (l.length * 2 + 1) (.string ⟨#[]⟩) (by rw [← hlen]; simp)
  have hcap : l.length + 1 ≤ cap := by
    rcases hO.2 with ⟨h1, _⟩ | ⟨g', cap', cur, h1, _, _, hnc, _⟩
    · cases h1
    · cases h1; exact hnc
  rw [lit_add] at c0 c1
  have hcap' : (l.length : Int) + 1 ≤ cap := by omega
  have b0 := lt_of_cell c0
  simp only at b0
  have HK := Lib.hid hK
  have hx : ∀ w', Below w.heap.size w w' → w'.cell? ⟨g, l.length * 2, none⟩ = some (.int .i64 (-77)) ∧ w'.cell? ⟨g, l.length * 2 + 1, none⟩ = some (.string ⟨#[]⟩) := fun w' hb =>
    ⟨(hb.cell (p := ⟨g, l.length * 2, none⟩) b0).trans c0, (hb.cell (p := ⟨g, l.length * 2 + 1, none⟩) b0).trans c1⟩
  have HX := Lib.hid hx
  clear hK hcells c0 c1 hS1 hS2 hlen hx hl hO
  have q1 : ((l.length : Int) + 1).toNat = l.length + 1 := by omega
  go_enter Try.func30, Try.ntmps30
  go_wp2_with (go_at_call 19; refine HK.out.mono ?_; rintro e w1 ⟨rfl, hb⟩; obtain ⟨x0, x1⟩ := HX.out _ hb)
  go_ret
  exact ⟨rfl, hb⟩
end Cw
