/- slices of integers in the library: Clone, Sort, Compact, Contains, for the walk by reckoning. -/
import Derived.Test.YtclcibpghonidaaGreatDoorSlV
import Derived.Test.YtclcibpghonidaaGreatDoorShelf
import Derived.Lib.RowBridge
namespace Cw
open Go Vc
open Go.Proofs
set_option maxRecDepth 100000
/-- A row of one's own that is written anew in its place. -/
theorem mv_put {nx k s n : Nat} {T : TypeId} {v : SV} {obs : List Prop} {xs : List Value} {e : Env} {w w' : World} (hfp : ∀ g, e.fp k g ↔ (e.val k).ownBlock = some g) (h1 : w'.os = w.os) (h2 : w'.tape = w.tape) (h3 : w'.output = w.output) (h4 : w.heap.size ≤ w'.heap.size)
    (h5 : ∀ g, g < w.heap.size → (e.val k).ownBlock ≠ some g → w'.heap[g]? = w.heap[g]?) (h6 : w'.ownsRow 0 T s (e.val k) n xs) : Mv nx ⟨v, [], [(k, some (.own T s n xs))], obs⟩ e e w w' := by
  refine .old ⟨fun _ _ => ⟨rfl, rfl, rfl⟩, h1, h2, h3, h4, fun g hg hno => h5 g hg fun he => hno k (some (.own T s n xs)) (by simp) ((hfp g).2 he), fun j b o hk => (by simp at hk), fun i j hi => (by simp at hi), fun q ob hq => ?_⟩
  simp at hq
  obtain ⟨rfl, rfl⟩ := hq
  exact ⟨h6, hfp⟩
theorem put_get {w : World} {T : TypeId} {n : Nat} {ys : List Int} {g cap : Nat} {cur : Array Value} (hb : w.heap[g]? = some (.cells cur T (0, 0))) (hn : n ≤ cap) (hs : cur.size = cap) (q : Nat) (os : Array Obj) (hy : ys.length = n) :
    ∃ cur', (Sort.grow (Sort.putRow (Value.int .i64) (Sort.ahead w q) g 0 ys.toArray) os).heap[g]? = some (.cells cur' T (0, 0)) ∧ cur'.size = cap ∧ cur'.toList.take n = ivs ys := by
  have hlt : g < w.heap.size := (Array.getElem?_eq_some_iff.1 hb).1
  refine ⟨Sort.putCells (Value.int .i64) 0 ys.toArray cur, ?_, by simp [Sort.putCells, hs], ?_⟩
  · simp only [Sort.grow, Sort.putRow, Sort.mapBlock, Sort.ahead]
    rw [Array.getElem?_append_left (by simpa using hlt), Array.getElem?_modify, if_pos rfl, hb]
    rfl
  · apply List.ext_getElem?
    intro i
    rw [List.getElem?_take]
    by_cases hi : i < n
    · rw [if_pos hi, Array.getElem?_toList]
      have h1 : i < cur.size := by omega
      have h2 : i < ys.length := by omega
      simp [Sort.putCells, h1, h2, ivs]
    · rw [if_neg hi]
      exact (List.getElem?_eq_none (by simp [ivs, hy]; omega)).symm
theorem put_other {w : World} {g q : Nat} {ys : List Int} {os : Array Obj} {g' : Nat} (h : g' < w.heap.size) (hne : g' ≠ g) : (Sort.grow (Sort.putRow (Value.int .i64) (Sort.ahead w q) g 0 ys.toArray) os).heap[g']? = w.heap[g']? := by
  simp only [Sort.grow, Sort.putRow, Sort.mapBlock, Sort.ahead]
  rw [Array.getElem?_append_left (by simpa using h), Array.getElem?_modify, if_neg (fun e => hne e.symm)]
theorem own_holds {w : World} {T : TypeId} {zs : List Int} {g : Nat} {cur : Array Value} (hb : w.heap[g]? = some (.cells cur T (0, 0))) (ht : cur.toList.take zs.length = ivs zs) : Sort.Holds (Value.int .i64) w g 0 zs.toArray := by
  intro j hj
  have hj' : j < zs.length := by simpa using hj
  have h1 : (cur.toList.take zs.length)[j]? = some (.int .i64 zs[j]) := by rw [ht]; exact ivs_at hj'
  rw [List.getElem?_take, if_pos hj', Array.getElem?_toList] at h1
  refine ⟨?_, ?_⟩
  · rw [Nat.zero_add, cell_of_row w g j cur T (0, 0) hb, h1]
    simp [hj']
  · simp [World.frozen?, hb]
def srt (l : List Int) : List Int := l.mergeSort fun x y => decide (x ≤ y)
theorem srt_length (l : List Int) : (srt l).length = l.length := List.length_mergeSort l
theorem sort_h {k : Nat} {zs : List Int} {H : HL} {nx : Nat} (hz62 : zs.length < 4611686018427387904) (hk : lookH H k = some (true, .own 3 1 zs.length (ivs zs))) : FnH Tryz.prog 76 [.c (.nm k)] H nx ⟨.tup [], [], [(k, some (.own 3 1 zs.length (ivs (srt zs))))], []⟩ := by
  refine ⟨fun _ _ e w M => ?_⟩
  obtain ⟨⟨hown, hfp⟩, hlt⟩ := M.ob k _ _ hk
  have h0 : zs.length = 0 → ∀ A c, e.val k = .slice A 0 c → Calls Tryz.prog 76 #[e.val k] w fun en w' => ∃ e', en = .returned ((SV.tup []).den e') ∧ Mv nx ⟨.tup [], [], [(k, some (.own 3 1 zs.length (ivs (srt zs))))], []⟩ e e' w w' := by
    intro hz A c hv
    rw [hv]
    refine Calls.mono (Tryz.slices_Sort_int_none A c w) ?_
    rintro en w' ⟨rfl, rfl⟩
    have : zs = [] := List.eq_nil_of_length_eq_zero hz
    subst this
    exact ⟨e, rfl, mv_put hfp rfl rfl rfl (Nat.le_refl _) (fun _ _ _ => rfl) (by simpa [srt, ivs] using hown)⟩
  rcases hown.2 with ⟨hv, hz⟩ | ⟨g, cap, cur, hv, _, hb, hn, hcm, hs, ht⟩
  · exact h0 hz none 0 hv
  · by_cases hz : zs.length = 0
    · exact h0 hz _ _ (by rw [hv, hz])
    · have hlt' : g < w.heap.size := (Array.getElem?_eq_some_iff.1 hb).1
      rw [Nat.mul_one] at hs ht
      show Calls _ _ #[e.val k] w _
      rw [hv]
      refine Calls.mono (Tryz.slices_Sort_int g 0 cap zs w (own_holds hb ht) hlt' hz62) ?_
      rintro en w' ⟨rfl, q, os, rfl⟩
      obtain ⟨cur', c1, c2, c3⟩ := put_get (ys := srt zs) hb hn hs q os (srt_length zs)
      refine ⟨e, rfl, mv_put hfp rfl rfl rfl (by simp [Sort.grow, Sort.ahead, Sort.putRow, Sort.mapBlock]) (fun g' hg' hne => put_other hg' fun he => hne (by rw [hv, he]; rfl)) ⟨by simp [ivs, srt_length], .inr ⟨g, cap, cur', hv, Nat.zero_le _, c1, hn, hcm, by simpa using c2, by simpa using c3⟩⟩⟩
def cpt (l : List Int) : List Int := Lib.compact l
theorem rds_spot {w : World} {a : Addr} {u : Value} (h : w.cell? (a.add 0) = some u) : a = ⟨a.block, a.off, none⟩ := by
  obtain ⟨b, o, sp⟩ := a
  cases sp with
  | none => rfl
  | some q =>
    unfold World.cell? at h
    split at h
    · have : ((⟨b, o, some q⟩ : Addr).add 0).spot.isSome = true := by simp [Addr.add]
      rw [if_pos this] at h
      cases h
    · cases h
theorem clone_h {v : TV} {zs : List Int} {H : HL} {nx : Nat} (hs : SlR H v zs.length 1 (ivs zs)) (hbig : zs.length * 8 ≤ 140737488355328) : FnH Tryz.prog 183 [v] H nx ⟨.t (.c (.nm nx)), [(true, .own 3 1 zs.length (ivs zs))], [], []⟩ := by
  refine ⟨fun _ _ e w M => ?_⟩
  obtain ⟨A, c, hv, hr, _⟩ := hs e w M
  have fin : ∀ (r : Value) (w' : World), w'.ownsRow w.heap.size 3 1 r zs.length (ivs zs) → RowKit.Below w.heap.size w w' → ∃ e', Ending.returned r = .returned ((SV.t (.c (.nm nx))).den e') ∧ Mv nx ⟨.t (.c (.nm nx)), [(true, .own 3 1 zs.length (ivs zs))], [], []⟩ e e' w w' := by
    intro r w' hown hb
    have h1 : r.oneCell' = true := by rcases hown.2 with ⟨rfl, _⟩ | ⟨_, _, _, rfl, _⟩ <;> rfl
    have hfp : ∀ g, r.ownBlock = some g → w.heap.size ≤ g ∧ g < w'.heap.size := by
      intro g hg
      rcases hown.2 with ⟨rfl, _⟩ | ⟨g', _, _, rfl, q1, q2, _⟩
      · cases hg
      · cases hg
        exact ⟨q1, (Array.getElem?_eq_some_iff.1 q2).1⟩
    refine ⟨e.newV nx r, by simp only [SV.den, TV.den, CV.den, Env.newV_val e nx h1], .old ⟨fun n hn => Env.newV_same e (by simp only [List.length_cons, List.length_nil] at hn; omega), hb.os, hb.tape, hb.output, hb.size, fun g hg _ => hb.block g hg, fun j b o hj => ?_, fun i j hi hj hne => ?_, fun n o ho => by cases ho⟩⟩
    · cases j with
      | zero =>
        cases hj
        refine ⟨⟨?_, fun g => ?_⟩, fun g hg => ?_⟩
        · rw [Nat.add_zero, Env.newV_val e nx h1]
          exact ⟨hown.1, hown.2.elim .inl fun ⟨g, cap, cur, q1, _, q3⟩ => .inr ⟨g, cap, cur, q1, Nat.zero_le _, q3⟩⟩
        · rw [Nat.add_zero, Env.newV_fp, Env.newV_val e nx h1]
        · rw [Nat.add_zero, Env.newV_fp] at hg
          exact ⟨(hfp g hg).2, .inl (hfp g hg).1⟩
      | succ j => simp at hj
    · simp at hi hj
      omega
  show Calls _ _ #[v.den e] w _
  rw [hv]
  cases A with
  | none =>
    have hc := hr.2.2.2.1 rfl
    have hz : zs.length = 0 := by have := hr.2.1; omega
    have : zs = [] := List.eq_nil_of_length_eq_zero hz
    subst this
    refine Calls.mono (Tryz.slices_Clone_int_nil 0 c w) ?_
    rintro en w' ⟨rfl, rfl⟩
    exact fin _ _ ⟨rfl, .inl ⟨rfl, rfl⟩⟩ (RowKit.Below.refl _ _)
  | some a =>
    by_cases hz : zs.length = 0
    · have : zs = [] := List.eq_nil_of_length_eq_zero hz
      subst this
      refine Calls.mono (Tryz.slices_Clone_int_zero a c w) ?_
      rintro en w' ⟨r, rfl, ho, _, hb⟩
      exact fin _ _ ho hb
    · have hcell : ∀ j, (h : j < zs.length) → w.cell? (a.add j) = some (.int .i64 zs[j]) := fun j h => by
        obtain ⟨a', ha', hc⟩ := hr.2.2.2.2 j _ (ivs_at h)
        cases ha'
        exact hc
      have ha := rds_spot (hcell 0 (by omega))
      rw [ha] at hcell ⊢
      refine Calls.mono (Tryz.slices_Clone_int a.block a.off zs.length c zs w (Nat.le_refl _) hbig fun j hj => ?_) ?_
      · have := hcell j hj
        rw [lit_add] at this
        rw [this]
        simp [List.getD, hj]
      · rintro en w' ⟨r, rfl, ho, _, hb⟩
        rw [List.take_length] at ho
        exact fin _ _ ho hb
end Cw
