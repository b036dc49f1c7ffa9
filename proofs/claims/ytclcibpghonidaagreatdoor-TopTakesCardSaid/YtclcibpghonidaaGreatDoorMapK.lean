/- slices.Sorted(maps.Keys(m)) at maps from integers: laid on the library's contracts; the keys of a map that is told by a name. -/
import Derived.Shelf.SlIterI.Nil
import Derived.Test.YtclcibpghonidaaGreatDoorShelf
import Derived.Test.YtclcibpghonidaaGreatDoorSlV
import Derived.Test.YtclcibpghonidaaGreatDoorVcAb
namespace Cw
open Go Vc
open Go.Proofs
set_option maxRecDepth 100000
def srtI (l : List Int) : List Int := l.mergeSort fun x y => decide (x ≤ y)
theorem srtI_sorted {l : List Int} (h : l.Pairwise (· < ·)) : srtI l = l := by
  refine List.Perm.eq_of_pairwise (le := fun a b : Int => a ≤ b) (fun a b _ _ h1 h2 => Int.le_antisymm h1 h2) ?_ (h.imp fun h => Int.le_of_lt h) (List.mergeSort_perm _ _)
  have := List.pairwise_mergeSort (le := fun x y : Int => decide (x ≤ y)) (fun a b c h1 h2 => by simp at *; omega) (fun a b => by simp; omega) l
  exact this.imp fun h => by simpa using h
theorem insert_perm {H : Type} (x : Lit × DataW H) : ∀ l : List (Lit × DataW H), (DataW.insert x l).Perm (x :: l)
  | [] => List.Perm.refl _
  | y :: r => by
    unfold DataW.insert
    split
    · exact List.Perm.refl _
    · exact ((insert_perm x r).cons y).trans (List.Perm.swap x y r)
theorem inserts_perm {H : Type} : ∀ l : List (Lit × DataW H), (l.foldr DataW.insert []).Perm l
  | [] => List.Perm.refl _
  | x :: l => (insert_perm x _).trans ((inserts_perm l).cons x)
def rNil : Value → Option (DataW Unit × List MemPlace) := fun _ => some (.nil, [])
/-- A map from integers, read by the kit's word. -/
theorem mapIs_owns {P : Program} {kt : TypeId} {w : World} {b : Nat} {m : List (Int × Value)} (hk : P.underlying kt = some (.int .i64)) (h : MapIs w b m) (hz : m.length ≤ maxLen) : ∃ D : DataW Unit, w.ownsMap P kt rNil b m.length D ∧ (intKeys D).Perm (m.map Prod.fst) ∧ Maps.size D = m.length := by
  obtain ⟨es, clock, h1, h2, h3, h4⟩ := h
  have hlen : es.size = m.length := by have := congrArg List.length h3; simpa using this
  have hkey : ∀ x ∈ es.toList, ∃ p ∈ m, x.key = .int .i64 p.1 := by
    intro x hx
    have : mkv x ∈ m.map mpe := by rw [← h3]; exact List.mem_map.2 ⟨x, hx, rfl⟩
    obtain ⟨p, hp, he⟩ := List.mem_map.1 this
    exact ⟨p, hp, (congrArg Prod.fst he).symm⟩
  have hwf : ∀ p ∈ m, (Lit.int .i64 p.1).wf = true := by
    intro p hp
    have := h4 p hp
    unfold inI64 at this
    simp only [Lit.wf, show IntKind.i64.min = -9223372036854775808 from rfl, show IntKind.i64.max = 9223372036854775807 from rfl, Bool.and_eq_true, decide_eq_true_eq]
    exact this
  have hrd : ∀ x ∈ es.toList, ∀ p : Int × Value, x.key = .int .i64 p.1 → (Lit.int .i64 p.1).wf = true → WideElems.rd P kt rNil x = some (.int .i64 p.1, .nil) := by
    intro x hx p hp hw
    simp [WideElems.rd, rNil, hp, keyOf, hk, mapKey, hw]
  refine ⟨_, ⟨es, clock, h1, ⟨by omega, h2, fun x hx => ?_⟩, by omega, rfl⟩, ?_, ?_⟩
  · obtain ⟨p, hp, he⟩ := hkey x hx
    exact ⟨_, hrd x hx p he (hwf p hp)⟩
  · refine ((inserts_perm _).map _).trans ?_
    have : (es.toList.map (WideElems.rg P kt rNil)).map (fun p : Lit × DataW Unit => Go.intOf p.1) = m.map Prod.fst := by
      have hm : m.map Prod.fst = (m.map mpe).map (fun q => match q.1 with | .int _ a => a | _ => 0) := by rw [List.map_map]; rfl
      rw [hm, ← h3, List.map_map, List.map_map]
      refine List.map_congr_left fun x hx => ?_
      obtain ⟨p, hp, he⟩ := hkey x hx
      simp only [Function.comp_apply, mkv, he]
      rw [WideElems.rg_of (hrd x hx p he (hwf p hp))]
      rfl
    rw [this]
  · simp only [Maps.size]
    rw [(inserts_perm _).length_eq]
    simpa using hlen
theorem srtI_perm {a b : List Int} (h : a.Perm b) : srtI a = srtI b := mergeSort_of_perm_i h
theorem srtI_length (l : List Int) : (srtI l).length = l.length := List.length_mergeSort l
/-- The keys of a map: what comes out is called later on. -/
theorem sorted_of {P : Program} {ρ : Go.Shelf.Ren} {f g : FuncId} {kt : TypeId} (hf : ρ.f 6 = f) (hg : ρ.f 10 = g) (hkt : ρ.t 26 = kt) (L6 : SlLaysZI.n6 P ρ) (L7 : SlLaysZI.n7 P ρ) (hs : ∀ m, AnyZI.SortsIn P ρ Fence.wide m) (e9 : ∀ args w, (callFunc (ρ.f 9) args).run P w = .ok (.enter (ρ.f 9) args) w) (e10 : ∀ args w, (callFunc (ρ.f 10) args).run P w = .ok (.enter (ρ.f 10) args) w)
    {H : HL} {nx q k : Nat} {b1 b2 : Bool} {T : TypeId} {m : List (Int × Value)} (hq : lookH H q = some (b1, .cells [.mp k] T)) (hm : lookH H k = some (b2, .mp m)) (hz : m.length ≤ 1000000) :
    FnH P f [.c (.fn (.func g) [(q, 0)])] H nx ⟨.t (.c (.nm nx)), [(true, .own kt 1 m.length (ivs (srtI (m.map Prod.fst))))], [], []⟩ := by
  subst hf hg hkt
  refine ⟨fun hwf _ e w M => ?_⟩
  obtain ⟨⟨hfq, hcq⟩, hltq⟩ := M.ob q b1 _ hq
  obtain ⟨⟨hfk, hmk⟩, hltk⟩ := M.ob k b2 _ hm
  have hBm : e.blk q < w.heap.size := hltq _ ((hfq _).2 rfl)
  have hcell : w.cell? ⟨e.blk q, 0, none⟩ = some (.map (some (e.blk k))) := by
    have := cell_of_row w (e.blk q) 0 _ T (0, 0) hcq
    rw [this]
    rfl
  obtain ⟨D, hown, hperm, hsize⟩ := mapIs_owns (P := P) (kt := ρ.t 26) L6.t26 hmk (by simp [maxLen]; omega)
  have hseq : SeqGives Fence.wide 2 P (ρ.f 10) #[.pointer (some ⟨e.blk q, 0, none⟩)] encZ (fun ss => ss.Perm (intKeys D)) (Maps.size D) w :=
    AnyZI.keys_gives { L7 with } Fence.wide _ trivial rfl (by omega) (e.blk q) (e.blk k) m.length D w hBm hcell hown
  have cS := AnyZI.sorted_in L6 Fence.wide 5 trivial trivial trivial trivial rfl (by omega) (hs _) e9 (ρ.f 10) #[.pointer (some ⟨e.blk q, 0, none⟩)] trivial e10 _ _ (by rw [hsize]; simp [maxLen]; omega) (by rw [hsize]; omega) w hseq
  refine Calls.mono (callsIn_wide.1 cS) ?_
  rintro en w' ⟨v, ss, rfl, hS, hrow, hnil, hb⟩
  have hss : ss.mergeSort (fun x y => decide (x ≤ y)) = srtI (m.map Prod.fst) := mergeSort_of_perm_i (hS.trans hperm)
  have hl : ss.length = m.length := by
    have := hS.length_eq.trans hperm.length_eq
    simpa using this
  rw [hss, hl] at hrow
  have h1v := own_one hrow
  refine ⟨e.newV nx v, ?_, Mv.own (row := none) ⟨hb.os, hb.tape, hb.output, hb.size, fun g hg _ => hb.block g hg⟩ (own_down hrow) (fun g hg => by cases hg) (fun g hg => .inr (hrow.lt g hg).1) (fun n o ho => by cases ho)⟩
  simp only [SV.den, TV.den, CV.den, Env.newV_val _ _ h1v]
/-- maps.Keys. -/
theorem keys_of {P : Program} {ρ : Go.Shelf.Ren} {f g : FuncId} {mt : TypeId} (hf : ρ.f 7 = f) (hg : ρ.f 10 = g) (hmt : ρ.t 23 = mt) (L7 : SlLaysZI.n7 P ρ) {H : HL} {nx k : Nat} :
    FnH P f [.c (.mp k)] H nx ⟨.t (.c (.fn (.func g) [(nx, 0)])), [(true, .cells [.mp k] mt)], [], []⟩ := by
  subst hf hg hmt
  refine ⟨fun _ hargs e w M => ?_⟩
  have hk : k < nx := hargs _ (List.mem_singleton.2 rfl) k (by simp [TV.ns, CV.ns])
  have c7 := callsIn_wide.1 (AnyZI.keys_in L7 Fence.wide 1 trivial rfl (some (e.blk k)) w)
  refine Calls.mono c7 ?_
  rintro en w' ⟨rfl, rfl⟩
  refine ⟨e.new nx w.heap.size, ?_, Mv.new ⟨fun g => Env.new_fp e nx _ g, ?_⟩⟩
  · simp [SV.den, TV.den, CV.den, Env.new_blk]
  · rw [Env.new_blk]
    have hne : (e.new nx w.heap.size).blk k = e.blk k := (Env.new_same e (show k ≠ nx by omega)).1
    simp only [List.map_cons, List.map_nil, CV.den, hne]
    exact heap_alloc_new w _
end Cw
namespace Cw
open Go Vc
open Go.Proofs
set_option maxRecDepth 100000
end Cw
