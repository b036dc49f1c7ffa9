/- The statement DepsShapes, by reckoning. -/
import Derived.Test.YtkmgnfgcgfafcaaRD9
namespace Vc
open Go Go.RowKit
/-- What is told anew, told in weaker words. -/
def weakU : List (Nat × Option Ob) → List (Nat × Option Ob) → Prop
  | [], [] => True
  | (n, o) :: l, (m, o') :: l' => n = m ∧ (o = o' ∨ ∃ φ φ' : AbP, o = some (.ab φ) ∧ o' = some (.ab φ') ∧ stable φ' ∧ ∀ v F w, φ v F w → φ' v F w) ∧ weakU l l'
  | _, _ => False
theorem weakU_back : ∀ {us us' : List (Nat × Option Ob)}, weakU us us' → ∀ n o', (n, o') ∈ us' → ∃ o, (n, o) ∈ us ∧ (o = o' ∨ ∃ φ φ' : AbP, o = some (.ab φ) ∧ o' = some (.ab φ') ∧ stable φ' ∧ ∀ v F w, φ v F w → φ' v F w)
  | [], [], _, n, o', hm => by cases hm
  | (n, o) :: l, (m, o') :: l', ⟨h1, h2, h3⟩, k, z, hm => by
    rcases List.mem_cons.1 hm with e | hm
    · cases e
      exact ⟨o, by rw [h1]; simp, h2⟩
    · obtain ⟨y, hy, h4⟩ := weakU_back h3 k z hm
      exact ⟨y, List.mem_cons.2 (.inr hy), h4⟩
theorem weakU_to : ∀ {us us' : List (Nat × Option Ob)}, weakU us us' → ∀ n o, (n, o) ∈ us → ∃ o', (n, o') ∈ us' ∧ (o = none → o' = none)
  | [], [], _, n, o', hm => by cases hm
  | (n, o) :: l, (m, o') :: l', ⟨h1, h2, h3⟩, k, z, hm => by
    rcases List.mem_cons.1 hm with e | hm
    · cases e
      refine ⟨o', by rw [h1]; simp, fun h0 => ?_⟩
      rcases h2 with h2 | ⟨φ, φ', h2, _⟩
      · rw [← h2]; exact h0
      · rw [h0] at h2; cases h2
    · obtain ⟨y, hy, h4⟩ := weakU_to h3 k z hm
      exact ⟨y, List.mem_cons.2 (.inr hy), h4⟩
theorem fnh_weakU {P : Program} {f : FuncId} {args : List TV} {H : HL} {nx : Nat} {v : SV} {news : List (Bool × Ob)} {obs : List Prop} {us us' : List (Nat × Option Ob)} (hw : weakU us us') (h : FnH P f args H nx ⟨v, news, us, obs⟩) : FnH P f args H nx ⟨v, news, us', obs⟩ := by
  refine ⟨fun hwf ha e w M => Calls.mono (h.h hwf ha e w M) ?_⟩
  rintro en w' ⟨e', rfl, K⟩
  have holds : ∀ n o', (n, some o') ∈ us' → ∃ o, (n, some o) ∈ us ∧ (o.holds e' n w' → o'.holds e' n w') := fun n o' hm => by
    obtain ⟨o, h1, h2⟩ := weakU_back hw n _ hm
    rcases h2 with h2 | ⟨φ, φ', h2, h3, h4, h5⟩
    · exact ⟨o', by rw [← h2]; exact h1, id⟩
    · cases h3
      exact ⟨.ab φ, by rw [← h2]; exact h1, fun hh => ⟨h5 _ _ _ hh.1, h4⟩⟩
  refine ⟨e', rfl, ?_⟩
  cases K with
  | old K =>
    refine .old ⟨K.agree, K.os, K.tape, K.out, K.size, fun g hg hno => K.block g hg fun n o hm => ?_, fun k b o hk => ?_, K.ndj, fun n o' hm => ?_⟩
    · obtain ⟨o', h1, _⟩ := weakU_to hw n o hm
      exact hno n o' h1
    · obtain ⟨q1, q2⟩ := K.news k b o hk
      refine ⟨q1, fun g hg => ⟨(q2 g hg).1, (q2 g hg).2.imp id fun ⟨n, hn, hf⟩ => ?_⟩⟩
      obtain ⟨o', h1, h2⟩ := weakU_to hw n none hn
      rw [h2 rfl] at h1
      exact ⟨n, h1, hf⟩
    · obtain ⟨o, h1, h2⟩ := holds n o' hm
      exact h2 (K.upd n o h1)
  | anew K =>
    refine .anew ⟨fun n hn => ⟨(K.agree n hn).1, fun hno => (K.agree n hn).2 fun o hm => ?_⟩, K.os, K.tape, K.out, K.size, fun g hg hno => K.block g hg fun n o hm => ?_, fun k b o hk => ?_, fun n o' hm => ?_, K.ndj, fun n o m q hn hm => ?_, fun n o k hn => ?_⟩
    · obtain ⟨o', h1, _⟩ := weakU_to hw n o hm
      exact hno o' h1
    · obtain ⟨o', h1, _⟩ := weakU_to hw n o hm
      exact hno n o' h1
    · obtain ⟨q1, q2⟩ := K.news k b o hk
      refine ⟨q1, fun g hg => ⟨(q2 g hg).1, (q2 g hg).2.imp id fun ⟨n, o, hn, hf⟩ => ?_⟩⟩
      obtain ⟨o', h1, _⟩ := weakU_to hw n o hn
      exact ⟨n, o', h1, hf⟩
    · obtain ⟨o, h1, h2⟩ := holds n o' hm
      obtain ⟨q1, q2⟩ := K.upd n o h1
      refine ⟨h2 q1, fun g hg => ⟨(q2 g hg).1, (q2 g hg).2.imp id fun ⟨n, o, hn, hf⟩ => ?_⟩⟩
      obtain ⟨o', h1, _⟩ := weakU_to hw n o hn
      exact ⟨n, o', h1, hf⟩
    · obtain ⟨o1, h1, _⟩ := holds n o hn
      obtain ⟨o2, h2, _⟩ := holds m q hm
      exact K.udj n o1 m o2 h1 h2
    · obtain ⟨o1, h1, _⟩ := holds n o hn
      exact K.nudj n o1 k h1
end Vc
namespace Cw
open Go Vc
open Go.Proofs
set_option maxRecDepth 100000
theorem DR.mono {V : DV} {W W' : WL} {R : List Ch} (h : DR V W R) (hw : ∀ y ∈ W, y ∈ W') : DR V W' R := ⟨h.eq, fun p hp => hw _ (h.sub p hp), h.ok, h.dep, h.z⟩
theorem RR.mono {V : DV} {W W' : WL} {R : List Ch} (h : RR V W R) (hw : ∀ y ∈ W, y ∈ W') : RR V W' R := ⟨h.eq, fun p hp => hw _ (h.sub p hp), h.dep, h.z, h.zah, h.okp⟩
theorem app_mono {W W' E : WL} (hw : ∀ y ∈ W, y ∈ W') : ∀ y ∈ W ++ E, y ∈ W' ++ E := fun y hy => (List.mem_append.1 hy).elim (fun h => List.mem_append.2 (.inl (hw y h))) fun h => List.mem_append.2 (.inr h)
theorem depT_mono {W W' : WL} {R : List Ch} {b : Nat} (hw : ∀ y ∈ W, y ∈ W') : ∀ v F w, depT W R b v F w → depT W' R b v F w := fun v F w ⟨y, h⟩ => ⟨⟨y.1, y.2.mono (app_mono hw)⟩, h⟩
theorem refT_mono {W W' : WL} {V : DV} {A : Option Addr} {cp : Nat} {R : List Ch} {b : Nat} (hw : ∀ y ∈ W, y ∈ W') : ∀ v F w, refT W V A cp R b v F w → refT W' V A cp R b v F w := fun v F w h => h.elim (fun ⟨⟨hr⟩, h⟩ => .inl ⟨⟨hr.mono hw⟩, h⟩) fun ⟨y, h⟩ => .inr ⟨⟨y.1, y.2.mono (app_mono hw)⟩, h⟩
theorem RR.nil : RR [] [] [] := ⟨rfl, fun p hp => (by cases hp), DepOk.nil, by simp, fun c hc => (by cases hc), fun c hc => (by cases hc)⟩
theorem stepD_len (R : List Ch) (a : DAct) : (stepD R a).length ≤ R.length + 1 := by
  unfold stepD
  split
  · unfold adR; split <;> simp
  · unfold sdR; split
    · rw [setN_len]; omega
    · omega
  · rw [setK_len]; omega
  · rw [setK_len]; omega
def DAct.cells (a : DAct) : List Value := [.int .i64 a.kind, .int .i64 a.at', .int .i64 a.off, .string a.by', .slice a.aA a.ah.length a.am]
abbrev dacells (acts : List DAct) : List Value := fcs DAct.cells acts
def DAct.w (a : DAct) : List Int × Option Addr × Nat := (a.ah, a.aA, a.am)
theorem dacells_rd {acts : List DAct} {i : Nat} (h : i < acts.length) : Vc.rowAt (dacells acts) ((i : Int).toNat * 5) acts[i].cv :=
  have g := fun (j : Nat) (u : Value) (hu : (acts[i].cells)[j]? = some u) => fcs_at (c := 5) (f := DAct.cells) (fun _ => rfl) h hu
  ⟨g 0 _ rfl, g 1 _ rfl, g 2 _ rfl, g 3 _ rfl, g 4 _ rfl, trivial⟩
theorem frz_raw {Wl : WL} {a : DAct} (ha : a.w ∈ Wl) : ∀ v F w, frzP Wl v F w → rawP (.slice a.aA a.ah.length a.am) (ivs a.ah) uv F w := fun v F w h =>
  let ⟨h1, h2⟩ := h _ ha
  ⟨a.aA, a.ah.length, a.am, rfl, h1, fun p hp h0 => h2 p hp (by rw [ivs_length] at h0; exact h0)⟩
theorem nilDp2 {H : HL} {nx d b : Nat} {V : DV} {last : Int} (hd : lookH H d = some (true, .ab (depP V last b))) {Lc : LL} {o : Oper} {x y : Operand} (hop : o.op = .binOp .eql 23 x y 23) (hx : ev Lc x = some (.c (.nm d))) (hy : ev Lc y = some (.c .np)) : Spec Try.prog Lc H nx o ⟨.t (.c (.b false)), [], [], []⟩ :=
  spec_nil tysOk hop hx hy rfl rfl hd (NotNil.pins (dep_pins _ _ b))
theorem rimageS {H : HL} {nx d s q b cp : Nat} {A : Option Addr} {b1 b2 b3 : Bool} {V : DV} {W : WL} {R : List Ch} (hd : lookH H d = some (b3, .ab (rfP A V.length cp b))) (hs : lookH H s = some (b1, .ab (rawS 5 (.slice A V.length cp) (rdc V)))) (hq : lookH H q = some (b2, .ab (frzP W))) (h : RR V W R) (hz : R.length ≤ 1000) (k : Int) (t : ByteArray) :
    FnH Try.prog 29 [.c (.nm d), .c (iT k), .c (.s t)] H nx ⟨.tup [.c (.s (pt t (rdyP R k))), .c (iT (pte t (rdyP R k)))], [], [], []⟩ :=
  fnh_rf (v' := .tup [.c (.s (pt t (rdyP R k))), .c (iT (pte t (rdyP R k)))]) (news' := []) hd hs hq rfl rfl rfl (rimageU (H := hRr V W) (nx := 3) (d := 0) (l := 1) (q := 2) rfl rfl rfl h hz k t)
theorem rviewS {H : HL} {nx d s q b cp : Nat} {A : Option Addr} {b1 b2 b3 : Bool} {V : DV} {W : WL} {R : List Ch} (hd : lookH H d = some (b3, .ab (rfP A V.length cp b))) (hs : lookH H s = some (b1, .ab (rawS 5 (.slice A V.length cp) (rdc V)))) (hq : lookH H q = some (b2, .ab (frzP W))) (h : RR V W R) (hz : R.length ≤ 1000) (k : Int) (t : ByteArray) :
    FnH Try.prog 31 [.c (.nm d), .c (iT k), .c (.s t)] H nx ⟨.tup [.c (.s (pt t (vwP R k))), .c (iT (pte t (vwP R k)))], [], [], []⟩ :=
  fnh_rf (v' := .tup [.c (.s (pt t (vwP R k))), .c (iT (pte t (vwP R k)))]) (news' := []) hd hs hq rfl rfl rfl (rviewU (H := hRr V W) (nx := 3) (d := 0) (l := 1) (q := 2) rfl rfl rfl h hz k t)
theorem rdsG_lt {w : World} {A : Option Addr} {n c s : Nat} {xs : List Value} (h : Vc.Rds w A n c s xs) (a : Addr) (ha : A = some a) (h0 : 0 < xs.length) : a.block < w.heap.size := by
  obtain ⟨_, _, _, _, h5⟩ := h
  obtain ⟨a', h6, h7⟩ := h5 0 xs[0] (by simp [h0])
  rw [ha] at h6
  cases h6
  have hb : (a.add 0).block = a.block := addr_blk a 0
  rcases Nat.lt_or_ge a.block w.heap.size with h | h
  · exact h
  · exfalso
    unfold World.cell? at h7
    rw [hb, Array.getElem?_eq_none h] at h7
    cases h7
theorem memG {w : World} {A1 A2 : Option Addr} {n1 c1 s1 n2 c2 s2 : Nat} {xs1 xs2 : List Value} {Wl : List (List Int × Option Addr × Nat)} (h1 : Vc.Rds w A1 n1 c1 s1 xs1) (h2 : Vc.Rds w A2 n2 c2 s2 xs2) (hf : ∀ y ∈ Wl, Vc.Rds w y.2.1 y.1.length y.2.2 1 (ivs y.1)) :
    ∃ e : Env, MemOk [(0, some (false, .rd s1 n1 xs1)), (1, some (false, .rd s2 n2 xs2)), (2, some (false, .ab (frzP Wl)))] e w ∧ e.val 0 = .slice A1 n1 c1 ∧ e.val 1 = .slice A2 n2 c2 := by
  refine ⟨⟨fun _ => 0, fun q => if q = 0 then .slice A1 n1 c1 else .slice A2 n2 c2, fun q g => if q = 0 then ∃ a, A1 = some a ∧ 0 < xs1.length ∧ g = a.block else if q = 1 then ∃ a, A2 = some a ∧ 0 < xs2.length ∧ g = a.block else ∃ y ∈ Wl, ∃ p, y.2.1 = some p ∧ 0 < y.1.length ∧ g = p.block, fun q => by
      show (if q = 0 then Value.slice A1 n1 c1 else Value.slice A2 n2 c2).oneCell' = true
      split <;> rfl⟩, ⟨fun m b o hm' => ?_, fun m o k c' q hm' hk => ?_⟩, rfl, rfl⟩
  · rw [lookH_cons] at hm'
    split at hm'
    · rename_i h0
      cases hm'
      subst h0
      exact ⟨⟨A1, c1, rfl, h1, fun a ha h0 => ⟨a, ha, h0, rfl⟩⟩, fun g ⟨a, ha, h0, hg⟩ => hg ▸ rdsG_lt h1 a ha h0⟩
    · rw [lookH_cons] at hm'
      split at hm'
      · rename_i h0
        cases hm'
        subst h0
        exact ⟨⟨A2, c2, rfl, h2, fun a ha h0 => ⟨a, ha, h0, rfl⟩⟩, fun g ⟨a, ha, h0, hg⟩ => hg ▸ rdsG_lt h2 a ha h0⟩
      · rw [lookH_cons] at hm'
        split at hm'
        · rename_i h0
          cases hm'
          subst h0
          exact ⟨⟨fun y hy => ⟨hf y hy, fun p hp h0 => ⟨y, hy, p, hp, h0, rfl⟩⟩, frzP_stable Wl⟩, fun g ⟨y, hy, p, hp, h0, hg⟩ => hg ▸ rdsG_lt (hf y hy) p hp (by rw [ivs_length]; exact h0)⟩
        · cases hm'
  · rw [lookH_cons] at hm'
    split at hm'
    · cases hm'
    · rw [lookH_cons] at hm'
      split at hm'
      · cases hm'
      · rw [lookH_cons] at hm'
        split at hm'
        · cases hm'
        · cases hm'
/-- What is kept between two steps. -/
structure Both (acts : List DAct) where
  i : Nat
  R : List Ch
  V : DV
  VR : DV
  A : Option Addr
  cp : Nat
  W : WL
structure BothOk {acts : List DAct} (x : Both acts) : Prop where
  hi : x.i ≤ acts.length
  hm : x.i ≤ 60
  hl : x.R.length ≤ x.i
  d : DR x.V x.W x.R
  r : RR x.VR x.W x.R
def hBo (acts : List DAct) (x : Both acts) (b b' : Nat) : HL := [(0, some (false, .rd 5 acts.length (dacells acts))), (2, some (false, .ab (frzP (acts.map DAct.w)))), (3, some (true, .ab (depP x.V x.R.length b))), (7, some (true, .ab (rfP x.A x.VR.length x.cp b'))), (8, some (true, .ab (frzP x.W))), (5, some (true, .ab (rawS 5 (.slice x.A x.VR.length x.cp) (rdc x.VR))))]
end Cw
