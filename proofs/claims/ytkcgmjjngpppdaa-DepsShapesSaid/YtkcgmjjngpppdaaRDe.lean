/- The statement DepsShapes, by reckoning. -/
import Derived.Test.YtkcgmjjngpppdaaRD9
namespace Vc
open Go Go.RowKit
/-- What is told anew, told in weaker words. -/
def weakU : List (Nat × Option Ob) → List (Nat × Option Ob) → Prop
  | [], [] => True
  | (n, o) :: l, (m, o') :: l' => n = m ∧ (o = o' ∨ ∃ φ φ' : AbP, o = some (.ab φ) ∧ o' = some (.ab φ') ∧ stable φ' ∧ ∀ v F w, φ v F w → φ' v F w) ∧ weakU l l'
  | _, _ => False
theorem weakU_back : ∀ {us us' : List (Nat × Option Ob)}, weakU us us' → ∀ n o', (n, o') ∈ us' → ∃ o, (n, o) ∈ us ∧ (o = o' ∨ ∃ φ φ' : AbP, o = some (.ab φ) ∧ o' = some (.ab φ') ∧ stable φ' ∧ ∀ v F w, φ v F w → φ' v F w)
  | [], [], _, n, o', hm => by cases hm
  | (n, o) :: l, (m, o') :: l', ⟨h1, h2, h3⟩, k, z, hm => by
    rcases List.mem_cons.1 hm with e | hm
    · cases e
      exact ⟨o, by rw [h1]; simp, h2⟩
    · obtain ⟨y, hy, h4⟩ := weakU_back h3 k z hm
      exact ⟨y, List.mem_cons.2 (.inr hy), h4⟩
theorem weakU_to : ∀ {us us' : List (Nat × Option Ob)}, weakU us us' → ∀ n o, (n, o) ∈ us → ∃ o', (n, o') ∈ us' ∧ (o = none → o' = none)
  | [], [], _, n, o', hm => by cases hm
  | (n, o) :: l, (m, o') :: l', ⟨h1, h2, h3⟩, k, z, hm => by
    rcases List.mem_cons.1 hm with e | hm
    · cases e
      refine ⟨o', by rw [h1]; simp, fun h0 => ?_⟩
      rcases h2 with h2 | ⟨φ, φ', h2, _⟩
      · rw [← h2]; exact h0
      · rw [h0] at h2; cases h2
    · obtain ⟨y, hy, h4⟩ := weakU_to h3 k z hm
      exact ⟨y, List.mem_cons.2 (.inr hy), h4⟩
theorem fnh_weakU {P : Program} {f : FuncId} {args : List TV} {H : HL} {nx : Nat} {v : SV} {news : List (Bool × Ob)} {obs : List Prop} {us us' : List (Nat × Option Ob)} (hw : weakU us us') (h : FnH P f args H nx ⟨v, news, us, obs⟩) : FnH P f args H nx ⟨v, news, us', obs⟩ := by
  refine ⟨fun hwf ha e w M => Calls.mono (h.h hwf ha e w M) ?_⟩
  rintro en w' ⟨e', rfl, K⟩
  have holds : ∀ n o', (n, some o') ∈ us' → ∃ o, (n, some o) ∈ us ∧ (o.holds e' n w' → o'.holds e' n w') := fun n o' hm => by
    obtain ⟨o, h1, h2⟩ := weakU_back hw n _ hm
    rcases h2 with h2 | ⟨φ, φ', h2, h3, h4, h5⟩
    · exact ⟨o', by rw [← h2]; exact h1, id⟩
    · cases h3
      exact ⟨.ab φ, by rw [← h2]; exact h1, fun hh => ⟨h5 _ _ _ hh.1, h4⟩⟩
  refine ⟨e', rfl, ?_⟩
  cases K with
  | old K =>
    refine .old ⟨K.agree, K.os, K.tape, K.out, K.size, fun g hg hno => K.block g hg fun n o hm => ?_, fun k b o hk => ?_, K.ndj, fun n o' hm => ?_⟩
    · obtain ⟨o', h1, _⟩ := weakU_to hw n o hm
      exact hno n o' h1
    · obtain ⟨q1, q2⟩ := K.news k b o hk
      refine ⟨q1, fun g hg => ⟨(q2 g hg).1, (q2 g hg).2.imp id fun ⟨n, hn, hf⟩ => ?_⟩⟩
      obtain ⟨o', h1, h2⟩ := weakU_to hw n none hn
      rw [h2 rfl] at h1
      exact ⟨n, h1, hf⟩
    · obtain ⟨o, h1, h2⟩ := holds n o' hm
      exact h2 (K.upd n o h1)
  | anew K =>
    refine .anew ⟨fun n hn => ⟨(K.agree n hn).1, fun hno => (K.agree n hn).2 fun o hm => ?_⟩, K.os, K.tape, K.out, K.size, fun g hg hno => K.block g hg fun n o hm => ?_, fun k b o hk => ?_, fun n o' hm => ?_, K.ndj, fun n o m q hn hm => ?_, fun n o k hn => ?_⟩
    · obtain ⟨o', h1, _⟩ := weakU_to hw n o hm
      exact hno o' h1
    · obtain ⟨o', h1, _⟩ := weakU_to hw n o hm
      exact hno n o' h1
    · obtain ⟨q1, q2⟩ := K.news k b o hk
      refine ⟨q1, fun g hg => ⟨(q2 g hg).1, (q2 g hg).2.imp id fun ⟨n, o, hn, hf⟩ => ?_⟩⟩
      obtain ⟨o', h1, _⟩ := weakU_to hw n o hn
      exact ⟨n, o', h1, hf⟩
    · obtain ⟨o, h1, h2⟩ := holds n o' hm
      obtain ⟨q1, q2⟩ := K.upd n o h1
      refine ⟨h2 q1, fun g hg => ⟨(q2 g hg).1, (q2 g hg).2.imp id fun ⟨n, o, hn, hf⟩ => ?_⟩⟩
      obtain ⟨o', h1, _⟩ := weakU_to hw n o hn
      exact ⟨n, o', h1, hf⟩
    · obtain ⟨o1, h1, _⟩ := holds n o hn
      obtain ⟨o2, h2, _⟩ := holds m q hm
      exact K.udj n o1 m o2 h1 h2
    · obtain ⟨o1, h1, _⟩ := holds n o hn
      exact K.nudj n o1 k h1
end Vc
namespace Cw
open Go Vc
open Go.Proofs
set_option maxRecDepth 100000
theorem DR.mono {V : DV} {W W' : WL} {R : List Ch} (h : DR V W R) (hw : ∀ y ∈ W, y ∈ W') : DR V W' R := ⟨h.eq, fun p hp => hw _ (h.sub p hp), h.ok, h.dep, h.z⟩
theorem RR.mono {V : DV} {W W' : WL} {R : List Ch} (h : RR V W R) (hw : ∀ y ∈ W, y ∈ W') : RR V W' R := ⟨h.eq, fun p hp => hw _ (h.sub p hp), h.dep, h.z, h.zah, h.okp⟩
theorem app_mono {W W' E : WL} (hw : ∀ y ∈ W, y ∈ W') : ∀ y ∈ W ++ E, y ∈ W' ++ E := fun y hy => (List.mem_append.1 hy).elim (fun h => List.mem_append.2 (.inl (hw y h))) fun h => List.mem_append.2 (.inr h)
theorem depT_mono {W W' : WL} {R : List Ch} {b : Nat} (hw : ∀ y ∈ W, y ∈ W') : ∀ v F w, depT W R b v F w → depT W' R b v F w := fun v F w ⟨y, h⟩ => ⟨⟨y.1, y.2.mono (app_mono hw)⟩, h⟩
theorem refT_mono {W W' : WL} {V : DV} {A : Option Addr} {cp : Nat} {R : List Ch} {b : Nat} (hw : ∀ y ∈ W, y ∈ W') : ∀ v F w, refT W V A cp R b v F w → refT W' V A cp R b v F w := fun v F w h => h.elim (fun ⟨⟨hr⟩, h⟩ => .inl ⟨⟨hr.mono hw⟩, h⟩) fun ⟨y, h⟩ => .inr ⟨⟨y.1, y.2.mono (app_mono hw)⟩, h⟩
theorem RR.nil : RR [] [] [] := ⟨rfl, fun p hp => (by cases hp), DepOk.nil, by simp, fun c hc => (by cases hc), fun c hc => (by cases hc)⟩
theorem stepD_len (R : List Ch) (a : DAct) : (stepD R a).length ≤ R.length + 1 := by
  unfold stepD
  split
  · unfold adR; split <;> simp
  · unfold sdR; split
    · rw [setN_len]; omega
    · omega
  · rw [setK_len]; omega
  · rw [setK_len]; omega
def DAct.cells (a : DAct) : List Value := [.int .i64 a.kind, .int .i64 a.at', .int .i64 a.off, .string a.by', .slice a.aA a.ah.length a.am]
abbrev dacells (acts : List DAct) : List Value := fcs DAct.cells acts
def DAct.w (a : DAct) : List Int × Option Addr × Nat := (a.ah, a.aA, a.am)
theorem dacells_rd {acts : List DAct} {i : Nat} (h : i < acts.length) : Vc.rowAt (dacells acts) ((i : Int).toNat * 5) acts[i].cv :=
  have g := fun (j : Nat) (u : Value) (hu : (acts[i].cells)[j]? = some u) => fcs_at (c := 5) (f := DAct.cells) (fun _ => rfl) h hu
  ⟨g 0 _ rfl, g 1 _ rfl, g 2 _ rfl, g 3 _ rfl, g 4 _ rfl, trivial⟩
theorem frz_raw {Wl : WL} {a : DAct} (ha : a.w ∈ Wl) : ∀ v F w, frzP Wl v F w → rawP (.slice a.aA a.ah.length a.am) (ivs a.ah) uv F w := fun v F w h =>
  let ⟨h1, h2⟩ := h _ ha
  ⟨a.aA, a.ah.length, a.am, rfl, h1, fun p hp h0 => h2 p hp (by rw [ivs_length] at h0; exact h0)⟩
theorem nilDp2 {H : HL} {nx d b : Nat} {V : DV} {last : Int} (hd : lookH H d = some (true, .ab (depP V last b))) {Lc : LL} {o : Oper} {x y : Operand} (hop : o.op = .binOp .eql 23 x y 23) (hx : ev Lc x = some (.c (.nm d))) (hy : ev Lc y = some (.c .np)) : Spec Try.prog Lc H nx o ⟨.t (.c (.b false)), [], [], []⟩ :=
  spec_nil tysOk hop hx hy rfl rfl hd (NotNil.pins (dep_pins _ _ b))
theorem rimageS {H : HL} {nx d s q b cp : Nat} {A : Option Addr} {b1 b2 b3 : Bool} {V : DV} {W : WL} {R : List Ch} (hd : lookH H d = some (b3, .ab (rfP A V.length cp b))) (hs : lookH H s = some (b1, .ab (rawS 5 (.slice A V.length cp) (rdc V)))) (hq : lookH H q = some (b2, .ab (frzP W))) (h : RR V W R) (hz : R.length ≤ 1000) (k : Int) (t : ByteArray) :
    FnH Try.prog 12 [.c (.nm d), .c (iT k), .c (.s t)] H nx ⟨.tup [.c (.s (pt t (rdyP R k))), .c (iT (pte t (rdyP R k)))], [], [], []⟩ :=
  fnh_rf (v' := .tup [.c (.s (pt t (rdyP R k))), .c (iT (pte t (rdyP R k)))]) (news' := []) hd hs hq rfl rfl rfl (rimageU (H := hRr V W) (nx := 3) (d := 0) (l := 1) (q := 2) rfl rfl rfl h hz k t)
theorem rviewS {H : HL} {nx d s q b cp : Nat} {A : Option Addr} {b1 b2 b3 : Bool} {V : DV} {W : WL} {R : List Ch} (hd : lookH H d = some (b3, .ab (rfP A V.length cp b))) (hs : lookH H s = some (b1, .ab (rawS 5 (.slice A V.length cp) (rdc V)))) (hq : lookH H q = some (b2, .ab (frzP W))) (h : RR V W R) (hz : R.length ≤ 1000) (k : Int) (t : ByteArray) :
    FnH Try.prog 14 [.c (.nm d), .c (iT k), .c (.s t)] H nx ⟨.tup [.c (.s (pt t (vwP R k))), .c (iT (pte t (vwP R k)))], [], [], []⟩ :=
  fnh_rf (v' := .tup [.c (.s (pt t (vwP R k))), .c (iT (pte t (vwP R k)))]) (news' := []) hd hs hq rfl rfl rfl (rviewU (H := hRr V W) (nx := 3) (d := 0) (l := 1) (q := 2) rfl rfl rfl h hz k t)
theorem rdsG_lt {w : World} {A : Option Addr} {n c s : Nat} {xs : List Value} (h : Vc.Rds w A n c s xs) (a : Addr) (ha : A = some a) (h0 : 0 < xs.length) : a.block < w.heap.size := by
  obtain ⟨_, _, _, _, h5⟩ := h
  obtain ⟨a', h6, h7⟩ := h5 0 xs[0] (by simp [h0])
  rw [ha] at h6
  cases h6
  have hb : (a.add 0).block = a.block := addr_blk a 0
  rcases Nat.lt_or_ge a.block w.heap.size with h | h
  · exact h
  · exfalso
    unfold World.cell? at h7
    rw [hb, Array.getElem?_eq_none h] at h7
    cases h7
theorem memG {w : World} {A1 A2 : Option Addr} {n1 c1 s1 n2 c2 s2 : Nat} {xs1 xs2 : List Value} {Wl : List (List Int × Option Addr × Nat)} (h1 : Vc.Rds w A1 n1 c1 s1 xs1) (h2 : Vc.Rds w A2 n2 c2 s2 xs2) (hf : ∀ y ∈ Wl, Vc.Rds w y.2.1 y.1.length y.2.2 1 (ivs y.1)) :
    ∃ e : Env, MemOk [(0, some (false, .rd s1 n1 xs1)), (1, some (false, .rd s2 n2 xs2)), (2, some (false, .ab (frzP Wl)))] e w ∧ e.val 0 = .slice A1 n1 c1 ∧ e.val 1 = .slice A2 n2 c2 := by
  refine ⟨⟨fun _ => 0, fun q => if q = 0 then .slice A1 n1 c1 else .slice A2 n2 c2, fun q g => if q = 0 then ∃ a, A1 = some a ∧ 0 < xs1.length ∧ g = a.block else if q = 1 then ∃ a, A2 = some a ∧ 0 < xs2.length ∧ g = a.block else ∃ y ∈ Wl, ∃ p, y.2.1 = some p ∧ 0 < y.1.length ∧ g = p.block, fun q => by
      show (if q = 0 then Value.slice A1 n1 c1 else Value.slice A2 n2 c2).oneCell' = true
      split <;> rfl⟩, ⟨fun m b o hm' => ?_, fun m o k c' q hm' hk => ?_⟩, rfl, rfl⟩
  · rw [lookH_cons] at hm'
    split at hm'
    · rename_i h0
      cases hm'
      subst h0
      exact ⟨⟨A1, c1, rfl, h1, fun a ha h0 => ⟨a, ha, h0, rfl⟩⟩, fun g ⟨a, ha, h0, hg⟩ => hg ▸ rdsG_lt h1 a ha h0⟩
    · rw [lookH_cons] at hm'
      split at hm'
      · rename_i h0
        cases hm'
        subst h0
        exact ⟨⟨A2, c2, rfl, h2, fun a ha h0 => ⟨a, ha, h0, rfl⟩⟩, fun g ⟨a, ha, h0, hg⟩ => hg ▸ rdsG_lt h2 a ha h0⟩
      · rw [lookH_cons] at hm'
        split at hm'
        · rename_i h0
          cases hm'
          subst h0
          exact ⟨⟨fun y hy => ⟨hf y hy, fun p hp h0 => ⟨y, hy, p, hp, h0, rfl⟩⟩, frzP_stable Wl⟩, fun g ⟨y, hy, p, hp, h0, hg⟩ => hg ▸ rdsG_lt (hf y hy) p hp (by rw [ivs_length]; exact h0)⟩
        · cases hm'
  · rw [lookH_cons] at hm'
    split at hm'
    · cases hm'
    · rw [lookH_cons] at hm'
      split at hm'
      · cases hm'
      · rw [lookH_cons] at hm'
        split at hm'
        · cases hm'
        · cases hm'
/-- What is kept between two steps. -/
structure Both (acts : List DAct) where
  i : Nat
  R : List Ch
  V : DV
  VR : DV
  A : Option Addr
  cp : Nat
  W : WL
structure BothOk {acts : List DAct} (x : Both acts) : Prop where
  hi : x.i ≤ acts.length
  hm : x.i ≤ 60
  hl : x.R.length ≤ x.i
  d : DR x.V x.W x.R
  r : RR x.VR x.W x.R
def hBo (acts : List DAct) (x : Both acts) (b b' : Nat) : HL := [(0, some (false, .rd 5 acts.length (dacells acts))), (2, some (false, .ab (frzP (acts.map DAct.w)))), (3, some (true, .ab (depP x.V x.R.length b))), (7, some (true, .ab (rfP x.A x.VR.length x.cp b'))), (8, some (true, .ab (frzP x.W))), (5, some (true, .ab (rawS 5 (.slice x.A x.VR.length x.cp) (rdc x.VR))))]
set_option maxRecDepth 100000 in
set_option maxHeartbeats 8000000 in
theorem depsShapes_h (acts : List DAct) (k : Int) (t : ByteArray) (z : acts.length ≤ 100000000000000) (zt : t.size ≤ 9223372036854775807) (ht : ∀ a ∈ acts, a.by'.size ≤ 9223372036854775807 ∧ a.ah.length ≤ 17592186043904) :
    FnH Try.prog 3 [.c (.nm 0), .c (iT k), .c (.s t)] [(0, some (false, .rd 5 acts.length (dacells acts))), (1, some (false, .rd 5 acts.length (dacells acts))), (2, some (false, .ab (frzP (acts.map DAct.w))))] 3 ⟨.t (.c (.b true)), [], [], []⟩ := by
  refine fnR (fn := Try.f3) 99 rfl rfl rfl (args' := [.c (.nm 0), .c (iT k), .c (.s t)]) (H' := [(0, some (false, .rd 5 acts.length (dacells acts))), (1, some (false, .rd 5 acts.length (dacells acts))), (2, some (false, .ab (frzP (acts.map DAct.w))))]) (nx' := 3) (fun e w M => ⟨_, mem_rd (fun n => n) (H' := [(0, some (false, .rd 5 acts.length (dacells acts))), (1, some (false, .rd 5 acts.length (dacells acts))), (2, some (false, .ab (frzP (acts.map DAct.w))))]) ⟨⟨false, rfl⟩, ⟨false, rfl⟩, ⟨false, rfl⟩, trivial⟩ M, rfl⟩) rfl rfl rfl rfl fun w => ?_
  refine rn [(18, .spec ⟨.t (.c (.nm 3)), [(true, .ab (depX [] 0))], [], []⟩), (22, .spec ⟨.t (.c (.b false)), [], [], []⟩), (23, .dec false), (24, .spec ⟨.t (.c (.b true)), [], [], []⟩), (26, .dec false)] rfl (by (repeat' (first | exact trivial | exact rfl | exact newA | exact fun _ => newA | first | exact nilDp rfl rfl rfl rfl | exact dworks_h | rfl | refine And.intro ?_ ?_))) ?_
  refine At.nilCell 4 0 104 5 rfl rfl rfl ?_
  refine At.freezeC (s := 5) (n := 0) (xs := []) (l := 5) 4 0 rfl rfl rfl rd_of_own (by decide) fun A m => ?_
  refine At.pin 4 rfl fun b' => ?_
  refine At.foldR 8 (.p 4 0) [(0, 4), (1, 6)] (rfO A 0 m b') (.p 0 0) rfl (by repeat' (first | exact trivial | exact rfl | refine And.intro ?_ ?_)) (by repeat' (first | exact trivial | exact rfl | refine And.intro ?_ ?_)) rfl rfl (fun _ => rfl) ?_
  refine At.newE (frzP []) uv (frzP_stable _) rfl (fun w p hp => by cases hp) ?_
  refine At.ex 3 rfl (depX_st _ _) fun b => ?_
  refine rn [] rfl (by repeat' (first | exact trivial | exact rfl | refine And.intro ?_ ?_)) ?_
  refine At.loop (X := { x : Both acts // BothOk x }) 9 (fun x => acts.length - x.1.i)
    (fun x => [(0, .t (.c (.nm 0))), (1, .t (.c (iT k))), (2, .t (.c (.s t))), (7, .t (.c (.nm 3))), (8, .t (.c (.nm 7))), (9, .t (.c (iT (x.1.i : Nat))))])
    (fun x => hBo acts x.1 b b') ⟨⟨0, [], [], [], A, m, []⟩, by simp, by simp, by simp, DR.nil, RR.nil⟩ [] (fun x => wf rfl rfl) (by repeat' (first | exact trivial | exact rfl | refine And.intro ?_ ?_)) (by simp only [hBo]; repeat' (first | exact trivial | exact rfl | refine And.intro ?_ ?_)) rfl fun x => ?_
  obtain ⟨⟨i, R, V, VR, A, cp, W⟩, hi, hm, hl, hD, hR⟩ := x
  simp only at hi hm hl hD hR
  have w2 : IntKind.i64.wrap ((i : Int) + 1) = ((i + 1 : Nat) : Int) := by rw [wrap_sm (by omega) (by omega)]; omega
  refine rn [] rfl (by repeat' (first | exact trivial | exact rfl | refine And.intro ?_ ?_)) ?_
  refine ⟨fun h => ?_, fun h => ?_⟩
  · have hlt : i < acts.length := by have := of_decide_eq_true (Bool.and_eq_true_iff.1 h).1; simp only at this; omega
    have h60 : i < 20 := by have := of_decide_eq_true (Bool.and_eq_true_iff.1 h).2; simp only at this; omega
    clear h
    have hrd := dacells_rd hlt
    obtain ⟨ht1, ht2⟩ := ht _ (List.getElem_mem hlt)
    have b0 : (0 : Int) ≤ (i : Int) := by omega
    have b1 : (i : Int) < (acts.length : Int) := by omega
    have b2 : (i : Int).toNat * 5 < (dacells acts).length := by rw [fcs_length (c := 5) fun _ => rfl]; omega
    have hma : (acts[i]).w ∈ acts.map DAct.w := List.mem_map.2 ⟨_, List.getElem_mem hlt, rfl⟩
    generalize acts[i] = a at *
    have hsl := stepD_len R a
    refine At.derive (φ' := rawP (.slice a.aA a.ah.length a.am) (ivs a.ah)) 2 rfl rawP_stable (frz_raw hma) ?_
    have hst := fun (H : HL) (nx : Nat) (q0 : lookH H 3 = some (true, .ab (depP V R.length b))) (q1 : lookH H 7 = some (true, .ab (rfP A VR.length cp b'))) (q2 : lookH H 8 = some (true, .ab (frzP W))) (q3 : lookH H 5 = some (true, .ab (rawS 5 (.slice A VR.length cp) (rdc VR)))) (q4 : lookH H 9 = some (false, .ab (rawP (.slice a.aA a.ah.length a.am) (ivs a.ah)))) => dpstep_h (nx := nx) (a := a) q0 q1 q2 q3 q4 rfl rfl rfl rfl hD hR (by omega) ht1 ht2
    generalize stepD R a = R' at *
    refine rn [(42, .ld a.cv), (43, .spec ⟨.t (.c (.b true)), [], [(3, some (.ab (depT W R' b))), (7, some (.ab (refT W VR A cp R' b')))], []⟩), (20007, .dec true)] rfl (by (repeat' (first | exact trivial | exact rfl | exact trivial | exact fun _ => trivial | first | exact hrd | exact b0 | exact b1 | exact b2 | exact hst _ _ rfl rfl rfl rfl rfl | decide | refine And.intro ?_ ?_))) ?_
    refine At.shareD 3 8 rfl rfl (by decide) fun V1 W1 hD1 hw1 => ?_
    refine At.weak (φ' := refT W1 VR A cp R' b') 7 rfl (refT_st _ _ _ _ _ _) (refT_mono hw1) ?_
    refine At.shareR 7 8 5 rfl rfl rfl (by decide) (by decide) (by decide) fun V2 A2 cp2 W2 hR2 hw2 => ?_
    refine rn [] rfl (by repeat' (first | exact trivial | exact rfl | refine And.intro ?_ ?_)) ?_
    exact roundEnd ⟨⟨i + 1, R', V1, V2, A2, cp2, W2⟩, by show i + 1 ≤ acts.length; omega, by show i + 1 ≤ 60; omega, by show R'.length ≤ i + 1; omega, hD1.mono hw2, hR2⟩ [] (by show acts.length - (i + 1) < acts.length - i; omega) (by (repeat' (first | exact trivial | exact rfl | exact w2 | exact fun _ => w2 | refine And.intro ?_ ?_))) (by simp only [hBo]; repeat' (first | exact trivial | exact rfl | refine And.intro ?_ ?_)) rfl
  · refine rn [] rfl (by repeat' (first | exact trivial | exact rfl | refine And.intro ?_ ?_)) (roundExit rfl ?_)
    have p1 := fun (H : HL) (nx : Nat) (q0 : lookH H 3 = some (true, .ab (depP V R.length b))) (q2 : lookH H 8 = some (true, .ab (frzP W))) => imageP (nx := nx) q0 q2 (by decide) hD k t zt
    have p2 := fun (H : HL) (nx : Nat) (q1 : lookH H 7 = some (true, .ab (rfP A VR.length cp b'))) (q2 : lookH H 8 = some (true, .ab (frzP W))) (q3 : lookH H 5 = some (true, .ab (rawS 5 (.slice A VR.length cp) (rdc VR)))) => rimageS (nx := nx) q1 q3 q2 hR (by omega) k t
    have p3 := fun (H : HL) (nx : Nat) (q0 : lookH H 3 = some (true, .ab (depP V R.length b))) => viewP (nx := nx) q0 hD k t zt
    have p4 := fun (H : HL) (nx : Nat) (q1 : lookH H 7 = some (true, .ab (rfP A VR.length cp b'))) (q2 : lookH H 8 = some (true, .ab (frzP W))) (q3 : lookH H 5 = some (true, .ab (rawS 5 (.slice A VR.length cp) (rdc VR)))) => rviewS (nx := nx) q1 q3 q2 hR (by omega) k t
    have h4 : t.size ≠ 64 → (pte t (rdyP R k) == 4) = true := fun h => by rw [(pt_bad h _).2]; rfl
    generalize pt t (rdyP R k) = a1 at *
    generalize pte t (rdyP R k) = a2 at *
    generalize pt t (vwP R k) = a3 at *
    generalize pte t (vwP R k) = a4 at *
    have x1 := sbs a1
    have x2 : (a2 == a2) = true := beq_self_eq_true _
    have x3 := sbs a3
    have x4 : (a4 == a4) = true := beq_self_eq_true _
    cases hc : ((t.size : Int) == 64) with
    | true =>
      refine rnA [(48, .spec ⟨.tup [.c (.s a1), .c (iT a2)], [], [(3, some (.ab (depP V R.length b)))], []⟩), (55, .spec ⟨.tup [.c (.s a1), .c (iT a2)], [], [], []⟩), (62, .spec ⟨.tup [.c (.s a3), .c (iT a4)], [], [(3, some (.ab (depP V R.length b)))], []⟩), (69, .spec ⟨.tup [.c (.s a3), .c (iT a4)], [], [], []⟩), (75, .dec true), (80, .dec true), (85, .dec true), (90, .dec true), (94, .dec true)] rfl
        (by simp only [hBo]; (repeat' (first | exact trivial | exact rfl | exact trivial | exact fun _ => trivial | first | exact p1 _ _ rfl rfl | exact p2 _ _ rfl rfl rfl | exact p3 _ _ rfl | exact p4 _ _ rfl rfl rfl | exact x1 | exact x2 | exact x3 | exact x4 | exact hc | rfl | decide | refine And.intro ?_ ?_))) ?_
      exact ret0 tysOk rfl (by (repeat' (first | exact trivial | exact rfl | exact hc | exact fun _ => hc | rfl | refine And.intro ?_ ?_))) rfl
    | false =>
      have h5 := h4 fun h => by rw [h] at hc; cases hc
      refine rnA [(48, .spec ⟨.tup [.c (.s a1), .c (iT a2)], [], [(3, some (.ab (depP V R.length b)))], []⟩), (55, .spec ⟨.tup [.c (.s a1), .c (iT a2)], [], [], []⟩), (62, .spec ⟨.tup [.c (.s a3), .c (iT a4)], [], [(3, some (.ab (depP V R.length b)))], []⟩), (69, .spec ⟨.tup [.c (.s a3), .c (iT a4)], [], [], []⟩), (75, .dec true), (80, .dec true), (85, .dec true), (90, .dec true), (94, .dec false)] rfl
        (by simp only [hBo]; (repeat' (first | exact trivial | exact rfl | exact trivial | exact fun _ => trivial | first | exact p1 _ _ rfl rfl | exact p2 _ _ rfl rfl rfl | exact p3 _ _ rfl | exact p4 _ _ rfl rfl rfl | exact x1 | exact x2 | exact x3 | exact x4 | exact hc | rfl | decide | refine And.intro ?_ ?_))) ?_
      exact ret0 tysOk rfl (by (repeat' (first | exact trivial | exact rfl | exact h5 | exact fun _ => h5 | exact h5 | refine And.intro ?_ ?_))) rfl
theorem depsShapes_true (acts : List DAct) (k : Int) (t : ByteArray) (A1 : Option Addr) (c1 : Nat) (w : World) (zl : acts.length ≤ 100000000000000) (zt : t.size ≤ 9223372036854775807) (ht : ∀ a ∈ acts, a.by'.size ≤ 9223372036854775807 ∧ a.ah.length ≤ 17592186043904) (hm : ∀ a ∈ acts, Vc.Rds w a.aA a.ah.length a.am 1 (ivs a.ah)) (h1 : Vc.Rds w A1 acts.length c1 5 (dacells acts)) :
    Calls Try.prog 3 #[.slice A1 acts.length c1, .int .i64 k, .string t] w fun e w' => e = .returned (.bool true) ∧ RowKit.Below w.heap.size w w' := by
  obtain ⟨e, M, v0, _⟩ := memG (Wl := acts.map DAct.w) h1 h1 fun y hy => by
    obtain ⟨a, ha, rfl⟩ := List.mem_map.1 hy
    exact hm a ha
  have := fnh_law (depsShapes_h acts k t zl zt ht) rfl rfl M
  rw [show ([.c (.nm 0), .c (iT k), .c (.s t)] : List TV).map (TV.den e) = [e.val 0, .int .i64 k, .string t] from rfl, v0] at this
  exact this
end Cw
