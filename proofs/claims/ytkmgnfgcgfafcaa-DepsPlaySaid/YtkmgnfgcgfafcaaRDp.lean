/- The statement DepsPlay, by reckoning. -/
import Derived.Test.YtkmgnfgcgfafcaaRDe
namespace Cw
open Go Vc
open Go.Proofs
set_option maxRecDepth 100000
section
variable {H : HL} {nx d r q s m b b' cp : Nat} {A : Option Addr} {b1 b2 b3 : Bool} {V VR : DV} {W : WL} {R : List Ch}
def refX (W : WL) (VR : DV) (A : Option Addr) (cp : Nat) (R : List Ch) : AbP := exP (refT W VR A cp R)
theorem dpstepX {a : DAct} (hd : lookH H d = some (true, .ab (depP V R.length b))) (hr : lookH H r = some (true, .ab (rfX A VR.length cp))) (hq : lookH H q = some (b1, .ab (frzP W))) (hs : lookH H s = some (b2, .ab (rawS 5 (.slice A VR.length cp) (rdc VR)))) (hm : lookH H m = some (b3, .ab (rawP (.slice a.aA a.ah.length a.am) (ivs a.ah))))
    (hn : inL r [d] = false) (hqn : inL q [d, r] = false) (hsn : inL s [d, r] = false) (hmn : inL m [d, r] = false) (hD : DR V W R) (hR : RR VR W R) (zr : R.length ≤ 500) (zt : a.by'.size ≤ 9223372036854775807) (za : a.ah.length ≤ 17592186043904) :
    FnH Try.prog 7 [.c (.nm d), .c (.nm r), .agg a.cv] H nx ⟨.t (.c (.b true)), [], [(d, some (.ab (depT W (stepD R a) b))), (r, some (.ab (refX W VR A cp (stepD R a))))], []⟩ := by
  have n1 : r ≠ d := by have := inL_iff hn; simpa using this
  have n2 := inL_iff hqn
  have n3 := inL_iff hsn
  have n4 := inL_iff hmn
  simp only [List.mem_cons, List.not_mem_nil, or_false, not_or] at n2 n3 n4
  exact fnh_ex2 hr (rfX_st _ _ _) fun b' => fnh_weakU (us := [(d, some (.ab (depT W (stepD R a) b))), (r, some (.ab (refT W VR A cp (stepD R a) b')))]) ⟨rfl, .inl rfl, rfl, .inr ⟨_, _, rfl, rfl, exP_stable (refT_st _ _ _ _ _), fun v F w h => ⟨b', h⟩⟩, trivial⟩
    (dpstep_h ((look_ne n1).trans hd) look_eq ((look_ne (fun h => n2.2 h.symm)).trans hq) ((look_ne (fun h => n3.2 h.symm)).trans hs) ((look_ne (fun h => n4.2 h.symm)).trans hm) hn hqn hsn hmn hD hR zr zt za)
theorem addT {at' o : Int} {t : ByteArray} (hd : lookH H d = some (true, .ab (depP V R.length b))) (zt : t.size ≤ 9223372036854775807) (h : DR V W R) (zr : R.length ≤ 500) :
    FnH Try.prog 10 [.c (.nm d), .c (iT at'), .agg [iT o, .s t], .c .nsl] H nx ⟨.tup [.c (iT (adN R V.length at' o t [])), .c (iT (adB R.length at' o t V.length []))], [], [(d, some (.ab (depT W (adR R V.length at' o t []) b)))], []⟩ := by
  have hle := h.le
  by_cases he : adB R.length at' o t V.length [] = 0
  · rw [show adR R V.length at' o t [] = R ++ [newC (und R) R.length at' (o, t) []] from if_pos he, show adN R V.length at' o t [] = (R.length : Int) + 1 from if_pos he, he]
    exact fnh_weakU (us := [(d, some (.ab (adP V R.length b (newC (und R) R.length at' (o, t) []))))]) ⟨rfl, .inr ⟨_, _, rfl, rfl, depT_st _ _ _, depT_new fun v => by
      have := h.add he (by simp; omega) zt (by omega) v
      rw [h.eq] at this
      exact this⟩, trivial⟩ (addP hd SlQ.nil (by simp; omega) zt h he)
  · rw [show adR R V.length at' o t [] = R from if_neg he, show adN R V.length at' o t [] = 0 from if_neg he]
    exact fnh_weakU (us := [(d, some (.ab (depP V R.length b)))]) ⟨rfl, .inr ⟨_, _, rfl, rfl, depT_st _ _ _, depT_old h⟩, trivial⟩ (addNoP hd SlQ.nil (by simp) zt h he)
theorem risS (hd : lookH H d = some (b3, .cells [.raw (.slice A V.length cp)] 28)) (hs : lookH H s = some (b1, .ab (rawS 5 (.slice A V.length cp) (rdc V)))) (hq : lookH H q = some (b2, .ab (frzP W))) (h : RR V W R) (n : Int) :
    FnH Try.prog 13 [.c (.p d 0), .c (iT n)] H nx ⟨.tup [.c (iT (isR' R n)), .c (iT (isE' R.length n))], [], [], []⟩ :=
  fnh_rc (v' := .tup [.c (iT (isR' R n)), .c (iT (isE' R.length n))]) (news' := []) hd hs hq rfl rfl rfl (risU (H := hRr V W) (nx := 3) (d := 0) (l := 1) (q := 2) rfl rfl rfl h n)
end
set_option maxRecDepth 100000 in
set_option maxHeartbeats 16000000 in
theorem depsPlay_h (acts : List DAct) (z : acts.length ≤ 100000000000000) (ht : ∀ a ∈ acts, a.by'.size ≤ 9223372036854775807 ∧ a.ah.length ≤ 17592186043904) :
    FnH Try.prog 3 [.c (.nm 0)] [(0, some (false, .rd 5 acts.length (dacells acts))), (1, some (false, .rd 5 acts.length (dacells acts))), (2, some (false, .ab (frzP (acts.map DAct.w))))] 3 ⟨.t (.c (.b true)), [], [], []⟩ := by
  refine fnR (fn := Try.f3) 104 rfl rfl rfl (args' := [.c (.nm 0)]) (H' := [(0, some (false, .rd 5 acts.length (dacells acts))), (1, some (false, .rd 5 acts.length (dacells acts))), (2, some (false, .ab (frzP (acts.map DAct.w))))]) (nx' := 3) (fun e w M => ⟨_, mem_rd (fun n => n) (H' := [(0, some (false, .rd 5 acts.length (dacells acts))), (1, some (false, .rd 5 acts.length (dacells acts))), (2, some (false, .ab (frzP (acts.map DAct.w))))]) ⟨⟨false, rfl⟩, ⟨false, rfl⟩, ⟨false, rfl⟩, trivial⟩ M, rfl⟩) rfl rfl rfl rfl fun w => ?_
  refine rn [(12, .spec ⟨.t (.c (.nm 3)), [(true, .ab (depX [] 0))], [], []⟩), (16, .spec ⟨.t (.c (.b false)), [], [], []⟩), (19, .dec false), (20, .spec ⟨.t (.c (.b true)), [], [], []⟩), (22, .dec false)] rfl (by (repeat' (first | exact trivial | exact rfl | exact depNew | exact fun _ => depNew | first | exact nilDp rfl rfl rfl rfl | exact depWorks_h | rfl | refine And.intro ?_ ?_))) ?_
  refine At.nilCell 4 0 74 5 rfl rfl rfl ?_
  refine At.freezeC (s := 5) (n := 0) (xs := []) (l := 5) 4 0 rfl rfl rfl rd_of_own (by decide) fun A m => ?_
  refine At.pin 4 rfl fun b' => ?_
  refine At.foldR 4 (.p 4 0) [(0, 4), (1, 6)] (rfO A 0 m b') (.p 0 0) rfl (by repeat' (first | exact trivial | exact rfl | refine And.intro ?_ ?_)) (by repeat' (first | exact trivial | exact rfl | refine And.intro ?_ ?_)) rfl rfl (fun _ => rfl) ?_
  refine At.newE (frzP []) uv (frzP_stable _) rfl (fun w p hp => by cases hp) ?_
  refine At.ex 3 rfl (depX_st _ _) fun b => ?_
  refine rn [] rfl (by repeat' (first | exact trivial | exact rfl | refine And.intro ?_ ?_)) ?_
  refine At.loop (X := { x : Both acts // BothOk x }) 9 (fun x => acts.length - x.1.i)
    (fun x => [(0, .t (.c (.nm 0))), (3, .t (.c (.nm 3))), (4, .t (.c (.nm 7))), (5, .t (.c (iT (x.1.i : Nat))))])
    (fun x => hBo acts x.1 b b') ⟨⟨0, [], [], [], A, m, []⟩, by simp, by simp, by simp, DR.nil, RR.nil⟩ [] (fun x => wf rfl rfl) (by repeat' (first | exact trivial | exact rfl | refine And.intro ?_ ?_)) (by simp only [hBo]; repeat' (first | exact trivial | exact rfl | refine And.intro ?_ ?_)) rfl fun x => ?_
  obtain ⟨⟨i, R, V, VR, A, cp, W⟩, hi, hm, hl, hD, hR⟩ := x
  simp only at hi hm hl hD hR
  have w2 : IntKind.i64.wrap ((i : Int) + 1) = ((i + 1 : Nat) : Int) := by rw [wrap_sm (by omega) (by omega)]; omega
  refine rn [] rfl (by repeat' (first | exact trivial | exact rfl | refine And.intro ?_ ?_)) ?_
  refine ⟨fun h => ?_, fun h => ?_⟩
  · have hlt : i < acts.length := by have := of_decide_eq_true (Bool.and_eq_true_iff.1 h).1; simp only at this; omega
    have h60 : i < 60 := by have := of_decide_eq_true (Bool.and_eq_true_iff.1 h).2; simp only at this; omega
    clear h
    have hrd := dacells_rd hlt
    obtain ⟨ht1, ht2⟩ := ht _ (List.getElem_mem hlt)
    have b0 : (0 : Int) ≤ (i : Int) := by omega
    have b1 : (i : Int) < (acts.length : Int) := by omega
    have b2 : (i : Int).toNat * 5 < (dacells acts).length := by rw [fcs_length (c := 5) fun _ => rfl]; omega
    have hma : (acts[i]).w ∈ acts.map DAct.w := List.mem_map.2 ⟨_, List.getElem_mem hlt, rfl⟩
    have hat : (dacells acts)[(i : Int).toNat * 5 + 1]? = some (.int .i64 acts[i].at') := fcs_at (c := 5) (j := 1) (f := DAct.cells) (fun _ => rfl) hlt rfl
    generalize acts[i] = a at *
    have hsl := stepD_len R a
    have hVz : V.length ≤ 1000000 := hD.ok.zz
    refine At.derive (φ' := rawP (.slice a.aA a.ah.length a.am) (ivs a.ah)) 2 rfl rawP_stable (frz_raw hma) ?_
    refine rn [(34, .spec ⟨.t (.c (.nm 10)), [(true, .ab (depX V R.length))], [(3, some (.ab (depP V R.length b)))], []⟩), (20009, .dec true)] rfl (by (repeat' (first | exact trivial | exact rfl | exact trivial | exact fun _ => trivial | exact forkD rfl hVz | refine And.intro ?_ ?_))) ?_
    refine At.ex 10 rfl (depX_st _ _) fun bf => ?_
    have hsf := fun (H : HL) (nx : Nat) (q0 : lookH H 10 = some (true, .ab (depP V R.length bf))) (q1 : lookH H 11 = some (true, .ab (rfX A VR.length cp))) (q2 : lookH H 8 = some (true, .ab (frzP W))) (q3 : lookH H 5 = some (true, .ab (rawS 5 (.slice A VR.length cp) (rdc VR)))) (q4 : lookH H 9 = some (false, .ab (rawP (.slice a.aA a.ah.length a.am) (ivs a.ah)))) => dpstepX (nx := nx) (a := a) q0 q1 q2 q3 q4 rfl rfl rfl rfl hD hR (by omega) ht1 ht2
    have hst := fun (H : HL) (nx : Nat) (q0 : lookH H 3 = some (true, .ab (depP V R.length b))) (q1 : lookH H 7 = some (true, .ab (rfP A VR.length cp b'))) (q2 : lookH H 8 = some (true, .ab (frzP W))) (q3 : lookH H 5 = some (true, .ab (rawS 5 (.slice A VR.length cp) (rdc VR)))) (q4 : lookH H 9 = some (false, .ab (rawP (.slice a.aA a.ah.length a.am) (ivs a.ah)))) => dpstep_h (nx := nx) (a := a) q0 q1 q2 q3 q4 rfl rfl rfl rfl hD hR (by omega) ht1 ht2
    generalize stepD R a = R' at *
    have hsa := fun (H : HL) (nx : Nat) (q0 : lookH H 3 = some (true, .ab (depT W R' b))) (q1 : lookH H 7 = some (true, .ab (refT W VR A cp R' b'))) (q2 : lookH H 8 = some (true, .ab (frzP W))) (q3 : lookH H 5 = some (true, .ab (rawS 5 (.slice A VR.length cp) (rdc VR)))) => dpsame_h (nx := nx) q0 q1 q2 q3 (by omega) a.at'
    refine rn [(36, .spec ⟨.t (.c (.b false)), [], [], []⟩), (37, .dec false), (40, .spec ⟨.t (.c (.nm 11)), [(true, .ab (rfX A VR.length cp))], [], []⟩), (44, .ld a.cv), (30045, .dec true), (45, .spec ⟨.t (.c (.b true)), [], [(10, some (.ab (depT W R' bf))), (11, some (.ab (refX W VR A cp R')))], []⟩), (48, .dec false),
      (54, .ld a.cv), (30055, .dec true), (55, .spec ⟨.t (.c (.b true)), [], [(3, some (.ab (depT W R' b))), (7, some (.ab (refT W VR A cp R' b')))], []⟩), (58, .dec false), (65, .ld [iT a.at']), (30066, .dec true), (66, .spec ⟨.t (.c (.b true)), [], [], []⟩), (68, .dec false), (20011, .dec true)] rfl
      (by (repeat' (first | exact trivial | exact rfl | exact trivial | exact fun _ => trivial | first | exact nilDp2 rfl rfl rfl rfl | exact rforkA rfl | exact hrd | exact hat | exact ⟨hat, trivial⟩ | exact b0 | exact b1 | exact b2 | exact hsf _ _ rfl rfl rfl rfl rfl | exact hst _ _ rfl rfl rfl rfl rfl | exact hsa _ _ rfl rfl rfl rfl | rfl | decide | refine And.intro ?_ ?_))) ?_
    refine At.shareD 10 8 rfl rfl (by decide) fun V1 W1 hD1 hw1 => ?_
    refine At.weak (φ' := depT W1 R' b) 3 rfl (depT_st _ _ _) (depT_mono hw1) ?_
    refine At.shareD 3 8 rfl rfl (by decide) fun V2 W2 hD2 hw2 => ?_
    refine At.weak (φ' := refT W2 VR A cp R' b') 7 rfl (refT_st _ _ _ _ _ _) (refT_mono fun y hy => hw2 y (hw1 y hy)) ?_
    refine At.shareR 7 8 5 rfl rfl rfl (by decide) (by decide) (by decide) fun V3 A3 cp3 W3 hR3 hw3 => ?_
    have hDf := (hD1.mono hw2).mono hw3
    have hDd := hD2.mono hw3
    have had := fun (H : HL) (nx : Nat) (q0 : lookH H 10 = some (true, .ab (depP V1 R'.length bf))) => addT (nx := nx) (at' := 5) (o := 0) (t := ⟨#[120]⟩) q0 (by decide) hDf (by omega)
    generalize adR R' V1.length 5 0 ⟨#[120]⟩ [] = Rf at *
    generalize adN R' V1.length 5 0 ⟨#[120]⟩ [] = nf at *
    generalize adB R'.length 5 0 ⟨#[120]⟩ V1.length [] = ef at *
    refine rn [(71, .spec ⟨.tup [.c (iT nf), .c (iT ef)], [], [(10, some (.ab (depT W3 Rf bf)))], []⟩), (20012, .dec true)] rfl (by (repeat' (first | exact trivial | exact rfl | exact trivial | exact fun _ => trivial | exact had _ _ rfl | refine And.intro ?_ ?_))) ?_
    refine At.shareD 10 8 rfl rfl (by decide) fun V4 W4 hD4 hw4 => ?_
    have hse := fun (H : HL) (nx : Nat) (q0 : lookH H 10 = some (true, .ab (depP V4 Rf.length bf))) (q1 : lookH H 8 = some (true, .ab (frzP W4))) => sendP (nx := nx) q0 q1 (by decide) hD4 5
    refine rn [(73, .spec ⟨.tup [.c (.nm 12), .c (iT (sdE' Rf 5))], [(true, .own 3 1 (sdL' Rf 5).length (ivs (sdL' Rf 5)))], [(10, some (.ab (depP (sdV V4 5) Rf.length bf)))], []⟩), (20013, .dec true)] rfl (by (repeat' (first | exact trivial | exact rfl | exact trivial | exact fun _ => trivial | exact hse _ _ rfl rfl | refine And.intro ?_ ?_))) ?_
    have hDe := hDd.mono hw4
    have hRe := hR3.mono hw4
    refine At.unfold 7 rfl rfl rfl ?_
    refine rn [] rfl (by repeat' (first | exact trivial | exact rfl | refine And.intro ?_ ?_)) ?_
    have hRl := hRe.len
    have hRl' : R'.length ≤ 61 := by omega
    have hBl : ∀ n : Int, isE' R'.length n = isE' R'.length n := fun _ => rfl
    refine At.loop (X := (n : Int) ×' (-1 ≤ n ∧ n ≤ (R'.length : Int) + 2)) 15 (fun x => ((R'.length : Int) + 2 - x.1).toNat)
      (fun x => [(0, .t (.c (.nm 0))), (3, .t (.c (.nm 3))), (4, .t (.c (.p 13 0))), (5, .t (.c (iT (i : Nat)))), (7, .t (.c (iT x.1)))])
      (fun _ => [(0, some (false, .rd 5 acts.length (dacells acts))), (2, some (false, .ab (frzP (acts.map DAct.w)))), (3, some (true, .ab (depP V2 R'.length b))), (13, some (true, .cells [.raw (.slice A3 V3.length cp3)] 28)), (14, some (false, .pin 13 b')), (8, some (true, .ab (frzP W4))), (5, some (true, .ab (rawS 5 (.slice A3 V3.length cp3) (rdc V3))))]) ⟨-1, by omega, by omega⟩ [] (fun x => wf rfl rfl) (by repeat' (first | exact trivial | exact rfl | refine And.intro ?_ ?_)) (by repeat' (first | exact trivial | exact rfl | refine And.intro ?_ ?_)) rfl fun x => ?_
    obtain ⟨n, hn1, hn2⟩ := x
    have w3 : IntKind.i64.wrap (n + 1) = n + 1 := wrap_sm (by omega) (by omega)
    have w4 : IntKind.i64.wrap ((V3.length : Int) + 2) = (R'.length : Int) + 2 := by rw [hRl, wrap_sm (by omega) (by omega)]
    refine rn [] rfl (by repeat' (first | exact trivial | exact rfl | refine And.intro ?_ ?_)) ?_
    refine ⟨fun h => ?_, fun h => ?_⟩
    · have hlt2 : n < (R'.length : Int) + 2 := by have := of_decide_eq_true h; rw [w4] at this; exact this
      clear h
      have p1 := fun (H : HL) (nx : Nat) (q0 : lookH H 3 = some (true, .ab (depP V2 R'.length b))) => isP (nx := nx) q0 hDe n
      have p2 := fun (H : HL) (nx : Nat) (q0 : lookH H 13 = some (true, .cells [.raw (.slice A3 V3.length cp3)] 28)) (q1 : lookH H 5 = some (true, .ab (rawS 5 (.slice A3 V3.length cp3) (rdc V3)))) (q2 : lookH H 8 = some (true, .ab (frzP W4))) => risS (nx := nx) q0 q1 q2 hRe n
      generalize isR' R' n = u1 at *
      generalize isE' R'.length n = u2 at *
      have x1 : (u1 != u1) = false := by simp
      have x2 : (u2 != u2) = false := by simp
      refine rn [(87, .spec ⟨.tup [.c (iT u1), .c (iT u2)], [], [(3, some (.ab (depP V2 R'.length b)))], []⟩), (93, .spec ⟨.tup [.c (iT u1), .c (iT u2)], [], [], []⟩), (99, .dec false), (103, .dec false)] rfl (by (repeat' (first | exact trivial | exact rfl | exact trivial | exact fun _ => trivial | first | exact p1 _ _ rfl | exact p2 _ _ rfl rfl rfl | exact x1 | exact x2 | (rw [x1]; rfl) | (rw [x2]; rfl) | refine And.intro ?_ ?_))) ?_
      exact roundEnd ⟨n + 1, by omega, by omega⟩ [] (by show ((R'.length : Int) + 2 - (n + 1)).toNat < ((R'.length : Int) + 2 - n).toNat; omega) (by (repeat' (first | exact trivial | exact rfl | exact w3 | exact fun _ => w3 | refine And.intro ?_ ?_))) (by repeat' (first | exact trivial | exact rfl | refine And.intro ?_ ?_)) rfl
    · refine rn [] rfl (by repeat' (first | exact trivial | exact rfl | refine And.intro ?_ ?_)) (roundExit rfl ?_)
      refine rnA [(20007, .dec true)] rfl (by repeat' (first | exact trivial | exact rfl | refine And.intro ?_ ?_)) ?_
      refine At.foldR 4 (.p 13 0) [(0, 13), (1, 14)] (rfO A3 V3.length cp3 b') (.p 0 0) rfl (by repeat' (first | exact trivial | exact rfl | refine And.intro ?_ ?_)) (by repeat' (first | exact trivial | exact rfl | refine And.intro ?_ ?_)) rfl rfl (fun _ => rfl) ?_
      refine rn [] rfl (by repeat' (first | exact trivial | exact rfl | refine And.intro ?_ ?_)) ?_
      exact roundEnd ⟨⟨i + 1, R', V2, V3, A3, cp3, W4⟩, by show i + 1 ≤ acts.length; omega, by show i + 1 ≤ 60; omega, by show R'.length ≤ i + 1; omega, hDe, hRe⟩ [(7, 15)] (by show acts.length - (i + 1) < acts.length - i; omega) (by (repeat' (first | exact trivial | exact rfl | exact w2 | exact fun _ => w2 | refine And.intro ?_ ?_))) (by simp only [hBo]; repeat' (first | exact trivial | exact rfl | refine And.intro ?_ ?_)) rfl
  · refine rn [] rfl (by repeat' (first | exact trivial | exact rfl | refine And.intro ?_ ?_)) (roundExit rfl ?_)
    refine rnA [] rfl (by repeat' (first | exact trivial | exact rfl | refine And.intro ?_ ?_)) ?_
    exact ret0 tysOk rfl (by repeat' (first | exact trivial | exact rfl | refine And.intro ?_ ?_)) rfl
theorem depsPlay_true (acts : List DAct) (A1 : Option Addr) (c1 : Nat) (w : World) (zl : acts.length ≤ 100000000000000) (ht : ∀ a ∈ acts, a.by'.size ≤ 9223372036854775807 ∧ a.ah.length ≤ 17592186043904) (hm : ∀ a ∈ acts, Vc.Rds w a.aA a.ah.length a.am 1 (ivs a.ah)) (h1 : Vc.Rds w A1 acts.length c1 5 (dacells acts)) :
    Calls Try.prog 3 #[.slice A1 acts.length c1] w fun e w' => e = .returned (.bool true) ∧ RowKit.Below w.heap.size w w' := by
  obtain ⟨e, M, v0, _⟩ := memG (Wl := acts.map DAct.w) h1 h1 fun y hy => by
    obtain ⟨a, ha, rfl⟩ := List.mem_map.1 hy
    exact hm a ha
  have := fnh_law (depsPlay_h acts zl ht) rfl rfl M
  rw [show ([.c (.nm 0)] : List TV).map (TV.den e) = [e.val 0] from rfl, v0] at this
  exact this
end Cw
