/- The statement CachePlays, by reckoning. -/
import Derived.Test.YtaopblgnaoojkaaCach8
import Derived.Test.YtaopblgnaoojkaaRCac4
import Derived.Test.YtaopblgnaoojkaaVcS
namespace Vc
open Go Go.RowKit
/-- A slice of integers, told of its value. -/
def rawP (v : Value) (xs : List Value) : AbP := fun _ F w => ∃ A n c, v = .slice A n c ∧ Rds w A n c 1 xs ∧ ∀ a, A = some a → 0 < xs.length → F a.block
theorem rawP_stable {v : Value} {xs : List Value} : stable (rawP v xs) := by
  rintro _ F w w' ⟨A, n, c, h1, h2, h3⟩ hk
  exact ⟨A, n, c, h1, h2.stays fun a ha h0 => hk _ (h3 a ha h0), h3⟩
section
variable {P : Program} {F : Frm} {Q : Exit → Act → World → Prop} {c : Code} {ks : List KI} {L : LL} {H : HL} {nx : Nat}
/-- What is told of something that may be read, told besides of a part of it. -/
theorem At.derive {φ φ' : AbP} (d : Nat) (hd : lookH H d = some (false, .ab φ)) (hs : stable φ') (hp : ∀ v F w, φ v F w → φ' uv F w) (h : At P F Q c ks L ((nx, some (false, .ab φ')) :: H) (nx + 1)) : At P F Q c ks L H nx :=
  ⟨fun hW e a w S => by
    obtain ⟨⟨h1, _⟩, h2⟩ := S.ob d false _ hd
    obtain ⟨hW', S'⟩ := S.newF hW (.ab φ') 0 uv (e.fp d) (fun m hm => by simp [Ob.ns] at hm) ⟨by rw [Env.put3_fp, Env.put3_val e rfl]; exact hp _ _ _ h1, hs⟩ (fun g hg => ⟨(h2 g hg).1, fun n o' hn hg' => by
      by_cases hne : n = d
      · subst hne
        rw [hd] at hn
        cases hn
      · exact S.dj n o' d _ _ hn hd hne g hg' hg⟩)
    exact h.h hW' _ a w S'⟩
/-- A slice's value gets a name. -/
theorem At.rawL {v : Value} {n : Nat} {xs : List Value} {tv tv' : TV} (t q : Nat) (hq : lookH H q = some (false, .ab (rawP v xs))) (hn : ∀ A m k, v = .slice A m k → m = n) (hl : look t L = some (.t tv)) (htv : ∀ e : Env, e.val nx = v → (∀ m, m < nx → True) → tv'.den e = tv.den e) (hbr : tv.ns = []) (hns : ∀ m ∈ tv'.ns, m < nx + 1)
    (h : At P F Q c ks ((t, .t tv') :: L) ((nx, some (false, .rd 1 n xs)) :: H) (nx + 1)) : At P F Q c ks L H nx :=
  ⟨fun hW e a w S => by
    obtain ⟨⟨⟨A, m, k, h1, h2, h3⟩, _⟩, h4⟩ := S.ob q false _ hq
    have hm := hn A m k h1
    subst hm
    have hone : v.oneCell' = true := by rw [h1]; rfl
    obtain ⟨hW', S'⟩ := S.newF hW (.rd 1 m xs) 0 v (e.fp q) (fun m hm => by simp [Ob.ns] at hm) ⟨A, k, by rw [Env.put3_val e hone, h1], h2, fun a ha h0 => by rw [Env.put3_fp]; exact h3 a ha h0⟩ (fun g hg => ⟨(h4 g hg).1, fun j o' hj hg' => by
      by_cases hne : j = q
      · subst hne
        rw [hq] at hj
        cases hj
      · exact S.dj j o' q _ _ hj hq hne g hg' hg⟩)
    refine h.h ⟨fun t' v' hv j hj => ?_, hW'.h⟩ _ a w ⟨S'.fr, S'.sz, S'.df, fun t' v' hv => ?_, S'.ob, S'.dj⟩
    · rw [look_cons] at hv
      split at hv
      · cases hv
        exact hns j hj
      · exact hW'.l t' v' hv j hj
    · rw [look_cons] at hv
      split at hv
      · rename_i ht
        cases hv
        subst ht
        rw [S.sl _ _ hl]
        show tv.den e = tv'.den _
        rw [htv _ (Env.put3_val e hone) (fun _ _ => trivial)]
        exact TV.den_same fun j hj => by rw [hbr] at hj; cases hj
      · exact S'.sl t' v' hv⟩
end
/-- A function that changes two things, and reads something else. -/
theorem fnA2r {P : Program} {f : FuncId} {fn : Func} {c : Code} (N : Nat) (hf : P.funcs[f]? = some fn) (hb : fn.body = some c) (hN : fn.ntmps = N) {d r q : Nat} {b1 : Bool} {o : Ob} {bs : List TV} {H : HL} {nx : Nat} {φ φ' ψ ψ' : AbP} {v v' : SV} {news news' : List (Bool × Ob)}
    (hd : lookH H d = some (true, .ab φ)) (hr : lookH H r = some (true, .ab ψ)) (hq : lookH H q = some (b1, o)) (hre : ∀ g : Nat → Nat, o.re g = o) (hdr : d ≠ r) (hdq : d ≠ q) (hrq : r ≠ q) (v0 u0 : Value) (hp0 : Pins φ v0) (hp1 : Pins φ' v0) (hq0 : Pins ψ u0) (hq1 : Pins ψ' u0) (hbs : bares bs = true) (hl : Nat.ble (bs.length + 2) N = true) (hW : wfL 3 (argsL 0 ((TV.c (.nm 0) :: TV.c (.nm 1) :: bs).map .t)) = true) (hW2 : wfH 3 [(0, some (true, .ab φ)), (1, some (true, .ab ψ)), (2, some (false, o))] = true)
    (hv : v'.re (fun n => nx + (n - 2)) = v) (hnw : reN (fun n => nx + (n - 2)) news' = news) (hvr : inR 2 (2 + news'.length) v'.ns = true) (hnr : newsR 2 (2 + news'.length) news' = true)
    (hg : ∀ w W, At P ⟨w, W, N⟩ (bodyPost P fn (MPost w W v' ((true, .ab φ') :: (true, .ab ψ') :: news'))) c [] (argsL 0 ((TV.c (.nm 0) :: TV.c (.nm 1) :: bs).map .t)) [(0, some (true, .ab φ)), (1, some (true, .ab ψ)), (2, some (false, o))] 3) :
    FnH P f (.c (.nm d) :: .c (.nm r) :: bs) H nx ⟨v, news, [(d, some (.ab φ')), (r, some (.ab ψ'))], []⟩ := by
  refine fnM N hf hb hN (args' := .c (.nm 0) :: .c (.nm 1) :: bs) (H' := [(0, some (true, .ab φ)), (1, some (true, .ab ψ)), (2, some (false, o))]) (nx' := 3) [(d, φ'), (r, ψ')] (fun e w M => ?_) hl hW hW2 (fun e w M u hu v1 F w' h => ?_) (fun u hu => ?_) (by simpa using hdr) hv hnw rfl hvr hnr hg
  · let g3 : Nat → Nat := fun n => if n = 0 then d else if n = 1 then r else q
    have hc : ∀ {n : Nat} {z : Bool × Ob}, lookH [(0, some (true, .ab φ)), (1, some (true, .ab ψ)), (2, some (false, o))] n = some z → n = 0 ∧ z = (true, .ab φ) ∨ n = 1 ∧ z = (true, .ab ψ) ∨ n = 2 ∧ z = (false, o) := by
      intro n z h
      rw [lookH_cons] at h
      split at h
      · cases h; exact .inl ⟨by assumption, rfl⟩
      · rw [lookH_cons] at h
        split at h
        · cases h; exact .inr (.inl ⟨by assumption, rfl⟩)
        · rw [lookH_cons] at h
          split at h
          · cases h; exact .inr (.inr ⟨by assumption, rfl⟩)
          · cases h
    refine ⟨e.comp g3, ⟨fun n b o' hn => ?_, fun n o' m c q' hn hm hne g hg hg' => ?_⟩, ?_⟩
    · rcases hc hn with ⟨rfl, h⟩ | ⟨rfl, h⟩ | ⟨rfl, h⟩
      · cases h
        obtain ⟨h1, h2⟩ := M.ob d true _ hd
        exact ⟨h1, fun g hg => ⟨h2 g hg, fun _ => ⟨(d, φ'), by simp, hg⟩⟩⟩
      · cases h
        obtain ⟨h1, h2⟩ := M.ob r true _ hr
        exact ⟨h1, fun g hg => ⟨h2 g hg, fun _ => ⟨(r, ψ'), by simp, hg⟩⟩⟩
      · cases h
        obtain ⟨h1, h2⟩ := M.ob q b1 _ hq
        exact ⟨Ob.re_back (r := g3) (n := 2) (by rw [hre]; exact h1), fun g hg => ⟨h2 g hg, fun h => by cases h⟩⟩
    · rcases hc hn with ⟨rfl, h⟩ | ⟨rfl, h⟩ | ⟨rfl, h⟩
      · rcases hc hm with ⟨rfl, _⟩ | ⟨rfl, _⟩ | ⟨rfl, _⟩
        · exact hne rfl
        · exact M.dj d _ r _ _ hd hr hdr g hg hg'
        · exact M.dj d _ q _ _ hd hq hdq g hg hg'
      · rcases hc hm with ⟨rfl, _⟩ | ⟨rfl, _⟩ | ⟨rfl, _⟩
        · exact M.dj r _ d _ _ hr hd (fun h => hdr h.symm) g hg hg'
        · exact hne rfl
        · exact M.dj r _ q _ _ hr hq hrq g hg hg'
      · cases h
    · rw [List.map_cons, List.map_cons, List.map_cons, List.map_cons, bares_den hbs e, ← bares_den hbs (e.comp g3)]
      rfl
  · simp only [List.mem_cons, List.not_mem_nil, or_false] at hu
    rcases hu with rfl | rfl
    · rw [hp1 _ _ _ h]
      exact (hp0 _ _ _ (M.ob d true _ hd).1.1).symm
    · rw [hq1 _ _ _ h]
      exact (hq0 _ _ _ (M.ob r true _ hr).1.1).symm
  · simp only [List.mem_cons, List.not_mem_nil, or_false] at hu
    rcases hu with rfl | rfl
    · exact ⟨_, hd⟩
    · exact ⟨_, hr⟩
end Vc
namespace Cw
open Go Vc
open Go.Proofs
set_option maxRecDepth 100000
def secR (dy : Bool) (L : List (Int × Bd)) : List Int := outI dy L L.length
theorem secR_all (L : List (Int × Bd)) : secR false L = allR L := by rw [secR, outI, List.take_length, insAll_ok, keysF_all]
theorem secR_dirty {L : List (Int × Bd)} (hn : (L.map Prod.fst).Nodup) : secR true L = dirtyR L := by rw [secR, outI, List.take_length, insAll_ok, keysF_dirty hn]
section
variable {H : HL} {nx d b : Nat} {n room : Int} {L : List (Int × Bd)}
theorem rsectP (hd : lookH H d = some (true, .ab (rcP room L b))) (ok : LOk n room L) (dy : Bool) :
    FnH Try.prog 21 [.c (.nm d), .c (.b dy)] H nx ⟨.t (.c (.nm nx)), [(true, .own 3 1 (secR dy L).length (ivs (secR dy L)))], [(d, some (.ab (rcP room L b)))], []⟩ :=
  fnh_shut (O := rcO room L b) (x := .p 0 0) (v' := .t (.c (.nm 0))) (news' := [(true, .own 3 1 (secR dy L).length (ivs (secR dy L)))]) hd rfl rfl rfl rfl rfl (rsect (d := 0) (l := 1) rfl rfl (rclen ok) dy)
/-- An act's text, as it is put; what an act makes. -/
def actS (a : CAct) : ByteArray := if a.raw = true then a.text else fit a.text
def stepL (room : Int) (L : List (Int × Bd)) (a : CAct) : List (Int × Bd) := match (a.kind % 6).toNat with
  | 0 => (putR room L a.at' (actS a) a.dirty).2.2
  | 1 => getS L a.at'
  | 2 => (holdR L a.at').2
  | 3 => (freeR L a.at').2
  | 4 => (cleanR L a.at').2
  | _ => (dropR L (a.at' :: a.more)).2
theorem LOk.step (ok : LOk n room L) (a : CAct) : LOk (n + 1) room (stepL room L a) := by
  unfold stepL
  split
  · exact ok.put _ _ _
  · exact ok.get _
  · exact ok.hold _
  · exact ok.free _
  · exact ok.clean _
  · exact ok.drop _
set_option maxRecDepth 100000 in
set_option maxHeartbeats 4000000 in
theorem cstep_h {r q b' : Nat} {b1 : Bool} {a : CAct} (hd : lookH H d = some (true, .ab (clB room n L b))) (hr : lookH H r = some (true, .ab (rcP room L b'))) (hq : lookH H q = some (b1, .ab (rawP a.mv (ivs a.more)))) (hdr : d ≠ r) (hdq : d ≠ q) (hrq : r ≠ q)
    (ok : LOk n room L) (hz : n ≤ 1000) (ht : a.text.size ≤ maxLen) (zm : a.more.length ≤ 17592186043904) :
    FnH Try.prog 19 [.c (.nm d), .c (.nm r), .agg a.cv] H nx ⟨.t (.c (.b true)), [], [(d, some (.ab (clB room (n + 1) (stepL room L a) b))), (r, some (.ab (rcP room (stepL room L a) b')))], []⟩ := by
  refine fnA2r (fn := Try.f19) 135 rfl rfl rfl hd hr hq (fun g => rfl) hdr hdq hrq (ptr b) (ptr b') (clB_pins _ _ _ _) (clB_pins _ _ _ _) (rc_pins _ _ _) (rc_pins _ _ _) rfl rfl rfl rfl (v' := .t (.c (.b true))) (news' := []) rfl rfl rfl rfl fun w Wr => ?_
  refine At.rawL (v := a.mv) (n := a.more.length) (tv := .agg a.cv) (tv' := .agg [iT a.kind, iT a.at', .s a.text, .b a.dirty, .b a.raw, .nm 3]) 2 2 rfl (fun A m k h => by cases h; rfl) rfl (fun e he _ => by simp only [TV.den, CAct.cv, List.map_cons, List.map_nil, CV.den, he]) rfl (by simp [TV.ns, CV.ns, flatN]) ?_
  have am6 := amV a.kind 6 (by decide) (by decide)
  obtain ⟨kd, hkd, hke⟩ := emod_nat a.kind (n := 6) (by decide)
  rw [show ((6 : Nat) : Int) = 6 from rfl] at hke
  have hst : (a.kind % 6).toNat = kd := by omega
  rw [hke] at am6
  unfold stepL
  rw [hst]
  rcases kd with _ | _ | _ | _ | _ | _ | kd
  · have hft := fit0 a.text (by have := ht; simp [maxLen] at this; omega)
    have hP := fun (H : HL) (nx : Nat) (h : lookH H 0 = some (true, .ab (clB room n L b))) => putQ (nx := nx) h ok hz a.at' (actS a) a.dirty
    have hR := fun (H : HL) (nx : Nat) (h : lookH H 1 = some (true, .ab (rcP room L b'))) => rputB (nx := nx) (k := a.at') (s := actS a) (dy := a.dirty) h ok
    have x1 : ((putR room L a.at' (actS a) a.dirty).1 == (putR room L a.at' (actS a) a.dirty).1) = true := beq_self_eq_true _
    have x2 : ((putR room L a.at' (actS a) a.dirty).2.1 == (putR room L a.at' (actS a) a.dirty).2.1) = true := beq_self_eq_true _
    cases hw : a.raw with
    | true =>
      have hs : actS a = a.text := by rw [actS, if_pos hw]
      rw [hs] at hP hR x1 x2 ⊢
      refine rn [(20, .ret (.t (.c (iT ((0 : Nat) : Int))))), (21, .dec true), (27, .dec false), (37, .spec ⟨.tup [.c (iT (putR room L a.at' a.text a.dirty).1), .c (iT (putR room L a.at' a.text a.dirty).2.1)], [], [(0, some (.ab (clB room (n + 1) (putR room L a.at' a.text a.dirty).2.2 b)))], []⟩), (47, .spec ⟨.tup [.c (iT (putR room L a.at' a.text a.dirty).1), .c (iT (putR room L a.at' a.text a.dirty).2.1)], [], [(1, some (.ab (rcP room (putR room L a.at' a.text a.dirty).2.2 b')))], []⟩), (53, .dec true)] rfl
        (by (repeat' (first | exact trivial | exact rfl | exact am6 | exact fun _ => am6 | first | exact hP _ _ rfl | exact hR _ _ rfl | exact x1 | exact x2 | (rw [hw]; rfl) | decide | refine And.intro ?_ ?_))) ?_
      exact retM tysOk [] rfl (by (repeat' (first | exact trivial | exact rfl | exact x2 | exact fun _ => x2 | exact x1 | refine And.intro ?_ ?_))) (by repeat' (first | exact trivial | exact rfl | refine And.intro ?_ ?_)) rfl rfl
    | false =>
      have hs : actS a = fit a.text := by rw [actS, if_neg (by rw [hw]; decide)]
      rw [hs] at hP hR x1 x2 ⊢
      refine rn [(20, .ret (.t (.c (iT ((0 : Nat) : Int))))), (21, .dec true), (27, .dec true), (29, .ret (.t (.c (.s (fit a.text))))), (37, .spec ⟨.tup [.c (iT (putR room L a.at' (fit a.text) a.dirty).1), .c (iT (putR room L a.at' (fit a.text) a.dirty).2.1)], [], [(0, some (.ab (clB room (n + 1) (putR room L a.at' (fit a.text) a.dirty).2.2 b)))], []⟩), (47, .spec ⟨.tup [.c (iT (putR room L a.at' (fit a.text) a.dirty).1), .c (iT (putR room L a.at' (fit a.text) a.dirty).2.1)], [], [(1, some (.ab (rcP room (putR room L a.at' (fit a.text) a.dirty).2.2 b')))], []⟩), (53, .dec true)] rfl
        (by (repeat' (first | exact trivial | exact rfl | exact am6 | exact fun _ => am6 | first | exact hft | exact hP _ _ rfl | exact hR _ _ rfl | exact x1 | exact x2 | (rw [hw]; rfl) | decide | refine And.intro ?_ ?_))) ?_
      exact retM tysOk [] rfl (by (repeat' (first | exact trivial | exact rfl | exact x2 | exact fun _ => x2 | exact x1 | refine And.intro ?_ ?_))) (by repeat' (first | exact trivial | exact rfl | refine And.intro ?_ ?_)) rfl rfl
  · have hP := fun (H : HL) (nx : Nat) (h : lookH H 0 = some (true, .ab (clB room n L b))) => getQ (nx := nx) h ok hz a.at'
    have hR := fun (H : HL) (nx : Nat) (h : lookH H 1 = some (true, .ab (rcP room L b'))) => rgetA (nx := nx) h (rclen ok) a.at'
    have x1 := sbs (getR L a.at')
    have x2 : (getB L a.at' == getB L a.at') = true := beq_self_eq_true _
    refine rn [(20, .ret (.t (.c (iT ((1 : Nat) : Int))))), (21, .dec false), (58, .dec true), (64, .spec ⟨.tup [.c (.s (getR L a.at')), .c (.b (getB L a.at'))], [], [(0, some (.ab (clB room (n + 1) (getS L a.at') b)))], []⟩), (71, .spec ⟨.tup [.c (.s (getR L a.at')), .c (.b (getB L a.at'))], [], [(1, some (.ab (rcP room (getS L a.at') b')))], []⟩), (77, .dec true)] rfl
      (by (repeat' (first | exact trivial | exact rfl | exact am6 | exact fun _ => am6 | first | exact hP _ _ rfl | exact hR _ _ rfl | exact x1 | exact x2 | decide | refine And.intro ?_ ?_))) ?_
    exact retM tysOk [] rfl (by (repeat' (first | exact trivial | exact rfl | exact x2 | exact fun _ => x2 | exact x1 | refine And.intro ?_ ?_))) (by repeat' (first | exact trivial | exact rfl | refine And.intro ?_ ?_)) rfl rfl
  · have hP := fun (H : HL) (nx : Nat) (h : lookH H 0 = some (true, .ab (clB room n L b))) => holdQ (nx := nx) h ok hz a.at'
    have hR := fun (H : HL) (nx : Nat) (h : lookH H 1 = some (true, .ab (rcP room L b'))) => rholdP (nx := nx) h ok hz a.at'
    have x1 : ((holdR L a.at').1 == (holdR L a.at').1) = true := beq_self_eq_true _
    refine rn [(20, .ret (.t (.c (iT ((2 : Nat) : Int))))), (21, .dec false), (58, .dec false), (82, .dec true), (87, .spec ⟨.t (.c (iT (holdR L a.at').1)), [], [(0, some (.ab (clB room (n + 1) (holdR L a.at').2 b)))], []⟩), (91, .spec ⟨.t (.c (iT (holdR L a.at').1)), [], [(1, some (.ab (rcP room (holdR L a.at').2 b')))], []⟩)] rfl
      (by (repeat' (first | exact trivial | exact rfl | exact am6 | exact fun _ => am6 | first | exact hP _ _ rfl | exact hR _ _ rfl | exact x1 | decide | refine And.intro ?_ ?_))) ?_
    exact retM tysOk [] rfl (by (repeat' (first | exact trivial | exact rfl | exact x1 | exact fun _ => x1 | refine And.intro ?_ ?_))) (by repeat' (first | exact trivial | exact rfl | refine And.intro ?_ ?_)) rfl rfl
  · have hP := fun (H : HL) (nx : Nat) (h : lookH H 0 = some (true, .ab (clB room n L b))) => freeQ (nx := nx) h ok hz a.at'
    have hR := fun (H : HL) (nx : Nat) (h : lookH H 1 = some (true, .ab (rcP room L b'))) => rfreeP (nx := nx) h ok hz a.at'
    have x1 : ((freeR L a.at').1 == (freeR L a.at').1) = true := beq_self_eq_true _
    refine rn [(20, .ret (.t (.c (iT ((3 : Nat) : Int))))), (21, .dec false), (58, .dec false), (82, .dec false), (93, .dec true), (98, .spec ⟨.t (.c (iT (freeR L a.at').1)), [], [(0, some (.ab (clB room (n + 1) (freeR L a.at').2 b)))], []⟩), (102, .spec ⟨.t (.c (iT (freeR L a.at').1)), [], [(1, some (.ab (rcP room (freeR L a.at').2 b')))], []⟩)] rfl
      (by (repeat' (first | exact trivial | exact rfl | exact am6 | exact fun _ => am6 | first | exact hP _ _ rfl | exact hR _ _ rfl | exact x1 | decide | refine And.intro ?_ ?_))) ?_
    exact retM tysOk [] rfl (by (repeat' (first | exact trivial | exact rfl | exact x1 | exact fun _ => x1 | refine And.intro ?_ ?_))) (by repeat' (first | exact trivial | exact rfl | refine And.intro ?_ ?_)) rfl rfl
  · have hP := fun (H : HL) (nx : Nat) (h : lookH H 0 = some (true, .ab (clB room n L b))) => cleanQ (nx := nx) h ok a.at'
    have hR := fun (H : HL) (nx : Nat) (h : lookH H 1 = some (true, .ab (rcP room L b'))) => rcleanP (nx := nx) h ok hz a.at'
    have x1 : ((cleanR L a.at').1 == (cleanR L a.at').1) = true := beq_self_eq_true _
    refine rn [(20, .ret (.t (.c (iT ((4 : Nat) : Int))))), (21, .dec false), (58, .dec false), (82, .dec false), (93, .dec false), (104, .dec true), (109, .spec ⟨.t (.c (iT (cleanR L a.at').1)), [], [(0, some (.ab (clB room (n + 1) (cleanR L a.at').2 b)))], []⟩), (113, .spec ⟨.t (.c (iT (cleanR L a.at').1)), [], [(1, some (.ab (rcP room (cleanR L a.at').2 b')))], []⟩)] rfl
      (by (repeat' (first | exact trivial | exact rfl | exact am6 | exact fun _ => am6 | first | exact hP _ _ rfl | exact hR _ _ rfl | exact x1 | decide | refine And.intro ?_ ?_))) ?_
    exact retM tysOk [] rfl (by (repeat' (first | exact trivial | exact rfl | exact x1 | exact fun _ => x1 | refine And.intro ?_ ?_))) (by repeat' (first | exact trivial | exact rfl | refine And.intro ?_ ?_)) rfl rfl
  · obtain ⟨zs, hzs⟩ : ∃ zs, a.at' :: a.more = zs := ⟨_, rfl⟩
    have hzl : zs.length = 1 + a.more.length := by rw [← hzs, List.length_cons]; omega
    have e6 : app [Value.int .i64 a.at'] (ivs a.more) = ivs zs := by rw [app_eq, ← hzs]; rfl
    have hL6 : ∀ H : HL, lookH H 6 = some (true, .own 3 1 (1 + a.more.length) (app [Value.int .i64 a.at'] (ivs a.more))) → lookH H 6 = some (true, .own 3 1 zs.length (ivs zs)) := fun H h => by rw [h, e6, hzl]
    have zl : zs.length ≤ 17592186044000 := by omega
    have htk : (ivs (zs ++ [-77])).take (zs.length * 1) = ivs zs := by simp [ivs]
    have hP := fun (H : HL) (nx : Nat) (h : lookH H 0 = some (true, .ab (clB room n L b))) (h7 : lookH H 7 = some (true, .own 3 1 (zs.length + 1) (ivs (zs ++ [-77])))) => dropQ (nx := nx) h ok (SlQ.sub h7 (Nat.le_succ _) htk h (by decide)) (by omega)
    have hR := fun (H : HL) (nx : Nat) (h : lookH H 1 = some (true, .ab (rcP room L b'))) (h6 : lookH H 6 = some (true, .own 3 1 zs.length (ivs zs))) => rdropB (nx := nx) h ok (SlQ.own h6 h (by decide)) (by omega)
    have x1 : ((dropR L zs).1 == (dropR L zs).1) = true := beq_self_eq_true _
    have m1 : 1 + a.more.length ≤ maxLen := by simp only [maxLen]; omega
    have m2 : (1 + a.more.length) * 8 ≤ 140737488355328 := by omega
    have o1 := ivs_one a.more
    have o2 := ivs_lit a.at'
    refine rn [(20, .ret (.t (.c (iT ((5 : Nat) : Int))))), (21, .dec false), (58, .dec false), (82, .dec false), (93, .dec false), (104, .dec false), (117, .dec true), (122, .spec ⟨.t (.c (.sub 7 0 0 zs.length)), [(true, .own 3 1 (zs.length + 1) (ivs (zs ++ [-77])))], [], []⟩), (125, .spec ⟨.t (.c (iT (dropR L zs).1)), [], [(0, some (.ab (clB room (n + 1) (dropR L zs).2 b)))], []⟩), (128, .spec ⟨.t (.c (iT (dropR L zs).1)), [], [(1, some (.ab (rcP room (dropR L zs).2 b')))], []⟩), (130, .dec true), (133, .spec ⟨.t (.c (.b true)), [], [], []⟩)] rfl
      (by (repeat' (first | exact trivial | exact rfl | exact am6 | exact fun _ => am6 | first | exact hP _ _ rfl rfl | exact hR _ _ rfl (hL6 _ rfl) | exact lendI_h (SlR.own (hL6 _ rfl)) zl | exact keptI_h rfl (SlR.own (hL6 _ rfl)) zl | exact x1 | exact m1 | exact m2 | exact o1 | exact o2 | decide | refine And.intro ?_ ?_))) ?_
    exact retM tysOk [] rfl (by (repeat' (first | exact trivial | exact rfl | exact x1 | exact fun _ => x1 | refine And.intro ?_ ?_))) (by (repeat' (first | exact trivial | exact rfl | exact trivial | exact fun _ => trivial | (subst hzs; rfl) | refine And.intro ?_ ?_))) rfl rfl
  · omega
end
/-- All acts' slices may be read. -/
def moresP (acts : List CAct) : AbP := fun _ F w => ∀ a ∈ acts, Vc.Rds w a.mA a.more.length a.mc 1 (ivs a.more) ∧ ∀ p, a.mA = some p → 0 < a.more.length → F p.block
theorem moresP_stable (acts : List CAct) : stable (moresP acts) := by
  intro v F w w' h hk a ha
  obtain ⟨h1, h2⟩ := h a ha
  exact ⟨h1.stays fun p hp h0 => hk _ (h2 p hp (by rw [ivs_length] at h0; exact h0)), h2⟩
theorem moresP_at {acts : List CAct} {a : CAct} (ha : a ∈ acts) : ∀ v F w, moresP acts v F w → rawP a.mv (ivs a.more) uv F w := by
  intro v F w h
  obtain ⟨h1, h2⟩ := h a ha
  exact ⟨a.mA, a.more.length, a.mc, rfl, h1, fun p hp h0 => h2 p hp (by rw [ivs_length] at h0; exact h0)⟩
theorem nilCB {H : HL} {nx d b : Nat} {room n : Int} {L : List (Int × Bd)} (hd : lookH H d = some (true, .ab (cl room n L))) {Lc : LL} {o : Oper} {x y : Operand} (hop : o.op = .binOp .eql 23 x y 23) (hx : ev Lc x = some (.c (.nm d))) (hy : ev Lc y = some (.c .np)) : Spec Try.prog Lc H nx o ⟨.t (.c (.b false)), [], [], []⟩ :=
  spec_nil tysOk hop hx hy rfl rfl hd (cl_nn _ _ _)
theorem nilRC {H : HL} {nx d : Nat} {room : Int} {L : List (Int × Bd)} (hd : lookH H d = some (true, .ab (rcX room L))) {Lc : LL} {o : Oper} {x y : Operand} (hop : o.op = .binOp .eql 46 x y 46) (hx : ev Lc x = some (.c (.nm d))) (hy : ev Lc y = some (.c .np)) : Spec Try.prog Lc H nx o ⟨.t (.c (.b false)), [], [], []⟩ :=
  spec_nil tysOk hop hx hy rfl rfl hd (rcX_nn _ _)
theorem nnilRC {H : HL} {nx d : Nat} {room : Int} {L : List (Int × Bd)} {b : Nat} (hd : lookH H d = some (true, .ab (rcP room L b))) {Lc : LL} {o : Oper} {x y : Operand} (hop : o.op = .binOp .neq 46 x y 46) (hx : ev Lc x = some (.c (.nm d))) (hy : ev Lc y = some (.c .np)) : Spec Try.prog Lc H nx o ⟨.t (.c (.b true)), [], [], []⟩ :=
  spec_nnil tysOk hop hx hy rfl rfl hd (NotNil.pins (rc_pins _ _ b))
set_option maxRecDepth 100000 in
set_option maxHeartbeats 4000000 in
theorem cachePlays_h (m : Int) (acts : List CAct) (z : acts.length ≤ 100000000000000) (ht : ∀ a ∈ acts, a.text.size ≤ maxLen ∧ a.more.length ≤ 17592186043904) :
    FnH Try.prog 5 [.c (iT m), .c (.nm 0)] [(0, some (false, .rd 6 acts.length (cacells acts))), (1, some (false, .ab (moresP acts)))] 2 ⟨.t (.c (.b true)), [], [], []⟩ := by
  refine fnR (fn := Try.f5) 80 rfl rfl rfl (args' := [.c (iT m), .c (.nm 0)]) (H' := [(0, some (false, .rd 6 acts.length (cacells acts))), (1, some (false, .ab (moresP acts)))]) (nx' := 2) (fun e w M => ⟨_, mem_rd (fun n => n) (H' := [(0, some (false, .rd 6 acts.length (cacells acts))), (1, some (false, .ab (moresP acts)))]) ⟨⟨false, rfl⟩, ⟨false, rfl⟩, trivial⟩ M, rfl⟩) rfl rfl rfl rfl fun w => ?_
  by_cases hm : m < 1 ∨ 256 < m
  · refine rn [(14, .spec ⟨.tup [.c .np, .c (iT 1)], [], [], []⟩), (19, .spec ⟨.tup [.c .np, .c (iT 1)], [], [], []⟩), (22, .dec false), (27, .dec false), (34, .dec false), (35, .spec ⟨.t (.c (.b true)), [], [], []⟩), (37, .dec false)] rfl (by (repeat' (first | exact trivial | exact rfl | exact trivial | exact fun _ => trivial | first | exact cnewBad hm | exact rcnewBad hm | exact cworks_h | decide | refine And.intro ?_ ?_))) ?_
    refine At.unroll ?_
    refine rn [(40, .dec false), (46, .dec false), (49, .dec false)] rfl (by repeat' (first | exact trivial | exact rfl | refine And.intro ?_ ?_)) (nextExit rfl ?_)
    refine rnA [] rfl (by repeat' (first | exact trivial | exact rfl | refine And.intro ?_ ?_)) ?_
    exact ret0 tysOk rfl (by repeat' (first | exact trivial | exact rfl | refine And.intro ?_ ?_)) rfl
  · have h0 : 1 ≤ m := by omega
    have h1 : m ≤ 256 := by omega
    refine rn [(14, .spec ⟨.tup [.c (.nm 2), .c (iT 0)], [(true, .ab (cl m 0 []))], [], []⟩), (19, .spec ⟨.tup [.c (.nm 3), .c (iT 0)], [(true, .ab (rcX m []))], [], []⟩), (22, .dec false), (27, .dec false), (29, .spec ⟨.t (.c (.b false)), [], [], []⟩), (31, .spec ⟨.t (.c (.b false)), [], [], []⟩), (34, .dec false), (35, .spec ⟨.t (.c (.b true)), [], [], []⟩), (37, .dec false)] rfl (by (repeat' (first | exact trivial | exact rfl | exact trivial | exact fun _ => trivial | first | exact cnewL h0 h1 | exact rcnewL h0 h1 | exact nilC rfl rfl rfl rfl | exact nilRC rfl rfl rfl rfl | exact cworks_h | decide | refine And.intro ?_ ?_))) ?_
    refine At.ex 2 rfl (clB_st _ _ _) fun b => ?_
    refine At.ex 3 rfl (rcX_st _ _) fun b' => ?_
    refine At.loop (X := (x : Nat × List (Int × Bd)) ×' (x.1 ≤ acts.length ∧ x.1 ≤ 100 ∧ LOk (3 * (x.1 : Int)) m x.2)) 4 (fun x => acts.length - x.1.1)
      (fun x => [(1, .t (.c (.nm 0))), (5, .t (.c (.nm 2))), (7, .t (.c (.nm 3))), (9, .t (.c (iT (x.1.1 : Nat))))])
      (fun x => [(0, some (false, .rd 6 acts.length (cacells acts))), (1, some (false, .ab (moresP acts))), (2, some (true, .ab (clB m (3 * (x.1.1 : Int)) x.1.2 b))), (3, some (true, .ab (rcP m x.1.2 b')))])
      ⟨(0, []), by omega, by omega, LOk.new h0 h1⟩ [] (fun x => wf rfl rfl) (by repeat' (first | exact trivial | exact rfl | refine And.intro ?_ ?_)) (by repeat' (first | exact trivial | exact rfl | refine And.intro ?_ ?_)) rfl fun x => ?_
    obtain ⟨⟨i, L⟩, hi1, hi2, ok⟩ := x
    simp only at hi1 hi2 ok
    have w2 : IntKind.i64.wrap ((i : Int) + 1) = ((i + 1 : Nat) : Int) := by rw [wrap_small (by omega) (by omega)]; omega
    refine rn [(39, .spec ⟨.t (.c (.b true)), [], [], []⟩), (40, .dec true)] rfl (by (repeat' (first | exact trivial | exact rfl | exact nnilRC rfl rfl rfl rfl | exact fun _ => nnilRC rfl rfl rfl rfl | refine And.intro ?_ ?_))) ?_
    refine ⟨fun h => ?_, fun h => ?_⟩
    · have hlt : i < acts.length := by have := of_decide_eq_true (Bool.and_eq_true_iff.1 h).1; simp only at this; omega
      have h60 : i < 100 := by have := of_decide_eq_true (Bool.and_eq_true_iff.1 h).2; simp only at this; omega
      have hrd := cacells_rd hlt
      have htx := ht _ (List.getElem_mem hlt)
      have b0 : (0 : Int) ≤ (i : Int) := by omega
      have b1 : (i : Int) < (acts.length : Int) := by omega
      have b2 : (i : Int).toNat * 6 < (cacells acts).length := by rw [fcs_length (c := 6) fun _ => rfl]; omega
      have hn : 3 * (i : Int) ≤ 1000 := by omega
      have hma : acts[i] ∈ acts := List.getElem_mem hlt
      generalize acts[i] = a at *
      have ok1 := ok.step a
      refine At.derive (φ' := rawP a.mv (ivs a.more)) 1 rfl rawP_stable (moresP_at hma) ?_
      generalize hL' : stepL m L a = L' at *
      have hst : ∀ (H : HL) (nx : Nat), lookH H 2 = some (true, .ab (clB m (3 * (i : Int)) L b)) → lookH H 3 = some (true, .ab (rcP m L b')) → lookH H 4 = some (false, .ab (rawP a.mv (ivs a.more))) → FnH Try.prog 19 [.c (.nm 2), .c (.nm 3), .agg a.cv] H nx ⟨.t (.c (.b true)), [], [(2, some (.ab (clB m (3 * (i : Int) + 1) L' b))), (3, some (.ab (rcP m L' b')))], []⟩ := fun H nx h2 h3 h4 => by
        rw [← hL']
        exact cstep_h h2 h3 h4 (by decide) (by decide) (by decide) ok hn htx.1 htx.2
      have hA := fun (H : HL) (nx : Nat) (h : lookH H 2 = some (true, .ab (clB m (3 * (i : Int) + 1) L' b))) => allQ (nx := nx) h ok1
      have hD := fun (H : HL) (nx : Nat) (h : lookH H 2 = some (true, .ab (clB m (3 * (i : Int) + 1 + 1) L' b))) => dirtyQ (nx := nx) h ok1.up
      have hS : ∀ (H : HL) (nx : Nat), lookH H 3 = some (true, .ab (rcP m L' b')) → FnH Try.prog 21 [.c (.nm 3), .c (.b false)] H nx ⟨.t (.c (.nm nx)), [(true, .own 3 1 (allR L').length (ivs (allR L')))], [(3, some (.ab (rcP m L' b')))], []⟩ := fun H nx h => by
        have := rsectP (nx := nx) h ok1 false
        rw [secR_all] at this
        exact this
      have hT : ∀ (H : HL) (nx : Nat), lookH H 3 = some (true, .ab (rcP m L' b')) → FnH Try.prog 21 [.c (.nm 3), .c (.b true)] H nx ⟨.t (.c (.nm nx)), [(true, .own 3 1 (dirtyR L').length (ivs (dirtyR L')))], [(3, some (.ab (rcP m L' b')))], []⟩ := fun H nx h => by
        have := rsectP (nx := nx) h ok1 true
        rw [secR_dirty ok1.nd] at this
        exact this
      have la : (allR L').length ≤ 256 := by have := rclen ok1; rw [allR]; simp [srtI]; exact this
      have ld : (dirtyR L').length ≤ 256 := by rw [dirtyR]; exact Nat.le_trans (List.length_filter_le _ _) la
      have g1 : decide (allR L' = allR L') = true := decide_eq_true rfl
      have g2 : decide (dirtyR L' = dirtyR L') = true := decide_eq_true rfl
      have en : 3 * (i : Int) + 1 + 1 + 1 = 3 * ((i + 1 : Nat) : Int) := by omega
      refine rn [(57, .ld a.cv), (58, .spec ⟨.t (.c (.b true)), [], [(2, some (.ab (clB m (3 * (i : Int) + 1) L' b))), (3, some (.ab (rcP m L' b')))], []⟩), (59, .dec false),
        (61, .spec ⟨.t (.c (.nm 5)), [(true, .own 3 1 (allR L').length (ivs (allR L')))], [(2, some (.ab (clB m (3 * (i : Int) + 1 + 1) L' b)))], []⟩), (63, .spec ⟨.t (.c (.nm 6)), [(true, .own 3 1 (dirtyR L').length (ivs (dirtyR L')))], [(2, some (.ab (clB m (3 * (i : Int) + 1 + 1 + 1) L' b)))], []⟩),
        (66, .spec ⟨.t (.c (.nm 7)), [(true, .own 3 1 (allR L').length (ivs (allR L')))], [(3, some (.ab (rcP m L' b')))], []⟩), (67, .spec ⟨.t (.c (.b (decide (allR L' = allR L')))), [], [], []⟩), (69, .dec false), (72, .spec ⟨.t (.c (.nm 8)), [(true, .own 3 1 (dirtyR L').length (ivs (dirtyR L')))], [(3, some (.ab (rcP m L' b')))], []⟩), (73, .spec ⟨.t (.c (.b (decide (dirtyR L' = dirtyR L')))), [], [], []⟩), (75, .dec false),
        (77, .spec ⟨.tup [], [], [(5, none)], []⟩), (79, .spec ⟨.tup [], [], [(6, none)], []⟩)] rfl
        (by (repeat' (first | exact trivial | exact rfl | exact trivial | exact fun _ => trivial | first | exact hrd | exact b0 | exact b1 | exact b2 | exact hst _ _ rfl rfl rfl | exact hA _ _ rfl | exact hD _ _ rfl | exact hS _ _ rfl | exact hT _ _ rfl | exact sameInts_h (SlR.own rfl) (SlR.own rfl) (by omega) | exact spoilI_h rfl (by omega) | (rw [g1]; rfl) | (rw [g2]; rfl) | decide | refine And.intro ?_ ?_))) ?_
      exact roundEnd ⟨(i + 1, L'), by omega, by omega, by rw [← en]; exact ok1.up.up⟩ [] (by show acts.length - (i + 1) < acts.length - i; omega) (by (repeat' (first | exact trivial | exact rfl | exact w2 | exact fun _ => w2 | refine And.intro ?_ ?_))) (by (repeat' (first | exact trivial | exact rfl | exact trivial | exact fun _ => trivial | first | (rw [en]) | refine And.intro ?_ ?_))) rfl
    · refine rn [] rfl (by repeat' (first | exact trivial | exact rfl | refine And.intro ?_ ?_)) (roundExit rfl ?_)
      refine rnA [] rfl (by repeat' (first | exact trivial | exact rfl | refine And.intro ?_ ?_)) ?_
      exact ret0 tysOk rfl (by repeat' (first | exact trivial | exact rfl | refine And.intro ?_ ?_)) rfl
/-- Acts, and what their slices hold. -/
theorem memActs {w : World} {A : Option Addr} {c : Nat} {acts : List CAct} (h : Vc.Rds w A acts.length c 6 (cacells acts)) (hm : ∀ a ∈ acts, Vc.Rds w a.mA a.more.length a.mc 1 (ivs a.more)) :
    ∃ e : Env, MemOk [(0, some (false, .rd 6 acts.length (cacells acts))), (1, some (false, .ab (moresP acts)))] e w ∧ e.val 0 = .slice A acts.length c := by
  refine ⟨⟨fun _ => 0, fun _ => .slice A acts.length c, fun q g => if q = 0 then ∃ a, A = some a ∧ 0 < (cacells acts).length ∧ g = a.block else ∃ a ∈ acts, ∃ p, a.mA = some p ∧ 0 < a.more.length ∧ g = p.block, fun _ => rfl⟩, ⟨fun m b o hm' => ?_, fun m o k c' q hm' hk => ?_⟩, rfl⟩
  · rw [lookH_cons] at hm'
    split at hm'
    · rename_i h0
      cases hm'
      subst h0
      exact ⟨⟨A, c, rfl, h, fun a ha h0 => ⟨a, ha, h0, rfl⟩⟩, fun g ⟨a, ha, h0, hg⟩ => hg ▸ rds_lt h a ha h0⟩
    · rw [lookH_cons] at hm'
      split at hm'
      · rename_i h1
        cases hm'
        subst h1
        exact ⟨⟨fun a ha => ⟨hm a ha, fun p hp h0 => ⟨a, ha, p, hp, h0, rfl⟩⟩, moresP_stable acts⟩, fun g ⟨a, ha, p, hp, h0, hg⟩ => hg ▸ rds_lt (hm a ha) p hp (by rw [ivs_length]; exact h0)⟩
      · cases hm'
  · rw [lookH_cons] at hm'
    split at hm'
    · cases hm'
    · rw [lookH_cons] at hm'
      split at hm'
      · cases hm'
      · cases hm'
theorem cachePlays_true (m : Int) (acts : List CAct) (A1 : Option Addr) (c1 : Nat) (w : World) (zl : acts.length ≤ 100000000000000) (ht : ∀ a ∈ acts, a.text.size ≤ maxLen ∧ a.more.length ≤ 17592186043904) (hm : ∀ a ∈ acts, Vc.Rds w a.mA a.more.length a.mc 1 (ivs a.more)) (h1 : Vc.Rds w A1 acts.length c1 6 (cacells acts)) :
    Calls Try.prog 5 #[.int .i64 m, .slice A1 acts.length c1] w fun e w' => e = .returned (.bool true) ∧ RowKit.Below w.heap.size w w' := by
  obtain ⟨e, M, v0⟩ := memActs h1 hm
  have := fnh_law (cachePlays_h m acts zl ht) rfl rfl M
  rw [show ([.c (iT m), .c (.nm 0)] : List TV).map (TV.den e) = [.int .i64 m, e.val 0] from rfl, v0] at this
  exact this
end Cw
