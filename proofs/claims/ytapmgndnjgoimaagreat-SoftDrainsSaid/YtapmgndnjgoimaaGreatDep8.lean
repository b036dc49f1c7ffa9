/- The package deps: Add, by reckoning. -/
import Derived.Test.YtapmgndnjgoimaaGreatDep5
import Derived.Test.YtapmgndnjgoimaaGreatOverW
import Derived.Test.YtapmgndnjgoimaaGreatSrtH
namespace Cw
open Go Vc
open Go.Proofs
set_option maxRecDepth 100000
/-- A method that changes the thing it is called of, and reads a slice, its last argument. -/
theorem fnA1l {P : Program} {f : FuncId} {fn : Func} {c : Code} (N : Nat) (hf : P.funcs[f]? = some fn) (hb : fn.body = some c) (hN : fn.ntmps = N) {d n s : Nat} {u : TV} {xs : List Value} {bs : List TV} {H : HL} {nx : Nat} {φ φ' : AbP} {v v' : SV} {news news' : List (Bool × Ob)}
    (hd : lookH H d = some (true, .ab φ)) (hr : SlQ H u n s xs d) (v0 : Value) (hp0 : Pins φ v0) (hp1 : Pins φ' v0) (hbs : bares bs = true) (hl : Nat.ble (bs.length + 2) N = true) (hW : wfL 2 (argsL 0 ((TV.c (.nm 0) :: (bs ++ [TV.c (.nm 1)])).map .t)) = true)
    (hv : v'.re (fun n => nx + (n - 1)) = v) (hnw : reN (fun n => nx + (n - 1)) news' = news) (hvr : inR 1 (1 + news'.length) v'.ns = true) (hnr : newsR 1 (1 + news'.length) news' = true)
    (hg : ∀ w W, At P ⟨w, W, N⟩ (bodyPost P fn (MPost w W v' ((true, .ab φ') :: news'))) c [] (argsL 0 ((TV.c (.nm 0) :: (bs ++ [TV.c (.nm 1)])).map .t)) [(0, some (true, .ab φ)), (1, some (false, .rd s n xs))] 2) :
    FnH P f (.c (.nm d) :: (bs ++ [u])) H nx ⟨v, news, [(d, some (.ab φ'))], []⟩ := by
  refine fnM N hf hb hN (args' := TV.c (.nm 0) :: (bs ++ [TV.c (.nm 1)])) (H' := [(0, some (true, .ab φ)), (1, some (false, .rd s n xs))]) (nx' := 2) [(d, φ')] (fun e w M => ?_) (by simpa using hl) hW rfl (fun e w M u hu v1 F w' h => ?_) (fun u hu => ?_) (by simp) hv hnw rfl hvr hnr hg
  · have hc : ∀ {n' : Nat} {z : Bool × Ob}, lookH [(0, some (true, .ab φ)), (1, some (false, .rd s n xs))] n' = some z → n' = 0 ∧ z = (true, .ab φ) ∨ n' = 1 ∧ z = (false, .rd s n xs) := by
      intro n' z h
      rw [lookH_cons] at h
      split at h
      · cases h; exact .inl ⟨by assumption, rfl⟩
      · rw [lookH_cons] at h
        split at h
        · cases h; exact .inr ⟨by assumption, rfl⟩
        · cases h
    obtain ⟨A, cp, q1, q2, q3⟩ := hr e w M
    obtain ⟨h1, h2⟩ := M.ob d true _ hd
    refine ⟨⟨e.blk, fun q => if q = 0 then e.val d else .slice A n cp, fun q g => if q = 0 then e.fp d g else ∃ a, A = some a ∧ 0 < xs.length ∧ g = a.block, fun q => by
      show (if q = 0 then e.val d else .slice A n cp).oneCell' = true
      split
      · exact e.one d
      · rfl⟩, ⟨fun n' b o' hn => ?_, fun n' o' m c q hn hm hne g hg hg' => ?_⟩, ?_⟩
    · rcases hc hn with ⟨rfl, h⟩ | ⟨rfl, h⟩
      · cases h
        exact ⟨h1, fun g hg => ⟨h2 g hg, fun _ => ⟨(d, φ'), by simp, hg⟩⟩⟩
      · cases h
        exact ⟨⟨A, cp, rfl, q2, fun a ha h0 => ⟨a, ha, h0, rfl⟩⟩, fun g ⟨a, ha, h0, hg⟩ => ⟨hg ▸ (q3 a ha h0).1, fun h => by cases h⟩⟩
    · rcases hc hn with ⟨rfl, h⟩ | ⟨rfl, h⟩
      · rcases hc hm with ⟨rfl, h'⟩ | ⟨rfl, h'⟩
        · exact hne rfl
        · obtain ⟨a, ha, h0, rfl⟩ := (hg' : ∃ a, A = some a ∧ 0 < xs.length ∧ g = a.block)
          exact (q3 a ha h0).2 hg
      · cases h
    · rw [List.map_cons, List.map_cons, List.map_append, List.map_append, bares_den hbs e, ← bares_den hbs (⟨e.blk, fun q => if q = 0 then e.val d else .slice A n cp, fun q g => if q = 0 then e.fp d g else ∃ a, A = some a ∧ 0 < xs.length ∧ g = a.block, _⟩ : Env), List.map_cons, List.map_cons, q1]
      rfl
  · simp only [List.mem_singleton] at hu
    subst hu
    rw [hp1 _ _ _ h]
    exact (hp0 _ _ _ (M.ob d true _ hd).1.1).symm
  · simp only [List.mem_singleton] at hu
    subst hu
    exact ⟨_, hd⟩
/-- A row of one's own gets a value that is told of, and is written no more. -/
theorem At.freeze {P : Program} {F : Frm} {Q : Exit → Act → World → Prop} {c : Code} {ks : List KI} {L : LL} {H : HL} {nx : Nat} {T : TypeId} {xs : List Int} (t k : Nat) (hl : look t L = some (.t (.c (.nm k)))) (hk : lookH H k = some (true, .own T 1 xs.length (ivs xs)))
    (h : ∀ A m, At P F Q c ks ((t, .t (.c (.raw (.slice A xs.length m)))) :: L) ((k, some (true, .ab (frzP [(xs, A, m)]))) :: H) nx) : At P F Q c ks L H nx :=
  ⟨fun hW e a w S => by
    obtain ⟨hown, hlt⟩ := S.ob k true _ hk
    have hob : (Ob.rd 1 xs.length (ivs xs)).holds (e.ren []) k w := Ob.eqs_ok (o := .own T 1 xs.length (ivs xs)) (ρ := []) (by repeat' (first | exact trivial | exact rfl | refine And.intro ?_ ?_)) hown
    obtain ⟨A, m, q1, q2, q3⟩ := hob
    have q1' : e.val k = .slice A xs.length m := q1
    refine (h A m).h ⟨fun t' v hv n hn => ?_, fun n z hz => ?_⟩ e a w ⟨S.fr, S.sz, S.df, fun t' v hv => ?_, fun n b o hn => ?_, fun n o n' b o' hn hm hne => ?_⟩
    · rw [look_cons] at hv
      split at hv
      · cases hv
        simp [SV.ns, TV.ns, CV.ns] at hn
      · exact hW.l t' v hv n hn
    · rw [lookH_cons] at hz
      split at hz
      · rename_i h1
        cases hz
        subst h1
        exact ⟨(hW.h n _ hk).1, fun m hm => by simp [Ob.ns] at hm⟩
      · exact hW.h n z hz
    · rw [look_cons] at hv
      split at hv
      · rename_i h1
        cases hv
        subst h1
        rw [S.sl _ _ hl]
        exact q1'
      · exact S.sl t' v hv
    · rw [lookH_cons] at hn
      split at hn
      · rename_i h1
        cases hn
        subst h1
        refine ⟨⟨fun p hp => ?_, frzP_stable _⟩, hlt⟩
        rw [List.mem_singleton.1 hp]
        exact ⟨q2, fun a ha h0 => q3 a ha (by rw [ivs_length]; exact h0)⟩
      · exact S.ob n b o hn
    · rw [lookH_cons] at hn hm
      split at hn
      · rename_i h1
        subst h1
        split at hm
        · rename_i h2
          exact absurd h2.symm hne
        · exact S.dj _ _ n' b o' hk hm hne
      · split at hm
        · rename_i h2
          subst h2
          exact S.dj n o _ _ _ hn hk hne
        · exact S.dj n o n' b o' hn hm hne⟩
def pdA (last n : Int) : Bool := decide (n < 1) || decide (n > last)
/-- What Add answers. -/
def adB (last : Int) (at' o : Int) (t : ByteArray) (n : Nat) (xs : List Int) : Int := if at' < 0 ∨ at' ≥ 2048 ∨ fcheck o t.size ≠ 0 then 1 else if xs.any (pdA last) = true then 5 else if n ≥ 1024 then 2 else 0
def alT (L : List Ch) (at' : Int) (p : Pt) (xs : List Int) : Nat → List Int
  | 0 => xs
  | j + 1 => match L[j]? with
    | none => alT L at' p xs j
    | some c => if (ovb (c.off, c.by') p && c.at' == at') = true then alT L at' p xs j ++ [c.no] else alT L at' p xs j
theorem alT_le (L : List Ch) (at' : Int) (p : Pt) (xs : List Int) : ∀ j, (alT L at' p xs j).length ≤ xs.length + j
  | 0 => Nat.le_refl _
  | j + 1 => by
    have := alT_le L at' p xs j
    unfold alT
    split
    · omega
    · split
      · simp; omega
      · omega
/-- All that go ahead of a new one. -/
def alls (L : List Ch) (at' : Int) (p : Pt) (xs : List Int) : List Int := alT L at' p xs L.length
def newC (L : List Ch) (last at' : Int) (p : Pt) (xs : List Int) : Ch := ⟨last + 1, at', p.1, p.2, alls L at' p xs, 1⟩
def adO (V : DV) (last : Int) (b : Nat) (c : Ch) (v : Option Addr × Nat) : List (Bool × Ob) := [(true, .cells [.nm 1, iT (last + 1)] 83), (true, .own 85 6 (V.length + 1) (dpc (V ++ [(c, v)]))), (false, .pin 0 b), (true, .ab (frzP [(c.ah, v)]))]
/-- Changes with a new one, whose slice is told of. -/
def adP (V : DV) (last : Int) (b : Nat) (c : Ch) : AbP := exP fun v : Option Addr × Nat => absP (adO V last b c v) (.p 0 0)
theorem ad_pins (V : DV) (last : Int) (b : Nat) (c : Ch) : Pins (adP V last b c) (ptr b) := fun v F w ⟨k, h⟩ => pins_abs (O := adO V last b c k) (k := 2) rfl v F w h
section
variable {H : HL} {nx d q b : Nat} {b1 : Bool} {V : DV} {W : List (List Int × Option Addr × Nat)} {last : Int}
def hAd (last : Int) : HL := [(2, some (false, .cells [.nm 3, iT last] 83)), (5, some (false, .cells [.p 2 0] 55))]
theorem add1 (n : Int) : FnH Tryz.prog 44 [.c (iT n), .c (.p 5 0)] (hAd last) 6 ⟨.t (.c (.b (pdA last n))), [], [], []⟩ := by
  refine fnR (fn := Tryz.f44) 14 rfl rfl rfl (args' := [.c (iT n), .c (.p 5 0)]) (H' := hAd last) (nx' := 6) (fun e w M => ⟨_, mem_rd (fun n => n) (H' := hAd last) ⟨⟨false, rfl⟩, ⟨false, rfl⟩, trivial⟩ M, rfl⟩) rfl rfl rfl rfl fun w => ?_
  show At _ _ _ _ _ _ [(2, some (false, .cells [.nm 3, iT last] 83)), (5, some (false, .cells [.p 2 0] 55))] 6
  refine rn [] rfl (by repeat' (first | exact trivial | exact rfl | refine And.intro ?_ ?_)) ?_
  exact ret0 tysOk rfl (by (repeat' (first | exact trivial | exact rfl | exact trivial | exact fun _ => trivial | rfl | refine And.intro ?_ ?_))) rfl
theorem over0 (a b : Pt) (za : a.2.size ≤ 9223372036854775807) (zb : b.2.size ≤ 9223372036854775807) : Fn0 Tryz.prog 46 [.agg [iT a.1, .s a.2], .agg [iT b.1, .s b.2]] (.tup [.c (.b (ovb a b)), .c (iT (ove a b))]) := ⟨fun w => over_any a b za zb w⟩
theorem check0 (o : Int) (t : ByteArray) (zt : t.size ≤ 9223372036854775807) : Fn0 Tryz.prog 42 [.agg [iT o, .s t]] (.t (.c (iT (fcheck o t.size)))) := ⟨fun w => fcheck_any o t zt w⟩
set_option maxRecDepth 100000 in
set_option maxHeartbeats 4000000 in
theorem addNo {at' o : Int} {t : ByteArray} {xs : List Int} {u : TV} (hd : lookH H d = some (true, .ab (depP V last b))) (hu : SlQ H u xs.length 1 (ivs xs) d) (zx : xs.length ≤ 17592186043904) (zt : t.size ≤ 9223372036854775807) (z : V.length ≤ 1000000) (he : adB last at' o t V.length xs ≠ 0) :
    FnH Tryz.prog 24 [.c (.nm d), .c (iT at'), .agg [iT o, .s t], u] H nx ⟨.tup [.c (iT 0), .c (iT (adB last at' o t V.length xs))], [], [(d, some (.ab (depP V last b)))], []⟩ := by
  refine fnA1l (fn := Tryz.f24) 94 rfl rfl rfl hd hu (bs := [.c (iT at'), .agg [iT o, .s t]]) (ptr b) (dep_pins _ _ _) (dep_pins _ _ _) rfl rfl rfl (v' := .tup [.c (iT 0), .c (iT (adB last at' o t V.length xs))]) (news' := []) rfl rfl rfl rfl fun w Wr => ?_
  refine At.unfoldTo 0 (L1 := [(0, .t (.c (.p 2 0))), (1, .t (.c (iT at'))), (2, .t (.agg [iT o, .s t])), (3, .t (.c (.nm 1)))]) (H1 := [(2, some (true, .cells [.nm 3, iT last] 83)), (3, some (true, .own 85 6 V.length (dpc V))), (4, some (false, .pin 2 b)), (0, none), (0, some (true, .ab (depP V last b))), (1, some (false, .rd 1 xs.length (ivs xs)))]) (nx1 := 5) rfl rfl rfl rfl rfl rfl ?_
  have hck := check0 o t zt
  have hcf := fun (H : HL) (nx : Nat) (h1 : lookH H 1 = some (false, .rd 1 xs.length (ivs xs))) (hs : capsOk 999999 H (hAd last)) => containsF_h (nx := nx) (caps := [(5, 0)]) (g := 44) (pd := pdA last) (fun _ => True) (nc := 6) rfl rfl rfl (fun n _ => add1 n) (SlR.rd h1) hs (fun _ _ => trivial) (by omega)
  by_cases h1 : at' < 0 ∨ at' ≥ 2048
  · have e1 : adB last at' o t V.length xs = 1 := if_pos (h1.elim .inl fun h => .inr (.inl h))
    rw [e1]
    have g1 : (decide (at' < 0) || decide (2048 ≤ at')) = true := by rw [Bool.or_eq_true, decide_eq_true_eq, decide_eq_true_eq]; omega
    refine rn [(21, .dec true), (25, .dec true)] rfl (by (repeat' (first | exact trivial | exact rfl | exact trivial | exact fun _ => trivial | first | exact g1 | rfl | refine And.intro ?_ ?_))) ?_
    refine Done.fold [(0, 2), (1, 3), (2, 4)] (depO V last b) (.p 0 0) (by repeat' (first | exact trivial | exact rfl | refine And.intro ?_ ?_)) rfl rfl (fun _ => rfl) ?_
    exact retM tysOk [(0, 7)] rfl (by repeat' (first | exact trivial | exact rfl | refine And.intro ?_ ?_)) (by repeat' (first | exact trivial | exact rfl | refine And.intro ?_ ?_)) rfl rfl
  · have g1 : (decide (at' < 0) || decide (2048 ≤ at')) = false := by rw [Bool.or_eq_false_iff, decide_eq_false_iff_not, decide_eq_false_iff_not]; omega
    by_cases h2 : fcheck o t.size = 0
    · rw [h2] at hck
      by_cases h3 : xs.any (pdA last) = true
      · have e1 : adB last at' o t V.length xs = 5 := by rw [adB, if_neg (fun h => h.elim (fun h => h1 (.inl h)) fun h => h.elim (fun h => h1 (.inr h)) fun h => h h2), if_pos h3]
        rw [e1]
        rw [h3] at hcf
        refine rn [(21, .dec false), (23, .ret (.t (.c (iT 0)))), (25, .dec false), (28, .spec ⟨.t (.c (.b true)), [], [], []⟩)] rfl (by (repeat' (first | exact trivial | exact rfl | exact trivial | exact fun _ => trivial | first | exact g1 | exact hck | exact hcf _ _ rfl ⟨rfl, ⟨_, rfl⟩, rfl, ⟨_, rfl⟩, trivial⟩ | decide | refine And.intro ?_ ?_))) ?_
        refine ⟨fun _ => ?_, fun h => (by cases h)⟩
        refine rn [] rfl (by repeat' (first | exact trivial | exact rfl | refine And.intro ?_ ?_)) ?_
        refine Done.fold [(0, 2), (1, 3), (2, 4)] (depO V last b) (.p 0 0) (by repeat' (first | exact trivial | exact rfl | refine And.intro ?_ ?_)) rfl rfl (fun _ => rfl) ?_
        exact retM tysOk [(0, 7)] rfl (by repeat' (first | exact trivial | exact rfl | refine And.intro ?_ ?_)) (by repeat' (first | exact trivial | exact rfl | refine And.intro ?_ ?_)) rfl rfl
      · have h3' : xs.any (pdA last) = false := by simpa using h3
        have h4 : V.length ≥ 1024 := by
          rcases Nat.lt_or_ge V.length 1024 with h | h
          · exfalso
            refine he ?_
            rw [adB, if_neg (fun h => h.elim (fun h => h1 (.inl h)) fun h => h.elim (fun h => h1 (.inr h)) fun h => h h2), if_neg h3, if_neg (by omega)]
          · exact h
        have e1 : adB last at' o t V.length xs = 2 := by rw [adB, if_neg (fun h => h.elim (fun h => h1 (.inl h)) fun h => h.elim (fun h => h1 (.inr h)) fun h => h h2), if_neg h3, if_pos h4]
        rw [e1]
        rw [h3'] at hcf
        have g4 : decide ((1024 : Int) ≤ (V.length : Int)) = true := decide_eq_true (by omega)
        refine rn [(21, .dec false), (23, .ret (.t (.c (iT 0)))), (25, .dec false), (28, .spec ⟨.t (.c (.b false)), [], [], []⟩)] rfl (by (repeat' (first | exact trivial | exact rfl | exact trivial | exact fun _ => trivial | first | exact g1 | exact hck | exact hcf _ _ rfl ⟨rfl, ⟨_, rfl⟩, rfl, ⟨_, rfl⟩, trivial⟩ | decide | refine And.intro ?_ ?_))) ?_
        refine ⟨fun h => (by cases h), fun _ => ?_⟩
        refine rn [(34, .dec true)] rfl (by (repeat' (first | exact trivial | exact rfl | exact trivial | exact fun _ => trivial | exact g4 | refine And.intro ?_ ?_))) ?_
        refine Done.fold [(0, 2), (1, 3), (2, 4)] (depO V last b) (.p 0 0) (by repeat' (first | exact trivial | exact rfl | refine And.intro ?_ ?_)) rfl rfl (fun _ => rfl) ?_
        exact retM tysOk [(0, 7)] rfl (by repeat' (first | exact trivial | exact rfl | refine And.intro ?_ ?_)) (by repeat' (first | exact trivial | exact rfl | refine And.intro ?_ ?_)) rfl rfl
    · have e1 : adB last at' o t V.length xs = 1 := if_pos (.inr (.inr h2))
      rw [e1]
      have g2 : (fcheck o t.size != 0) = true := by simpa using h2
      refine rn [(21, .dec false), (23, .ret (.t (.c (iT (fcheck o t.size))))), (25, .dec true)] rfl (by (repeat' (first | exact trivial | exact rfl | exact trivial | exact fun _ => trivial | first | exact g1 | exact g2 | exact hck | refine And.intro ?_ ?_))) ?_
      refine Done.fold [(0, 2), (1, 3), (2, 4)] (depO V last b) (.p 0 0) (by repeat' (first | exact trivial | exact rfl | refine And.intro ?_ ?_)) rfl rfl (fun _ => rfl) ?_
      exact retM tysOk [(0, 7)] rfl (by repeat' (first | exact trivial | exact rfl | refine And.intro ?_ ?_)) (by repeat' (first | exact trivial | exact rfl | refine And.intro ?_ ?_)) rfl rfl
theorem alT_succ {at' : Int} {p : Pt} {xs : List Int} {j : Nat} (h : j < V.length) : alT (chs V) at' p xs (j + 1) = if (ovb (V[j].1.off, V[j].1.by') p && V[j].1.at' == at') = true then alT (chs V) at' p xs j ++ [V[j].1.no] else alT (chs V) at' p xs j := by
  have : (chs V)[j]? = some V[j].1 := by simp [h]
  rw [alT, this]
set_option maxRecDepth 100000 in
set_option maxHeartbeats 4000000 in
theorem addA {at' o : Int} {t : ByteArray} {xs : List Int} {u : TV} (hd : lookH H d = some (true, .ab (depP V last b))) (hu : SlQ H u xs.length 1 (ivs xs) d) (zx : xs.length + V.length ≤ 17592186044416) (zt : t.size ≤ 9223372036854775807) (ok : VOk V) (hla : 0 ≤ last ∧ last ≤ 1000000) (he : adB last at' o t V.length xs = 0) :
    FnH Tryz.prog 24 [.c (.nm d), .c (iT at'), .agg [iT o, .s t], u] H nx ⟨.tup [.c (iT (last + 1)), .c (iT 0)], [], [(d, some (.ab (adP V last b (newC (chs V) last at' (o, t) xs))))], []⟩ := by
  refine fnA1l (fn := Tryz.f24) 94 rfl rfl rfl hd hu (bs := [.c (iT at'), .agg [iT o, .s t]]) (ptr b) (dep_pins _ _ _) (ad_pins _ _ _ _) rfl rfl rfl (v' := .tup [.c (iT (last + 1)), .c (iT 0)]) (news' := []) rfl rfl rfl rfl fun w Wr => ?_
  refine At.unfoldTo 0 (L1 := [(0, .t (.c (.p 2 0))), (1, .t (.c (iT at'))), (2, .t (.agg [iT o, .s t])), (3, .t (.c (.nm 1)))]) (H1 := [(2, some (true, .cells [.nm 3, iT last] 83)), (3, some (true, .own 85 6 V.length (dpc V))), (4, some (false, .pin 2 b)), (0, none), (0, some (true, .ab (depP V last b))), (1, some (false, .rd 1 xs.length (ivs xs)))]) (nx1 := 5) rfl rfl rfl rfl rfl rfl ?_
  have hck := check0 o t zt
  have hcf := fun (H : HL) (nx : Nat) (h1 : lookH H 1 = some (false, .rd 1 xs.length (ivs xs))) (hs : capsOk 999999 H (hAd last)) => containsF_h (nx := nx) (caps := [(5, 0)]) (g := 44) (pd := pdA last) (fun _ => True) (nc := 6) rfl rfl rfl (fun n _ => add1 n) (SlR.rd h1) hs (fun _ _ => trivial) (by omega)
  have hcl := fun (H : HL) (nx : Nat) (h1 : lookH H 1 = some (false, .rd 1 xs.length (ivs xs))) => clone_h (nx := nx) (SlR.rd h1) (by omega)
  have h123 : ¬ (at' < 0 ∨ at' ≥ 2048) ∧ fcheck o t.size = 0 ∧ ¬ xs.any (pdA last) = true ∧ V.length < 1024 := by
    unfold adB at he
    split at he
    · cases he
    · rename_i h1
      split at he
      · cases he
      · rename_i h2
        split at he
        · cases he
        · rename_i h3
          refine ⟨fun h => h1 (h.elim .inl fun h => .inr (.inl h)), ?_, h2, by omega⟩
          exact Decidable.not_not.1 fun h => h1 (.inr (.inr h))
  obtain ⟨h1, h2, h3, h4⟩ := h123
  have h3' : xs.any (pdA last) = false := by simpa using h3
  have g1 : (decide (at' < 0) || decide (2048 ≤ at')) = false := by rw [Bool.or_eq_false_iff, decide_eq_false_iff_not, decide_eq_false_iff_not]; omega
  have g4 : decide ((1024 : Int) ≤ (V.length : Int)) = false := decide_eq_false (by omega)
  rw [h2] at hck
  rw [h3'] at hcf
  refine rn [(21, .dec false), (23, .ret (.t (.c (iT 0)))), (25, .dec false), (28, .spec ⟨.t (.c (.b false)), [], [], []⟩)] rfl (by (repeat' (first | exact trivial | exact rfl | exact trivial | exact fun _ => trivial | first | exact g1 | exact hck | exact hcf _ _ rfl ⟨rfl, ⟨_, rfl⟩, rfl, ⟨_, rfl⟩, trivial⟩ | decide | refine And.intro ?_ ?_))) ?_
  refine ⟨fun h => (by cases h), fun _ => ?_⟩
  refine rn [(34, .dec false), (36, .spec ⟨.t (.c (.nm 7)), [(true, .own 3 1 xs.length (ivs xs))], [], []⟩)] rfl (by (repeat' (first | exact trivial | exact rfl | exact trivial | exact fun _ => trivial | first | exact g4 | exact hcl _ _ rfl | refine And.intro ?_ ?_))) ?_
  refine At.loop (X := (j : Nat) ×' (j ≤ V.length)) 8 (fun x => V.length - x.1)
    (fun x => [(1, .t (.c (iT at'))), (4, .t (.c (.p 5 0))), (6, .t (.c (.p 6 0))), (10, .t (.c (.nm 7))), (40, .t (.c (.nm 3))), (41, .t (.c (iT (V.length : Nat)))), (42, .t (.c (iT (x.1 : Nat))))])
    (fun x => [(2, some (true, .cells [.nm 3, iT last] 83)), (3, some (true, .own 85 6 V.length (dpc V))), (4, some (false, .pin 2 b)), (5, some (true, .cells [.p 2 0] 55)), (6, some (true, .cells [iT o, .s t] 39)), (7, some (true, .own 3 1 (alT (chs V) at' (o, t) xs x.1).length (ivs (alT (chs V) at' (o, t) xs x.1))))]) ⟨0, by omega⟩ [] (fun x => wf rfl rfl) (by repeat' (first | exact trivial | exact rfl | refine And.intro ?_ ?_)) (by repeat' (first | exact trivial | exact rfl | refine And.intro ?_ ?_)) rfl fun x => ?_
  obtain ⟨j, hj⟩ := x
  have w3 : IntKind.i64.wrap ((j : Int) + 1) = ((j + 1 : Nat) : Int) := by rw [wrap_sm (by omega) (by omega)]; omega
  refine rn [] rfl (by repeat' (first | exact trivial | exact rfl | refine And.intro ?_ ?_)) ?_
  refine ⟨fun h => ?_, fun h => ?_⟩
  · have hlt : j < V.length := by have : (j : Int) < (V.length : Int) := of_decide_eq_true h; omega
    clear h
    have r1 : Vc.rowAt (dpc V) ((j : Int).toNat * 6) (depV V[j]) := dpc_rd hlt
    have b0 : (0 : Int) ≤ (j : Int) := by omega
    have b1 : (j : Int) < (V.length : Int) := by omega
    have c5 : (j : Int).toNat * 6 < (dpc V).length := by rw [dpc_length]; omega
    have hov := over0 (V[j].1.off, V[j].1.by') (o, t) (ok.by' _ (List.getElem_mem hlt)) zt
    have hsu := alT_succ (at' := at') (p := (o, t)) (xs := xs) hlt
    have hle := alT_le (chs V) at' (o, t) xs j
    have m1 : (alT (chs V) at' (o, t) xs j).length + 1 ≤ maxLen := by simp [maxLen]; omega
    have m2 : ((alT (chs V) at' (o, t) xs j).length + 1) * 8 ≤ 140737488355328 := by omega
    cases hb : ovb (V[j].1.off, V[j].1.by') (o, t) with
    | false =>
      rw [hb] at hov
      rw [hb, Bool.false_and, if_neg (by decide)] at hsu
      refine rn [(45, .ld [iT V[j].1.no, iT V[j].1.at', iT V[j].1.off, .s V[j].1.by', .raw (.slice V[j].2.1 V[j].1.ah.length V[j].2.2), iT V[j].1.st]), (50, .ret (.tup [.c (.b false), .c (iT (ove (V[j].1.off, V[j].1.by') (o, t)))])), (54, .dec false), (59, .dec false)] rfl (by (repeat' (first | exact trivial | exact rfl | exact trivial | exact fun _ => trivial | first | exact hov | exact r1 | exact b0 | exact b1 | exact c5 | decide | refine And.intro ?_ ?_))) ?_
      refine roundEnd ⟨j + 1, by omega⟩ [] (by show V.length - (j + 1) < V.length - j; omega) (by (repeat' (first | exact trivial | exact rfl | exact w3 | exact fun _ => w3 | refine And.intro ?_ ?_))) ?_ rfl
      repeat' (first | exact trivial | exact rfl | refine And.intro ?_ ?_)
      · rw [hsu]
      · rw [hsu]
    | true =>
      rw [hb] at hov
      rw [hb, Bool.true_and] at hsu
      cases hs : V[j].1.at' == at' with
      | true =>
        rw [hs, if_pos rfl] at hsu
        refine rn [(45, .ld [iT V[j].1.no, iT V[j].1.at', iT V[j].1.off, .s V[j].1.by', .raw (.slice V[j].2.1 V[j].1.ah.length V[j].2.2), iT V[j].1.st]), (50, .ret (.tup [.c (.b true), .c (iT (ove (V[j].1.off, V[j].1.by') (o, t)))])), (54, .dec true), (59, .dec true)] rfl (by (repeat' (first | exact trivial | exact rfl | exact trivial | exact fun _ => trivial | first | exact hov | exact r1 | exact b0 | exact b1 | exact c5 | exact hs | exact m1 | exact m2 | decide | refine And.intro ?_ ?_))) ?_
        refine roundEnd ⟨j + 1, by omega⟩ [(7, 10)] (by show V.length - (j + 1) < V.length - j; omega) (by (repeat' (first | exact trivial | exact rfl | exact w3 | exact fun _ => w3 | refine And.intro ?_ ?_))) ?_ rfl
        repeat' (first | exact trivial | exact rfl | refine And.intro ?_ ?_)
        · rw [hsu]; simp
        · rw [hsu, app_eq]; simp [ivs]; rfl
      | false =>
        rw [hs, if_neg (by decide)] at hsu
        refine rn [(45, .ld [iT V[j].1.no, iT V[j].1.at', iT V[j].1.off, .s V[j].1.by', .raw (.slice V[j].2.1 V[j].1.ah.length V[j].2.2), iT V[j].1.st]), (50, .ret (.tup [.c (.b true), .c (iT (ove (V[j].1.off, V[j].1.by') (o, t)))])), (54, .dec true), (59, .dec false)] rfl (by (repeat' (first | exact trivial | exact rfl | exact trivial | exact fun _ => trivial | first | exact hov | exact r1 | exact b0 | exact b1 | exact c5 | exact hs | decide | refine And.intro ?_ ?_))) ?_
        refine roundEnd ⟨j + 1, by omega⟩ [] (by show V.length - (j + 1) < V.length - j; omega) (by (repeat' (first | exact trivial | exact rfl | exact w3 | exact fun _ => w3 | refine And.intro ?_ ?_))) ?_ rfl
        repeat' (first | exact trivial | exact rfl | refine And.intro ?_ ?_)
        · rw [hsu]
        · rw [hsu]
  · have hlt : j = V.length := by have : ¬ (j : Int) < (V.length : Int) := of_decide_eq_false h; omega
    have hw : alT (chs V) at' (o, t) xs j = alls (chs V) at' (o, t) xs := by rw [alls, hlt]; simp
    have w4 : IntKind.i64.wrap (last + 1) = last + 1 := wrap_sm (by omega) (by omega)
    refine rn [] rfl (by repeat' (first | exact trivial | exact rfl | refine And.intro ?_ ?_)) (roundExit rfl ?_)
    rw [hw]
    refine rnA [(20016, .dec true)] rfl (by repeat' (first | exact trivial | exact rfl | refine And.intro ?_ ?_)) ?_
    refine At.freeze 10 7 rfl rfl fun A m => ?_
    have k1 : V.length + 1 ≤ maxLen := by simp [maxLen]; omega
    have k2 : (V.length + 1) * 72 ≤ 140737488355328 := by omega
    refine rn [(50073, .dec true)] rfl (by (repeat' (first | exact trivial | exact rfl | exact trivial | exact fun _ => trivial | first | exact k1 | exact k2 | decide | refine And.intro ?_ ?_))) ?_
    refine Done.fold [(0, 2), (1, 9), (2, 4), (3, 7)] (adO V last b (newC (chs V) last at' (o, t) xs) (A, m)) (.p 0 0) ?_ rfl rfl (fun _ => rfl) ?_
    · (repeat' (first | exact trivial | exact rfl | exact w4 | exact fun _ => w4 | refine And.intro ?_ ?_))
      rw [w4, app_eq]
      exact (fcs_app depC V (newC (chs V) last at' (o, t) xs, A, m)).symm
    refine Done.weak 10 (φ' := adP V last b (newC (chs V) last at' (o, t) xs)) rfl (exP_stable fun _ => absP_stable _ _) (fun v F w h => ⟨(A, m), h⟩) ?_
    exact retM tysOk [(0, 10)] rfl (by (repeat' (first | exact trivial | exact rfl | exact w4 | exact fun _ => w4 | refine And.intro ?_ ?_))) (by repeat' (first | exact trivial | exact rfl | refine And.intro ?_ ?_)) rfl rfl
end
end Cw
namespace Cw
open Go Vc
open Go.Proofs
set_option maxRecDepth 100000
/-- An env whose things hold other blocks. -/
def Env.fps (e : Env) (f : Nat → Nat → Prop) : Env := ⟨e.blk, e.val, f, e.one⟩
theorem frzP_app {W : List (List Int × Option Addr × Nat)} {y : List Int × Option Addr × Nat} {v v1 v2 : Value} {F F1 F2 : Nat → Prop} {w : World} (h1 : frzP W v1 F1 w) (h2 : frzP [y] v2 F2 w) (a1 : ∀ g, F1 g → F g) (a2 : ∀ g, F2 g → F g) : frzP (W ++ [y]) v F w := by
  intro p hp
  rcases List.mem_append.1 hp with hp | hp
  · obtain ⟨q1, q2⟩ := h1 p hp
    exact ⟨q1, fun a ha h0 => a1 _ (q2 a ha h0)⟩
  · obtain ⟨q1, q2⟩ := h2 p hp
    exact ⟨q1, fun a ha h0 => a2 _ (q2 a ha h0)⟩
/-- A new change's slice joins the others. -/
theorem At.grow {P : Program} {F : Frm} {Q : Exit → Act → World → Prop} {cd : Code} {ks : List KI} {L : LL} {H : HL} {nx : Nat} {V : DV} {W : List (List Int × Option Addr × Nat)} {last : Int} {b : Nat} {c : Ch} (d q : Nat) (hd : lookH H d = some (true, .ab (adP V last b c))) (hq : lookH H q = some (true, .ab (frzP W))) (hdq : d ≠ q)
    (h : ∀ v, At P F Q cd ks L ((q, some (true, .ab (frzP (W ++ [(c.ah, v)])))) :: (d, some (true, .ab (depP (V ++ [(c, v)]) (last + 1) b))) :: H) nx) : At P F Q cd ks L H nx :=
  ⟨fun hW e a w S => by
    obtain ⟨⟨hp, _⟩, hbd⟩ := S.ob d true _ hd
    obtain ⟨⟨hfq, _⟩, hbq⟩ := S.ob q true _ hq
    obtain ⟨v, e1, h1, h2, h3, h4, h5⟩ := hp
    have hl : (adO V last b c v).length = 4 := rfl
    rw [hl] at h3 h4
    let f : Nat → Nat → Prop := fun n g => if n = d then ∃ k, k < 3 ∧ e1.fp k g else if n = q then e.fp q g ∨ e1.fp 3 g else e.fp n g
    have fd : ∀ g, f d g ↔ ∃ k, k < 3 ∧ e1.fp k g := fun g => by show (if _ then _ else _) ↔ _; rw [if_pos rfl]
    have fq : ∀ g, f q g ↔ e.fp q g ∨ e1.fp 3 g := fun g => by show (if _ then _ else _) ↔ _; rw [if_neg (fun h => hdq h.symm), if_pos rfl]
    have fo : ∀ n, n ≠ d → n ≠ q → ∀ g, f n g ↔ e.fp n g := fun n h h' g => by show (if _ then _ else _) ↔ _; rw [if_neg h, if_neg h']
    have d3 : ∀ g, e1.fp 3 g → e.fp d g := fun g hg => (h4 g).2 ⟨3, by decide, hg⟩
    have dk : ∀ g, (∃ k, k < 3 ∧ e1.fp k g) → e.fp d g := fun g ⟨k, hk, hg⟩ => (h4 g).2 ⟨k, by omega, hg⟩
    have hdv : depP (V ++ [(c, v)]) (last + 1) b (e.val d) (f d) w := by
      refine ⟨e1, h1, fun k b' o hk => ?_, fun j k hj hk => ?_, fd, fun g hg => h5 g (dk g ((fd g).1 hg))⟩
      · match k, hk with
        | 0, hk => exact h2 0 b' o hk
        | 1, hk =>
          cases hk
          have := h2 1 _ _ rfl
          rwa [show (V ++ [(c, v)]).length = V.length + 1 by simp]
        | 2, hk => exact h2 2 b' o hk
        | k + 3, hk => simp [depO] at hk
      · have : (depO (V ++ [(c, v)]) (last + 1) b).length = 3 := rfl
        exact h3 j k (by omega) (by omega)
    have hqv : frzP (W ++ [(c.ah, v)]) (e.val q) (f q) w := frzP_app hfq (h2 3 _ _ rfl).1.1 (fun g hg => (fq g).2 (.inl hg)) fun g hg => (fq g).2 (.inr hg)
    refine (h v).h ⟨hW.l, fun n z hz => ?_⟩ (Env.fps e f) a w ⟨S.fr, S.sz, S.df, S.sl, fun n b' o hn => ?_, fun n o m b' o' hn hm hne g hg hg' => ?_⟩
    · rw [lookH_cons] at hz
      split at hz
      · rename_i h0
        cases hz; subst h0
        exact ⟨(hW.h n _ hq).1, fun m hm => by simp [Ob.ns] at hm⟩
      · rw [lookH_cons] at hz
        split at hz
        · rename_i h0
          cases hz; subst h0
          exact ⟨(hW.h n _ hd).1, fun m hm => by simp [Ob.ns] at hm⟩
        · exact hW.h n z hz
    · rw [lookH_cons] at hn
      split at hn
      · rename_i h0
        cases hn; subst h0
        exact ⟨⟨hqv, frzP_stable _⟩, fun g hg => ((fq g).1 hg).elim (hbq g) fun hg => hbd g (d3 g hg)⟩
      · rename_i hnq
        rw [lookH_cons] at hn
        split at hn
        · rename_i h0
          cases hn; subst h0
          exact ⟨⟨hdv, absP_stable _ _⟩, fun g hg => hbd g (dk g ((fd g).1 hg))⟩
        · rename_i hnd
          obtain ⟨k1, k2⟩ := S.ob n b' o hn
          have hs : ∀ g, f n g ↔ e.fp n g := fo n hnd hnq
          have hfe : (Env.fps e f).fp n = e.fp n := funext fun g => propext (hs g)
          refine ⟨Ob.same (e := e) (e' := Env.fps e f) ⟨rfl, rfl, hfe⟩ k1 fun m _ => ⟨rfl, rfl⟩, fun g hg => k2 g ((hs g).1 hg)⟩
    · -- where a name's blocks were
      have was : ∀ {n : Nat} {g : Nat}, f n g → e.fp n g ∨ n = q ∧ e.fp d g := fun {n g} hf => by
        by_cases h1 : n = d
        · subst h1; exact .inl (dk g ((fd g).1 hf))
        · by_cases h2 : n = q
          · subst h2
            exact ((fq g).1 hf).elim .inl fun h => .inr ⟨rfl, d3 g h⟩
          · exact .inl ((fo n h1 h2 g).1 hf)
      have old : ∀ {n : Nat} {z : Bool × Ob}, lookH ((q, some (true, .ab (frzP (W ++ [(c.ah, v)])))) :: (d, some (true, .ab (depP (V ++ [(c, v)]) (last + 1) b))) :: H) n = some z → ∃ o, lookH H n = some (z.1, o) := by
        intro n z hz
        rw [lookH_cons] at hz
        split at hz
        · rename_i h0; cases hz; subst h0; exact ⟨_, hq⟩
        · rw [lookH_cons] at hz
          split at hz
          · rename_i h0; cases hz; subst h0; exact ⟨_, hd⟩
          · exact ⟨z.2, hz⟩
      obtain ⟨on, hn'⟩ := old hn
      obtain ⟨om, hm'⟩ := old hm
      have hg1 : f n g := hg
      have hg2 : f m g := hg'
      by_cases c1 : n = q
      · subst c1
        rcases (fq g).1 hg1 with hx | hx
        · rcases was hg2 with hy | ⟨rfl, _⟩
          · exact S.dj n _ m _ _ hn' hm' hne g hx hy
          · exact hne rfl
        · by_cases c2 : m = d
          · subst c2
            obtain ⟨k, hk, hy⟩ := (fd g).1 hg2
            exact h3 k 3 (by omega) (by omega) (by omega) g hy hx
          · rcases was hg2 with hy | ⟨rfl, _⟩
            · exact S.dj d _ m _ _ hd hm' (fun h => c2 h.symm) g (d3 g hx) hy
            · exact hne rfl
      · rcases was hg1 with hx | ⟨h0, _⟩
        · by_cases c2 : m = q
          · subst c2
            rcases (fq g).1 hg2 with hy | hy
            · exact S.dj n _ m _ _ hn' hm' hne g hx hy
            · by_cases c3 : n = d
              · subst c3
                obtain ⟨k, hk, hx'⟩ := (fd g).1 hg1
                exact h3 k 3 (by omega) (by omega) (by omega) g hx' hy
              · exact S.dj n _ d _ _ hn' hd c3 g hx (d3 g hy)
          · rcases was hg2 with hy | ⟨h0, _⟩
            · exact S.dj n _ m _ _ hn' hm' hne g hx hy
            · exact c2 h0
        · exact c1 h0⟩
def depX (V : DV) (last : Int) : AbP := exP (depP V last)
theorem depX_st (V : DV) (last : Int) : ∀ b, stable (depP V last b) := fun b => absP_stable _ _
theorem depX_nn (V : DV) (last : Int) : NotNil (depX V last) := NotNil.ex fun b => dep_pins _ _ b
section
variable {H : HL} {nx d q b : Nat} {b1 : Bool} {V : DV} {W : List (List Int × Option Addr × Nat)} {last : Int}
theorem depNew : FnH Tryz.prog 23 [] H nx ⟨.t (.c (.nm nx)), [(true, .ab (depX [] 0))], [], []⟩ := by
  refine fnM (fn := Tryz.f23) 3 rfl rfl rfl (args' := []) (H' := []) (nx' := 0) [] (fun e w M => ⟨e, ⟨fun n b o h => (by cases h), fun n o m c q h => (by cases h)⟩, rfl⟩) rfl rfl rfl (fun e w M u hu => by cases hu) (fun u hu => by cases hu) (by simp) (v' := .t (.c (.nm 0))) (news' := [(true, .ab (depX [] 0))]) rfl rfl rfl rfl rfl fun w Wr => ?_
  refine rn [] rfl (by repeat' (first | exact trivial | exact rfl | refine And.intro ?_ ?_)) ?_
  refine Done.nilCell 0 0 85 6 rfl rfl rfl ?_
  refine Done.pin 0 rfl fun b => ?_
  refine Done.foldR 0 (.p 0 0) [(0, 0), (1, 1), (2, 2)] (depO [] 0 b) (.p 0 0) rfl (by repeat' (first | exact trivial | exact rfl | refine And.intro ?_ ?_)) (by repeat' (first | exact trivial | exact rfl | refine And.intro ?_ ?_)) rfl rfl (fun _ => rfl) ?_
  refine Done.weak 3 (φ' := depX [] 0) rfl (exP_stable fun b => absP_stable _ _) (fun v F w h => ⟨b, h⟩) ?_
  exact retM tysOk [(0, 3)] rfl (by repeat' (first | exact trivial | exact rfl | refine And.intro ?_ ?_)) (by repeat' (first | exact trivial | exact rfl | refine And.intro ?_ ?_)) rfl rfl
theorem imageH (hd : lookH H d = some (true, .ab (depP V last b))) (hq : lookH H q = some (b1, .ab (frzP W))) (hdq : d ≠ q) (sub : SubW V W) (ok : VOk V) (k : Int) (s : ByteArray) (hs : s.size ≤ 9223372036854775807) :
    FnH Tryz.prog 39 [.c (.nm d), .c (iT k), .c (.s s)] H nx ⟨.tup [.c (.s (pt s (rdyP (chs V) k))), .c (iT (pte s (rdyP (chs V) k)))], [], [(d, some (.ab (depP V last b)))], []⟩ :=
  fnh_shutQ (O := depO V last b) (x := .p 0 0) (v' := .tup [.c (.s (pt s (rdyP (chs V) k))), .c (iT (pte s (rdyP (chs V) k)))]) (news' := []) hd hq hdq rfl rfl rfl rfl rfl (ImageU (d := 0) (l := 1) (q := 3) rfl rfl rfl sub ok k s hs)
theorem sectorsH (hd : lookH H d = some (true, .ab (depP V last b))) (hq : lookH H q = some (b1, .ab (frzP W))) (hdq : d ≠ q) (sub : SubW V W) (ok : VOk V) :
    FnH Tryz.prog 29 [.c (.nm d)] H nx ⟨.t (.c (.nm nx)), [(true, .own 3 1 (secs (chs V)).length (ivs (secs (chs V))))], [(d, some (.ab (depP V last b)))], []⟩ :=
  fnh_shutQ (O := depO V last b) (x := .p 0 0) (v' := .t (.c (.nm 0))) (news' := [(true, .own 3 1 (secs (chs V)).length (ivs (secs (chs V))))]) hd hq hdq rfl rfl rfl rfl rfl (sectorsU (d := 0) (l := 1) (q := 3) rfl rfl rfl sub ok)
theorem viewH (hd : lookH H d = some (true, .ab (depP V last b))) (ok : VOk V) (k : Int) (s : ByteArray) (hs : s.size ≤ 9223372036854775807) :
    FnH Tryz.prog 28 [.c (.nm d), .c (iT k), .c (.s s)] H nx ⟨.tup [.c (.s (pt s ((vwI (chs V) k).map (chP (chs V))))), .c (iT (pte s ((vwI (chs V) k).map (chP (chs V)))))], [], [(d, some (.ab (depP V last b)))], []⟩ :=
  fnh_shut (O := depO V last b) (x := .p 0 0) (v' := .tup [.c (.s (pt s ((vwI (chs V) k).map (chP (chs V))))), .c (iT (pte s ((vwI (chs V) k).map (chP (chs V)))))]) (news' := []) hd rfl rfl rfl rfl rfl (ViewU (d := 0) (l := 1) rfl rfl ok k s hs)
end
end Cw
