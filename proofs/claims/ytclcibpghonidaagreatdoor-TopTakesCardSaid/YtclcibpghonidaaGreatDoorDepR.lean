/- The package deps: what is lost, what is sent, by reckoning. -/
import Derived.Test.YtclcibpghonidaaGreatDoorDep
import Derived.Test.YtclcibpghonidaaGreatDoorDelC
import Derived.Test.YtclcibpghonidaaGreatDoorFnV
import Derived.Test.YtclcibpghonidaaGreatDoorSlV
import Derived.Test.YtclcibpghonidaaGreatDoorVcFld
import Derived.Test.YtclcibpghonidaaGreatDoorMapK
import Derived.Test.YtclcibpghonidaaGreatDoorFieldW
import Derived.Test.YtclcibpghonidaaGreatDoorSrtH
namespace Vc
open Go Go.RowKit
/-- A method that changes the thing it is called of, and reads something that it isn't told. -/
theorem fnA1f {P : Program} {f : FuncId} {fn : Func} {c : Code} (N : Nat) (hf : P.funcs[f]? = some fn) (hb : fn.body = some c) (hN : fn.ntmps = N) {d q : Nat} {b1 : Bool} {ψ : AbP} {bs : List TV} {H : HL} {nx : Nat} {φ φ' : AbP} {v v' : SV} {news news' : List (Bool × Ob)}
    (hd : lookH H d = some (true, .ab φ)) (hq : lookH H q = some (b1, .ab ψ)) (hdq : d ≠ q) (v0 : Value) (hp0 : Pins φ v0) (hp1 : Pins φ' v0) (hbs : bares bs = true) (hl : Nat.ble (bs.length + 1) N = true) (hW : wfL 2 (argsL 0 ((TV.c (.nm 0) :: bs).map .t)) = true)
    (hv : v'.re (fun n => nx + (n - 1)) = v) (hnw : reN (fun n => nx + (n - 1)) news' = news) (hvr : inR 1 (1 + news'.length) v'.ns = true) (hnr : newsR 1 (1 + news'.length) news' = true)
    (hg : ∀ w W, At P ⟨w, W, N⟩ (bodyPost P fn (MPost w W v' ((true, .ab φ') :: news'))) c [] (argsL 0 ((TV.c (.nm 0) :: bs).map .t)) [(0, some (true, .ab φ)), (1, some (false, .ab ψ))] 2) :
    FnH P f (.c (.nm d) :: bs) H nx ⟨v, news, [(d, some (.ab φ'))], []⟩ := by
  refine fnM N hf hb hN (args' := .c (.nm 0) :: bs) (H' := [(0, some (true, .ab φ)), (1, some (false, .ab ψ))]) (nx' := 2) [(d, φ')] (fun e w M => ?_) hl hW rfl (fun e w M u hu v1 F w' h => ?_) (fun u hu => ?_) (by simp) hv hnw rfl hvr hnr hg
  · let g3 : Nat → Nat := fun n => if n = 0 then d else q
    have hc : ∀ {n : Nat} {z : Bool × Ob}, lookH [(0, some (true, .ab φ)), (1, some (false, .ab ψ))] n = some z → n = 0 ∧ z = (true, .ab φ) ∨ n = 1 ∧ z = (false, .ab ψ) := by
      intro n z h
      rw [lookH_cons] at h
      split at h
      · cases h; exact .inl ⟨by assumption, rfl⟩
      · rw [lookH_cons] at h
        split at h
        · cases h; exact .inr ⟨by assumption, rfl⟩
        · cases h
    refine ⟨e.comp g3, ⟨fun n b o' hn => ?_, fun n o' m c q' hn hm hne g hg hg' => ?_⟩, ?_⟩
    · rcases hc hn with ⟨rfl, h⟩ | ⟨rfl, h⟩
      · cases h
        obtain ⟨h1, h2⟩ := M.ob d true _ hd
        exact ⟨h1, fun g hg => ⟨h2 g hg, fun _ => ⟨(d, φ'), by simp, hg⟩⟩⟩
      · cases h
        obtain ⟨h1, h2⟩ := M.ob q b1 _ hq
        exact ⟨Ob.re_back (r := g3) (n := 1) h1, fun g hg => ⟨h2 g hg, fun h => by cases h⟩⟩
    · rcases hc hn with ⟨rfl, h⟩ | ⟨rfl, h⟩
      · rcases hc hm with ⟨rfl, _⟩ | ⟨rfl, _⟩
        · exact hne rfl
        · exact M.dj d _ q _ _ hd hq hdq g hg hg'
      · cases h
    · rw [List.map_cons, List.map_cons, bares_den hbs e, ← bares_den hbs (e.comp g3)]
      rfl
  · simp only [List.mem_singleton] at hu
    subst hu
    rw [hp1 _ _ _ h]
    exact (hp0 _ _ _ (M.ob d true _ hd).1.1).symm
  · simp only [List.mem_singleton] at hu
    subst hu
    exact ⟨_, hd⟩
/-- A nil slice gets a name, at the end. -/
theorem Done.nil {F : Frm} {Q : Act → World → Prop} {L : LL} {H : HL} {nx : Nat} (t : Tmp) (T : TypeId) (s : Nat) (hl : look t L = some (.t (.c .nsl)))
    (h : Done F Q ((t, .t (.c (.nm nx))) :: L) ((nx, some (true, .own T s 0 [])) :: H) (nx + 1)) : Done F Q L H nx := by
  refine ⟨fun hW e a w S => h.h ⟨fun t' v hv n hn => ?_, fun n x hx => ?_⟩ (e.newV nx (.slice none 0 0)) a w ?_⟩
  · rw [look_cons] at hv
    split at hv
    · cases hv
      have : n = nx := by simpa [SV.ns, TV.ns, CV.ns] using hn
      omega
    · have := hW.l t' v hv n hn
      omega
  · rw [lookH_cons] at hx
    split at hx
    · cases hx
      exact ⟨by omega, fun m hm => by simp [Ob.ns] at hm⟩
    · obtain ⟨h1, h2⟩ := hW.h n x hx
      exact ⟨by omega, fun m hm => by have := h2 m hm; omega⟩
  · have hsame : ∀ n, n < nx → e.same (e.newV nx (.slice none 0 0)) n := fun n hn => Env.newV_same e (by omega)
    have hno : ∀ g, ¬ (e.newV nx (.slice none 0 0)).fp nx g := fun g hg => by
      have := (Env.newV_fp e nx (.slice none 0 0) g).1 hg
      cases this
    refine ⟨S.fr, S.sz, S.df, fun t' v hv => ?_, fun n b o hx => ?_, fun n o m c' q hn hm hne g hg hg' => ?_⟩
    · simp only [look_cons] at hv
      split at hv
      · rename_i ht
        cases hv
        subst ht
        rw [S.sl _ _ hl]
        simp only [SV.den, TV.den, CV.den]
        exact (Env.newV_val (v := .slice none 0 0) e nx rfl).symm
      · rw [S.sl t' v hv]
        exact (SV.den_same fun n hn => hsame n (hW.l t' v hv n hn)).symm
    · rw [lookH_cons] at hx
      split at hx
      · rename_i hn
        cases hx
        subst hn
        refine ⟨⟨⟨by simp, .inl ⟨Env.newV_val (v := .slice none 0 0) e n rfl, rfl⟩⟩, fun g => ?_⟩, fun g hg => (hno g hg).elim⟩
        rw [Env.newV_fp, Env.newV_val (v := .slice none 0 0) e n rfl]
      · obtain ⟨h1, h2⟩ := hW.h n _ hx
        obtain ⟨h3, h4⟩ := S.ob n b o hx
        have hs := hsame n h1
        refine ⟨Ob.same hs h3 fun m hm => (hsame m (h2 m hm)).v, fun g hg => ?_⟩
        rw [hs.2.2] at hg
        exact h4 g hg
    · rw [lookH_cons] at hn hm
      split at hn
      · rename_i h1
        subst h1
        exact hno g hg
      · split at hm
        · rename_i h1
          subst h1
          exact hno g hg'
        · rw [(hsame n (hW.h n _ hn).1).2.2] at hg
          rw [(hsame m (hW.h m _ hm).1).2.2] at hg'
          exact S.dj n o m c' q hn hm hne g hg hg'
end Vc
namespace Cw
open Go Vc
open Go.Proofs
set_option maxRecDepth 100000
def depO (V : DV) (last : Int) (b : Nat) : List (Bool × Ob) := [(true, .cells [.nm 1, iT last] 138), (true, .own 140 6 V.length (dpc V)), (false, .pin 0 b)]
/-- The changes, as one thing. -/
def depP (V : DV) (last : Int) (b : Nat) : AbP := absP (depO V last b) (.p 0 0)
theorem dep_pins (V : DV) (last : Int) (b : Nat) : Pins (depP V last b) (ptr b) := pins_abs (k := 2) rfl
def stf (s : Int) (x : Ch × Option Addr × Nat) : Ch × Option Addr × Nat := ({ x.1 with st := s }, x.2)
/-- Those at places are in a state from now on. -/
def setP (V : DV) (ps : List Int) (s : Int) : DV := ps.foldl (fun V p => V.modify p.toNat (stf s)) V
theorem setP_len (s : Int) : ∀ (ps : List Int) (V : DV), (setP V ps s).length = V.length
  | [], _ => rfl
  | p :: ps, V => by rw [setP, List.foldl_cons, ← setP, setP_len s ps, List.length_modify]
theorem setP_snoc (V : DV) (ps : List Int) (p : Int) (s : Int) : setP V (ps ++ [p]) s = (setP V ps s).modify p.toNat (stf s) := by rw [setP, List.foldl_append]; rfl
theorem stf_stf (s : Int) (x : Ch × Option Addr × Nat) : stf s (stf s x) = stf s x := rfl
theorem setP_at (s : Int) : ∀ (ps : List Int) (V : DV) (i : Nat) (h : i < V.length) (_ : ∀ p ∈ ps, 0 ≤ p), (setP V ps s)[i]? = some (if (i : Int) ∈ ps then stf s V[i] else V[i])
  | [], V, i, h, _ => by simp [setP, h]
  | p :: ps, V, i, h, hp => by
    have h0 := hp p (by simp)
    rw [setP, List.foldl_cons, ← setP, setP_at s ps _ i (by rw [List.length_modify]; exact h) fun x hx => hp x (by simp [hx])]
    rw [List.getElem_modify]
    congr 1
    by_cases h1 : p.toNat = i
    · have h2 : (i : Int) = p := by omega
      rw [if_pos h1, if_pos (List.mem_cons.2 (.inl h2)), stf_stf, ite_self]
    · have h2 : ¬ (i : Int) = p := by omega
      rw [if_neg h1]
      by_cases h3 : (i : Int) ∈ ps
      · rw [if_pos h3, if_pos (by simp [h3])]
      · rw [if_neg h3, if_neg (by simp [h2, h3])]
theorem setP_eq {V : DV} {ps : List Int} {s : Int} {p : Ch → Bool} (h0 : ∀ x ∈ ps, 0 ≤ x) (h : ∀ (i : Nat) (hi : i < V.length), (i : Int) ∈ ps ↔ p V[i].1 = true) : chs (setP V ps s) = setF p s (chs V) := by
  apply List.ext_getElem?
  intro i
  rcases Nat.lt_or_ge i V.length with hi | hi
  · rw [chs, List.getElem?_map, setP_at s ps V i hi h0, setF, List.getElem?_map, chs, List.getElem?_map, List.getElem?_eq_getElem hi]
    simp only [Option.map_some, h i hi]
    congr 1
    split <;> rfl
  · rw [List.getElem?_eq_none (by rw [chs, List.length_map, setP_len]; exact hi), List.getElem?_eq_none (by rw [setF_len, chs, List.length_map]; exact hi)]
theorem ofT_iff {V : DV} {k s : Int} : ∀ (j : Nat), j ≤ V.length → ∀ (i : Nat) (hi : i < V.length), (i : Int) ∈ ofT (chs V) k s j ↔ i < j ∧ (V[i].1.at' == k && V[i].1.st == s) = true
  | 0, _, i, hi => by simp [ofT]
  | j + 1, hj, i, hi => by
    have ih := ofT_iff (V := V) (k := k) (s := s) j (by omega) i hi
    rw [ofT_succ (by omega)]
    by_cases hc : (V[j].1.at' == k && V[j].1.st == s) = true
    · rw [if_pos hc, List.mem_append, ih, List.mem_singleton]
      constructor
      · rintro (⟨h1, h2⟩ | h)
        · exact ⟨by omega, h2⟩
        · have : i = j := by omega
          subst this
          exact ⟨by omega, hc⟩
      · rintro ⟨h1, h2⟩
        by_cases h3 : i = j
        · right; omega
        · exact .inl ⟨by omega, h2⟩
    · rw [if_neg hc, ih]
      constructor
      · rintro ⟨h1, h2⟩; exact ⟨by omega, h2⟩
      · rintro ⟨h1, h2⟩
        have : i ≠ j := fun h => by subst h; exact hc h2
        exact ⟨by omega, h2⟩
theorem ofI_iff {V : DV} {k s : Int} (i : Nat) (hi : i < V.length) : (i : Int) ∈ ofI (chs V) k s ↔ (V[i].1.at' == k && V[i].1.st == s) = true := by
  rw [ofI, show (chs V).length = V.length by simp, ofT_iff _ (Nat.le_refl _) i hi]
  exact ⟨fun h => h.2, fun h => ⟨hi, h⟩⟩
theorem chs_lost (V : DV) (k : Int) : chs (setP V (ofI (chs V) k 2) 1) = setK k 1 (chs V) := setP_eq (fun _ h => (ofI_mem h).1) fun i hi => ofI_iff i hi
theorem rdyI_iff {V : DV} (hs : srtV V) {k : Int} (i : Nat) (hi : i < V.length) : (i : Int) ∈ rdyI (chs V) k V.length ↔ (rdyN (chs V) k).contains V[i].1.no = true := by
  rw [List.contains_iff_mem, ← nosP_rdy hs, nosP]
  constructor
  · intro h
    exact List.mem_map.2 ⟨_, h, noAt_eq hi⟩
  · intro h
    obtain ⟨p, hp, hn⟩ := List.mem_map.1 h
    obtain ⟨h0, h1⟩ := rdyI_mem hs k p hp
    obtain ⟨j, rfl⟩ : ∃ j : Nat, p = (j : Int) := ⟨p.toNat, by omega⟩
    have hj : j < V.length := by omega
    rw [noAt_eq hj] at hn
    have : i = j := by
      rcases Nat.lt_trichotomy i j with hlt | he | hlt
      · have := hs _ _ hi hj hlt; omega
      · exact he
      · have := hs _ _ hj hi hlt; omega
    exact this ▸ hp
theorem chs_sent {V : DV} (hs : srtV V) (k : Int) : chs (setP V (rdyI (chs V) k V.length) 2) = setN (rdyN (chs V) k) 2 (chs V) := setP_eq (fun p h => (rdyI_mem hs k p h).1) fun i hi => rdyI_iff hs i hi
theorem setP_fz {V : DV} {ps : List Int} {s : Int} : (∀ p ∈ ps, 0 ≤ p) → (setP V ps s).map (fun x => (x.1.no, x.1.at', x.1.off, x.1.by', fz x)) = V.map fun x => (x.1.no, x.1.at', x.1.off, x.1.by', fz x) := by
  intro h0
  apply List.ext_getElem?
  intro i
  rcases Nat.lt_or_ge i V.length with hi | hi
  · rw [List.getElem?_map, setP_at s ps V i hi h0, List.getElem?_map, List.getElem?_eq_getElem hi]
    simp only [Option.map_some]
    congr 1
    split <;> rfl
  · rw [List.getElem?_eq_none (by rw [List.length_map, setP_len]; exact hi), List.getElem?_eq_none (by rw [List.length_map]; exact hi)]
theorem SubW_of {V V' : DV} {W : List (List Int × Option Addr × Nat)} (h : SubW V W) (he : ∀ x ∈ V', ∃ y ∈ V, fz y = fz x) : SubW V' W := fun x hx => by
  obtain ⟨y, hy, e⟩ := he x hx
  rw [← e]; exact h y hy
theorem setP_mem {V : DV} {ps : List Int} {s : Int} (h0 : ∀ p ∈ ps, 0 ≤ p) {x : Ch × Option Addr × Nat} (hx : x ∈ setP V ps s) : ∃ y ∈ V, y.1.no = x.1.no ∧ y.1.at' = x.1.at' ∧ y.1.off = x.1.off ∧ y.1.by' = x.1.by' ∧ fz y = fz x := by
  have h1 : (x.1.no, x.1.at', x.1.off, x.1.by', fz x) ∈ (setP V ps s).map fun x => (x.1.no, x.1.at', x.1.off, x.1.by', fz x) := List.mem_map.2 ⟨x, hx, rfl⟩
  rw [setP_fz h0] at h1
  obtain ⟨y, hy, e⟩ := List.mem_map.1 h1
  simp only [Prod.mk.injEq] at e
  exact ⟨y, hy, e⟩
theorem setP_no {V : DV} {ps : List Int} {s : Int} (h0 : ∀ p ∈ ps, 0 ≤ p) : (chs (setP V ps s)).map Ch.no = (chs V).map Ch.no := by
  have := congrArg (List.map fun x : Int × Int × Int × ByteArray × List Int × Option Addr × Nat => x.1) (setP_fz (V := V) (ps := ps) (s := s) h0)
  rw [List.map_map, List.map_map] at this
  rw [chs, chs, List.map_map, List.map_map]
  exact this
theorem srtV_no {V V' : DV} (h : srtV V) (e : (chs V').map Ch.no = (chs V).map Ch.no) : srtV V' := by
  have hl : V'.length = V.length := by simpa using congrArg List.length e
  have he : ∀ i (hi : i < V'.length) (hj : i < V.length), V'[i].1.no = V[i].1.no := fun i hi hj => by
    have := congrArg (fun l => l[i]?) e
    simpa [hi, hj] using this
  intro i j hi hj hij
  rw [he i hi (by omega), he j hj (by omega)]
  exact h i j _ _ hij
theorem VOk.setP {V : DV} (ok : VOk V) {ps : List Int} {s : Int} (h0 : ∀ p ∈ ps, 0 ≤ p) : VOk (setP V ps s) := by
  refine ⟨by rw [setP_len]; exact ok.z, srtV_no ok.srt (setP_no h0), fun x hx => ?_, fun x hx => ?_, fun x hx => ?_, fun x hx => ?_⟩
  · obtain ⟨y, hy, h1, _⟩ := setP_mem h0 hx
    rw [← h1]; exact ok.no y hy
  · obtain ⟨y, hy, _, _, _, _, h1⟩ := setP_mem h0 hx
    have := ok.ah y hy
    rw [show y.1.ah = x.1.ah from congrArg Prod.fst h1] at this
    exact this
  · obtain ⟨y, hy, _, _, _, h1, _⟩ := setP_mem h0 hx
    rw [← h1]; exact ok.by' y hy
  · obtain ⟨y, hy, _, h1, _⟩ := setP_mem h0 hx
    rw [← h1]; exact ok.sec y hy
theorem set_dpc {V : DV} {i : Nat} {s : Int} (h : i < V.length) : Vc.setAt (dpc V) ((i : Int).toNat * 6 + 5) [Value.int .i64 s] = dpc (V.modify i (stf s)) := by
  have h1 : V.modify i (stf s) = V.set i (stf s V[i]) := by
    apply List.ext_getElem?
    intro j
    rw [List.getElem?_modify, List.getElem?_set]
    by_cases hj : i = j
    · subst hj; simp [h]
    · simp [hj]
  rw [h1, Int.toNat_natCast]
  exact set_fcs depC_len h (by decide) rfl
section
variable {H : HL} {nx d q b : Nat} {b1 : Bool} {V : DV} {W : List (List Int × Option Addr × Nat)} {last : Int}
def dpH (V : DV) (last : Int) (b : Nat) : HL := [(1, some (true, .cells [.nm 2, iT last] 138)), (2, some (true, .own 140 6 V.length (dpc V))), (3, some (false, .pin 1 b))]
def lsE (L : List Ch) (k : Int) : Int := if (ofI L k 2).length = 0 then 120 else 0
set_option maxRecDepth 100000 in
set_option maxHeartbeats 2000000 in
theorem lostA (hd : lookH H d = some (true, .ab (depP V last b))) (z : V.length ≤ 1000000) (k : Int) :
    FnH Tryz.prog 67 [.c (.nm d), .c (iT k)] H nx ⟨.t (.c (iT (lsE (chs V) k))), [], [(d, some (.ab (depP (setP V (ofI (chs V) k 2) 1) last b)))], []⟩ := by
  refine fnA (fn := Tryz.f67) 28 rfl rfl rfl hd (ptr b) (dep_pins _ _ _) (dep_pins _ _ _) rfl rfl rfl (v' := .t (.c (iT (lsE (chs V) k)))) (news' := []) rfl rfl rfl rfl fun w Wr => ?_
  refine At.unfoldTo 0 (L1 := [(0, .t (.c (.p 1 0))), (1, .t (.c (iT k)))]) (H1 := [(1, some (true, .cells [.nm 2, iT last] 138)), (2, some (true, .own 140 6 V.length (dpc V))), (3, some (false, .pin 1 b)), (0, none), (0, some (true, .ab (depP V last b)))]) (nx1 := 4) rfl rfl rfl rfl rfl rfl ?_
  have hof := fun (H : HL) (nx : Nat) (h1 : lookH H 1 = some (true, .cells [.nm 2, iT last] 138)) (h2 : lookH H 2 = some (true, .own 140 6 V.length (dpc V))) => ofU (nx := nx) h1 h2 z k 2
  have hple := ofI_le V k 2
  have hpm := fun p (h : p ∈ ofI (chs V) k 2) => ofI_mem h
  have hls : lsE (chs V) k = if (ofI (chs V) k 2).length = 0 then 120 else 0 := rfl
  generalize ofI (chs V) k 2 = ps at *
  by_cases h0 : ps.length = 0
  · rw [hls, if_pos h0]
    obtain rfl : ps = [] := List.length_eq_zero_iff.1 h0
    refine rn [(10, .spec ⟨.t (.c (.nm 4)), [(true, .own 3 1 0 (ivs []))], [], []⟩), (13, .dec true)] rfl (by (repeat' (first | exact trivial | exact rfl | exact trivial | exact fun _ => trivial | first | exact hof _ _ rfl rfl | rfl | refine And.intro ?_ ?_))) ?_
    refine Done.fold [(0, 1), (1, 2), (2, 3)] (depO (setP V [] 1) last b) (.p 0 0) (by repeat' (first | exact trivial | exact rfl | refine And.intro ?_ ?_)) rfl rfl (fun _ => rfl) ?_
    exact retM tysOk [(0, 5)] rfl (by repeat' (first | exact trivial | exact rfl | refine And.intro ?_ ?_)) (by repeat' (first | exact trivial | exact rfl | refine And.intro ?_ ?_)) rfl rfl
  · rw [hls, if_neg h0]
    have g1 : ((ps.length : Int) == 0) = false := by simp; exact fun h => h0 (by rw [h]; rfl)
    refine rn [(10, .spec ⟨.t (.c (.nm 4)), [(true, .own 3 1 ps.length (ivs ps))], [], []⟩), (13, .dec false)] rfl (by (repeat' (first | exact trivial | exact rfl | exact trivial | exact fun _ => trivial | first | exact hof _ _ rfl rfl | exact g1 | refine And.intro ?_ ?_))) ?_
    refine At.loop (X := (j : Nat) ×' (j ≤ ps.length)) 5 (fun x => ps.length - x.1)
      (fun x => [(0, .t (.c (.p 1 0))), (14, .t (.c (.nm 4))), (15, .t (.c (iT (ps.length : Nat)))), (16, .t (.c (iT (x.1 : Nat))))])
      (fun x => [(1, some (true, .cells [.nm 2, iT last] 138)), (2, some (true, .own 140 6 V.length (dpc (setP V (ps.take x.1) 1)))), (3, some (false, .pin 1 b)), (4, some (true, .own 3 1 ps.length (ivs ps)))]) ⟨0, by omega⟩ [] (fun x => wf rfl rfl) (by repeat' (first | exact trivial | exact rfl | refine And.intro ?_ ?_)) (by repeat' (first | exact trivial | exact rfl | refine And.intro ?_ ?_)) rfl fun x => ?_
    obtain ⟨j, hj⟩ := x
    have w3 : IntKind.i64.wrap ((j : Int) + 1) = ((j + 1 : Nat) : Int) := by rw [wrap_sm (by omega) (by omega)]; omega
    refine rn [] rfl (by repeat' (first | exact trivial | exact rfl | refine And.intro ?_ ?_)) ?_
    refine ⟨fun h => ?_, fun h => ?_⟩
    · have hlt : j < ps.length := by have : (j : Int) < (ps.length : Int) := of_decide_eq_true h; omega
      clear h
      obtain ⟨p0, p1⟩ := hpm ps[j] (List.getElem_mem hlt)
      have e1 : (ivs ps)[(j : Int).toNat * 1]? = some (.int .i64 ps[j]) := by simpa using ivs_at hlt
      have hsu : setP V (ps.take (j + 1)) 1 = (setP V (ps.take j) 1).modify ps[j].toNat (stf 1) := by rw [List.take_succ_eq_append_getElem hlt, setP_snoc]
      obtain ⟨i, hi⟩ : ∃ i : Nat, ps[j] = (i : Int) := ⟨ps[j].toNat, by omega⟩
      rw [hi] at e1 hsu p0 p1
      have hiv : i < (setP V (ps.take j) 1).length := by rw [setP_len]; omega
      have hst := set_dpc (s := 1) hiv
      rw [Int.toNat_natCast] at hsu
      rw [← hsu] at hst
      have b0 : (0 : Int) ≤ (j : Int) := by omega
      have b1 : (j : Int) < (ps.length : Int) := by omega
      have c5 : (i : Int).toNat * 6 + 5 + 1 ≤ (dpc (setP V (ps.take j) 1)).length := by rw [dpc_length]; omega
      have c6 : (i : Int).toNat * 6 + 5 < (dpc (setP V (ps.take j) 1)).length := c5
      have c7 : (i : Int).toNat * 6 < (dpc (setP V (ps.take j) 1)).length := by omega
      refine rn [(19, .ld [iT (i : Nat)])] rfl (by (repeat' (first | exact trivial | exact rfl | exact trivial | exact fun _ => trivial | first | exact e1 | exact ⟨e1, trivial⟩ | exact b0 | exact b1 | exact p0 | exact p1 | exact c5 | exact c6 | exact c7 | decide | refine And.intro ?_ ?_))) ?_
      exact roundEnd ⟨j + 1, by omega⟩ [] (by show ps.length - (j + 1) < ps.length - j; omega) (by (repeat' (first | exact trivial | exact rfl | exact w3 | exact fun _ => w3 | refine And.intro ?_ ?_))) (by (repeat' (first | exact trivial | exact rfl | exact trivial | exact fun _ => trivial | exact hst | refine And.intro ?_ ?_))) rfl
    · have hlt : j = ps.length := by have : ¬ (j : Int) < (ps.length : Int) := of_decide_eq_false h; omega
      have hw : ps.take j = ps := by rw [hlt, List.take_length]
      refine rn [] rfl (by repeat' (first | exact trivial | exact rfl | refine And.intro ?_ ?_)) (roundExit rfl ?_)
      refine rnA [] rfl (by repeat' (first | exact trivial | exact rfl | refine And.intro ?_ ?_)) ?_
      rw [hw]
      refine Done.fold [(0, 1), (1, 2), (2, 3)] (depO (setP V ps 1) last b) (.p 0 0) (by (repeat' (first | exact trivial | exact rfl | exact trivial | exact fun _ => trivial | exact (setP_len 1 ps V).symm | refine And.intro ?_ ?_))) rfl rfl (fun _ => rfl) ?_
      exact retM tysOk [(0, 5)] rfl (by repeat' (first | exact trivial | exact rfl | refine And.intro ?_ ?_)) (by repeat' (first | exact trivial | exact rfl | refine And.intro ?_ ?_)) rfl rfl
/-- What is sent, and how it ends. -/
def sdE (L : List Ch) (k : Int) : Int := if (ofI L k 2).length = 0 then (if (rdyN L k).length = 0 then 5 else 0) else 120
def sdL (L : List Ch) (k : Int) : List Int := if (ofI L k 2).length = 0 then rdyN L k else []
def sdV (V : DV) (k : Int) : DV := if (ofI (chs V) k 2).length = 0 then setP V (rdyI (chs V) k V.length) 2 else V
theorem nosP_setP {V : DV} {ps qs : List Int} {s : Int} (h0 : ∀ p ∈ ps, 0 ≤ p) : nosP (chs (setP V ps s)) qs = nosP (chs V) qs := by
  have h := setP_no (V := V) (s := s) h0
  refine List.map_congr_left fun p _ => ?_
  have h1 := congrArg (fun l => l[p.toNat]?) h
  simp only [List.getElem?_map (f := Ch.no)] at h1
  unfold noAt
  generalize (chs (setP V ps s))[p.toNat]? = u at *
  generalize (chs V)[p.toNat]? = v at *
  cases u <;> cases v <;> simp_all
set_option maxRecDepth 100000 in
set_option maxHeartbeats 4000000 in
theorem sendA (hd : lookH H d = some (true, .ab (depP V last b))) (hq : lookH H q = some (b1, .ab (frzP W))) (hdq : d ≠ q) (sub : SubW V W) (ok : VOk V) (k : Int) :
    FnH Tryz.prog 99 [.c (.nm d), .c (iT k)] H nx ⟨.tup [.c (.nm nx), .c (iT (sdE (chs V) k))], [(true, .own 3 1 (sdL (chs V) k).length (ivs (sdL (chs V) k)))], [(d, some (.ab (depP (sdV V k) last b)))], []⟩ := by
  refine fnA1f (fn := Tryz.f99) 37 rfl rfl rfl hd hq hdq (ptr b) (dep_pins _ _ _) (dep_pins _ _ _) rfl rfl rfl (v' := .tup [.c (.nm 1), .c (iT (sdE (chs V) k))]) (news' := [(true, .own 3 1 (sdL (chs V) k).length (ivs (sdL (chs V) k)))]) rfl rfl rfl rfl fun w Wr => ?_
  refine At.unfoldTo 0 (L1 := [(0, .t (.c (.p 2 0))), (1, .t (.c (iT k)))]) (H1 := [(2, some (true, .cells [.nm 3, iT last] 138)), (3, some (true, .own 140 6 V.length (dpc V))), (4, some (false, .pin 2 b)), (0, none), (0, some (true, .ab (depP V last b))), (1, some (false, .ab (frzP W)))]) (nx1 := 5) rfl rfl rfl rfl rfl rfl ?_
  have z := ok.zz
  have hof := fun (H : HL) (nx : Nat) (h1 : lookH H 2 = some (true, .cells [.nm 3, iT last] 138)) (h2 : lookH H 3 = some (true, .own 140 6 V.length (dpc V))) => ofU (nx := nx) h1 h2 z k 2
  have hrd := fun (H : HL) (nx : Nat) (h1 : lookH H 2 = some (true, .cells [.nm 3, iT last] 138)) (h2 : lookH H 3 = some (true, .own 140 6 V.length (dpc V))) (h3 : lookH H 1 = some (false, .ab (frzP W))) => readyU (nx := nx) h1 h2 h3 sub z ok.srt ok.no ok.ah k
  have hple := rdyI_len V k
  have hpm := rdyI_mem ok.srt k
  have hnr := nosP_rdy ok.srt k
  have hls : sdE (chs V) k = if (ofI (chs V) k 2).length = 0 then (if (rdyN (chs V) k).length = 0 then 5 else 0) else 120 := rfl
  have hll : sdL (chs V) k = if (ofI (chs V) k 2).length = 0 then rdyN (chs V) k else [] := rfl
  have hlv : sdV V k = if (ofI (chs V) k 2).length = 0 then setP V (rdyI (chs V) k V.length) 2 else V := rfl
  rw [← hnr] at hls hll
  have hnl : (nosP (chs V) (rdyI (chs V) k V.length)).length = (rdyI (chs V) k V.length).length := by rw [nosP, List.length_map]
  rw [hnl] at hls
  generalize ofI (chs V) k 2 = us at *
  generalize rdyI (chs V) k V.length = ps at *
  by_cases hu : us.length = 0
  · rw [if_pos hu] at hls hll hlv
    rw [hll, hlv]
    have g0 : decide ((us.length : Int) > 0) = false := by simp [hu]
    by_cases h0 : ps.length = 0
    · rw [hls, if_pos h0]
      obtain rfl : ps = [] := List.length_eq_zero_iff.1 h0
      refine rn [(11, .spec ⟨.t (.c (.nm 5)), [(true, .own 3 1 us.length (ivs us))], [], []⟩), (13, .dec false), (16, .spec ⟨.t (.c (.nm 6)), [(true, .own 3 1 0 (ivs []))], [], []⟩), (19, .dec true)] rfl (by (repeat' (first | exact trivial | exact rfl | exact trivial | exact fun _ => trivial | first | exact hof _ _ rfl rfl | exact hrd _ _ rfl rfl rfl | exact g0 | rfl | refine And.intro ?_ ?_))) ?_
      refine Done.fold [(0, 2), (1, 3), (2, 4)] (depO (setP V [] 2) last b) (.p 0 0) (by repeat' (first | exact trivial | exact rfl | refine And.intro ?_ ?_)) rfl rfl (fun _ => rfl) ?_
      refine Done.nil 4 3 1 rfl ?_
      exact retM tysOk [(0, 7), (1, 8)] rfl (by repeat' (first | exact trivial | exact rfl | refine And.intro ?_ ?_)) (by repeat' (first | exact trivial | exact rfl | refine And.intro ?_ ?_)) rfl rfl
    · rw [hls, if_neg h0]
      have g1 : ((ps.length : Int) == 0) = false := by simp; exact fun h => h0 (by rw [h]; rfl)
      refine rn [(11, .spec ⟨.t (.c (.nm 5)), [(true, .own 3 1 us.length (ivs us))], [], []⟩), (13, .dec false), (16, .spec ⟨.t (.c (.nm 6)), [(true, .own 3 1 ps.length (ivs ps))], [], []⟩), (19, .dec false)] rfl (by (repeat' (first | exact trivial | exact rfl | exact trivial | exact fun _ => trivial | first | exact hof _ _ rfl rfl | exact hrd _ _ rfl rfl rfl | exact g0 | exact g1 | refine And.intro ?_ ?_))) ?_
      refine At.loop (X := (j : Nat) ×' (j ≤ ps.length)) 7 (fun x => ps.length - x.1)
        (fun x => [(0, .t (.c (.p 2 0))), (6, .t (.c (.nm 6))), (20, .t (.c (.nm 6))), (21, .t (.c (iT (ps.length : Nat)))), (22, .t (.c (iT (x.1 : Nat))))])
        (fun x => [(2, some (true, .cells [.nm 3, iT last] 138)), (3, some (true, .own 140 6 V.length (dpc (setP V (ps.take x.1) 2)))), (4, some (false, .pin 2 b)), (6, some (true, .own 3 1 ps.length (ivs ps)))]) ⟨0, by omega⟩ [] (fun x => wf rfl rfl) (by repeat' (first | exact trivial | exact rfl | refine And.intro ?_ ?_)) (by repeat' (first | exact trivial | exact rfl | refine And.intro ?_ ?_)) rfl fun x => ?_
      obtain ⟨j, hj⟩ := x
      have w3 : IntKind.i64.wrap ((j : Int) + 1) = ((j + 1 : Nat) : Int) := by rw [wrap_sm (by omega) (by omega)]; omega
      refine rn [] rfl (by repeat' (first | exact trivial | exact rfl | refine And.intro ?_ ?_)) ?_
      refine ⟨fun h => ?_, fun h => ?_⟩
      · have hlt : j < ps.length := by have : (j : Int) < (ps.length : Int) := of_decide_eq_true h; omega
        clear h
        obtain ⟨p0, p1⟩ := hpm ps[j] (List.getElem_mem hlt)
        have e1 : (ivs ps)[(j : Int).toNat * 1]? = some (.int .i64 ps[j]) := by simpa using ivs_at hlt
        have hsu : setP V (ps.take (j + 1)) 2 = (setP V (ps.take j) 2).modify ps[j].toNat (stf 2) := by rw [List.take_succ_eq_append_getElem hlt, setP_snoc]
        obtain ⟨i, hi⟩ : ∃ i : Nat, ps[j] = (i : Int) := ⟨ps[j].toNat, by omega⟩
        rw [hi] at e1 hsu p0 p1
        have hiv : i < (setP V (ps.take j) 2).length := by rw [setP_len]; omega
        have hst := set_dpc (s := 2) hiv
        rw [Int.toNat_natCast] at hsu
        rw [← hsu] at hst
        have b0 : (0 : Int) ≤ (j : Int) := by omega
        have b1 : (j : Int) < (ps.length : Int) := by omega
        have c5 : (i : Int).toNat * 6 + 5 + 1 ≤ (dpc (setP V (ps.take j) 2)).length := by rw [dpc_length]; omega
        have c6 : (i : Int).toNat * 6 + 5 < (dpc (setP V (ps.take j) 2)).length := c5
        have c7 : (i : Int).toNat * 6 < (dpc (setP V (ps.take j) 2)).length := by omega
        refine rn [(25, .ld [iT (i : Nat)])] rfl (by (repeat' (first | exact trivial | exact rfl | exact trivial | exact fun _ => trivial | first | exact e1 | exact ⟨e1, trivial⟩ | exact b0 | exact b1 | exact p0 | exact p1 | exact c5 | exact c6 | exact c7 | decide | refine And.intro ?_ ?_))) ?_
        exact roundEnd ⟨j + 1, by omega⟩ [] (by show ps.length - (j + 1) < ps.length - j; omega) (by (repeat' (first | exact trivial | exact rfl | exact w3 | exact fun _ => w3 | refine And.intro ?_ ?_))) (by (repeat' (first | exact trivial | exact rfl | exact trivial | exact fun _ => trivial | exact hst | refine And.intro ?_ ?_))) rfl
      · have hlt : j = ps.length := by have : ¬ (j : Int) < (ps.length : Int) := of_decide_eq_false h; omega
        have hw : ps.take j = ps := by rw [hlt, List.take_length]
        refine rn [] rfl (by repeat' (first | exact trivial | exact rfl | refine And.intro ?_ ?_)) (roundExit rfl ?_)
        rw [hw]
        have hsl := setP_len 2 ps V
        have hnu := nosP_setP (V := V) (qs := ps) (s := 2) fun p h => (hpm p h).1
        have hlz : (setP V ps 2).length ≤ 1000000 := by omega
        have hnb := fun (H : HL) (nx : Nat) (h1 : lookH H 2 = some (true, .cells [.nm 3, iT last] 138)) (h2 : lookH H 3 = some (true, .own 140 6 V.length (dpc (setP V ps 2)))) (h3 : lookH H 6 = some (true, .own 3 1 ps.length (ivs ps))) => numbersU (nx := nx) h1 (by rw [← hsl] at h2; exact h2) h3 (by omega) fun p hp => by rw [hsl]; exact hpm p hp
        rw [hnu] at hnb
        refine rnA [(36, .spec ⟨.t (.c (.nm 7)), [(true, .own 3 1 (nosP (chs V) ps).length (ivs (nosP (chs V) ps)))], [], []⟩)] rfl (by (repeat' (first | exact trivial | exact rfl | exact trivial | exact fun _ => trivial | exact hnb _ _ rfl rfl rfl | refine And.intro ?_ ?_))) ?_
        refine Done.fold [(0, 2), (1, 3), (2, 4)] (depO (setP V ps 2) last b) (.p 0 0) (by (repeat' (first | exact trivial | exact rfl | exact trivial | exact fun _ => trivial | exact hsl.symm | refine And.intro ?_ ?_))) rfl rfl (fun _ => rfl) ?_
        exact retM tysOk [(0, 8), (1, 7)] rfl (by repeat' (first | exact trivial | exact rfl | refine And.intro ?_ ?_)) (by repeat' (first | exact trivial | exact rfl | refine And.intro ?_ ?_)) rfl rfl
  · rw [if_neg hu] at hls hll hlv
    rw [hls, hll, hlv]
    have g0 : decide ((us.length : Int) > 0) = true := by simp; omega
    refine rn [(11, .spec ⟨.t (.c (.nm 5)), [(true, .own 3 1 us.length (ivs us))], [], []⟩), (13, .dec true)] rfl (by (repeat' (first | exact trivial | exact rfl | exact trivial | exact fun _ => trivial | first | exact hof _ _ rfl rfl | exact g0 | refine And.intro ?_ ?_))) ?_
    refine Done.fold [(0, 2), (1, 3), (2, 4)] (depO V last b) (.p 0 0) (by repeat' (first | exact trivial | exact rfl | refine And.intro ?_ ?_)) rfl rfl (fun _ => rfl) ?_
    refine Done.nil 4 3 1 rfl ?_
    exact retM tysOk [(0, 6), (1, 7)] rfl (by repeat' (first | exact trivial | exact rfl | refine And.intro ?_ ?_)) (by repeat' (first | exact trivial | exact rfl | refine And.intro ?_ ?_)) rfl rfl
end
end Cw
namespace Cw
open Go Vc
open Go.Proofs
set_option maxRecDepth 100000
section
variable {H : HL} {nx d q b : Nat} {b1 : Bool} {V : DV} {W : List (List Int × Option Addr × Nat)} {last : Int}
theorem done1c (k : Int) (x : Ch × Option Addr × Nat) : FnH Tryz.prog 104 [.agg (depV x), .c (.p 4 0)] [(4, some (false, .cells [iT k] 3))] 5 ⟨.t (.c (.b (flyB k x.1))), [], [], []⟩ := by
  refine fnR (fn := Tryz.f104) 13 rfl rfl rfl (args' := [.agg (depV x), .c (.p 0 0)]) (H' := [(0, some (false, .cells [iT k] 3))]) (nx' := 1) (fun e w M => ⟨_, mem_rd (fun _ => 4) (H' := [(0, some (false, .cells [iT k] 3))]) ⟨⟨false, rfl⟩, trivial⟩ M, rfl⟩) rfl rfl rfl rfl fun w => ?_
  refine rn [] rfl (by repeat' (first | exact trivial | exact rfl | refine And.intro ?_ ?_)) ?_
  exact ret0 tysOk rfl (by (repeat' (first | exact trivial | exact rfl | exact trivial | exact fun _ => trivial | rfl | refine And.intro ?_ ?_))) rfl
def dnE (L : List Ch) (k : Int) : Int := if (ofI L k 2).length = 0 then 120 else 0
def dnL (L : List Ch) (k : Int) : List Int := nosP L (ofI L k 2)
def dnV (V : DV) (k : Int) : DV := V.filter fun x => !(flyB k x.1)
theorem chs_done (V : DV) (k : Int) : chs (dnV V k) = delK k (chs V) := by
  rw [dnV, delK, chs, chs, List.filter_map]
  rfl
theorem dnV_none {V : DV} {k : Int} (h : ofI (chs V) k 2 = []) : dnV V k = V := by
  refine List.filter_eq_self.2 fun x hx => ?_
  obtain ⟨i, hi, rfl⟩ := List.mem_iff_getElem.1 hx
  have := (ofI_iff (k := k) (s := 2) i hi)
  rw [h] at this
  cases hf : flyB k V[i].1 with
  | false => rfl
  | true => exact absurd (this.2 hf) (by simp)
theorem dnV_le (V : DV) (k : Int) : (dnV V k).length ≤ V.length := List.length_filter_le _ _
theorem VOk.done {V : DV} (ok : VOk V) (k : Int) : VOk (dnV V k) := by
  have hsub : (dnV V k).Sublist V := List.filter_sublist
  refine ⟨Nat.le_trans (dnV_le V k) ok.z, ?_, fun x hx => ok.no x (hsub.mem hx), fun x hx => ok.ah x (hsub.mem hx), fun x hx => ok.by' x (hsub.mem hx), fun x hx => ok.sec x (hsub.mem hx)⟩
  have hp : V.Pairwise fun x y => x.1.no < y.1.no := List.pairwise_iff_getElem.2 fun i j hi hj hij => ok.srt i j hi hj hij
  have := hp.sublist hsub
  exact fun i j hi hj hij => List.pairwise_iff_getElem.1 this i j hi hj hij
theorem SubW.done {V : DV} {W : List (List Int × Option Addr × Nat)} (h : SubW V W) (k : Int) : SubW (dnV V k) W := fun x hx => h x (List.mem_filter.1 hx).1
set_option maxRecDepth 100000 in
set_option maxHeartbeats 2000000 in
theorem doneA (hd : lookH H d = some (true, .ab (depP V last b))) (z : V.length ≤ 1000000) (k : Int) :
    FnH Tryz.prog 66 [.c (.nm d), .c (iT k)] H nx ⟨.tup [.c (.nm nx), .c (iT (dnE (chs V) k))], [(true, .own 3 1 (dnL (chs V) k).length (ivs (dnL (chs V) k)))], [(d, some (.ab (depP (dnV V k) last b)))], []⟩ := by
  refine fnA (fn := Tryz.f66) 25 rfl rfl rfl hd (ptr b) (dep_pins _ _ _) (dep_pins _ _ _) rfl rfl rfl (v' := .tup [.c (.nm 1), .c (iT (dnE (chs V) k))]) (news' := [(true, .own 3 1 (dnL (chs V) k).length (ivs (dnL (chs V) k)))]) rfl rfl rfl rfl fun w Wr => ?_
  refine At.unfoldTo 0 (L1 := [(0, .t (.c (.p 1 0))), (1, .t (.c (iT k)))]) (H1 := [(1, some (true, .cells [.nm 2, iT last] 138)), (2, some (true, .own 140 6 V.length (dpc V))), (3, some (false, .pin 1 b)), (0, none), (0, some (true, .ab (depP V last b)))]) (nx1 := 4) rfl rfl rfl rfl rfl rfl ?_
  have hof := fun (H : HL) (nx : Nat) (h1 : lookH H 1 = some (true, .cells [.nm 2, iT last] 138)) (h2 : lookH H 2 = some (true, .own 140 6 V.length (dpc V))) => ofU (nx := nx) h1 h2 z k 2
  have hnb := fun (H : HL) (nx : Nat) (h1 : lookH H 1 = some (true, .cells [.nm 2, iT last] 138)) (h2 : lookH H 2 = some (true, .own 140 6 V.length (dpc V))) (h3 : lookH H 5 = some (true, .own 3 1 (ofI (chs V) k 2).length (ivs (ofI (chs V) k 2)))) => numbersU (nx := nx) h1 h2 h3 (Nat.le_trans (ofI_le V k 2) z) fun p hp => ofI_mem hp
  have hls : dnE (chs V) k = if (ofI (chs V) k 2).length = 0 then 120 else 0 := rfl
  have hll : dnL (chs V) k = nosP (chs V) (ofI (chs V) k 2) := rfl
  have hnl : (nosP (chs V) (ofI (chs V) k 2)).length = (ofI (chs V) k 2).length := by rw [nosP, List.length_map]
  rw [hll, hls]
  have hdn := dnV_none (V := V) (k := k)
  have hdl := fun (H : HL) (nx : Nat) (h2 : lookH H 2 = some (true, .own 140 6 V.length (dpc V))) (hs : capsOk 2 H [(4, some (false, .cells [iT k] 3))]) => deleteD_h (nx := nx) (Hc := [(4, some (false, .cells [iT k] 3))]) (nc := 5) (g := 104) (caps := [(4, 0)]) (xs := V) (pd := fun x => flyB k x.1) (fun _ => True) rfl rfl rfl (fun x _ => done1c k x) h2 hs (fun _ _ => trivial) z
  generalize ofI (chs V) k 2 = us at *
  by_cases h0 : us.length = 0
  · rw [if_pos h0]
    obtain rfl : us = [] := List.length_eq_zero_iff.1 h0
    rw [hdn rfl]
    refine rn [(10, .spec ⟨.t (.c (.nm 5)), [(true, .own 3 1 0 (ivs []))], [], []⟩), (11, .spec ⟨.t (.c (.nm 6)), [(true, .own 3 1 0 (ivs []))], [], []⟩), (14, .dec true)] rfl (by (repeat' (first | exact trivial | exact rfl | exact trivial | exact fun _ => trivial | first | exact hof _ _ rfl rfl | exact hnb _ _ rfl rfl rfl | rfl | refine And.intro ?_ ?_))) ?_
    refine Done.fold [(0, 1), (1, 2), (2, 3)] (depO V last b) (.p 0 0) (by repeat' (first | exact trivial | exact rfl | refine And.intro ?_ ?_)) rfl rfl (fun _ => rfl) ?_
    refine Done.nil 4 3 1 rfl ?_
    exact retM tysOk [(0, 7), (1, 8)] rfl (by repeat' (first | exact trivial | exact rfl | refine And.intro ?_ ?_)) (by repeat' (first | exact trivial | exact rfl | refine And.intro ?_ ?_)) rfl rfl
  · rw [if_neg h0]
    have g1 : (((nosP (chs V) us).length : Int) == 0) = false := by rw [hnl]; simp; exact fun h => h0 (by rw [h]; rfl)
    refine rn [(10, .spec ⟨.t (.c (.nm 5)), [(true, .own 3 1 us.length (ivs us))], [], []⟩), (11, .spec ⟨.t (.c (.nm 6)), [(true, .own 3 1 (nosP (chs V) us).length (ivs (nosP (chs V) us)))], [], []⟩), (14, .dec false), (21, .spec ⟨.t (.c (.nm 7)), [(true, .own 140 6 (dnV V k).length (dpc (dnV V k)))], [(2, none)], []⟩)] rfl (by (repeat' (first | exact trivial | exact rfl | exact trivial | exact fun _ => trivial | first | exact hof _ _ rfl rfl | exact hnb _ _ rfl rfl rfl | exact g1 | exact hdl _ _ rfl ⟨rfl, ⟨_, rfl⟩, trivial⟩ | refine And.intro ?_ ?_))) ?_
    refine Done.fold [(0, 1), (1, 7), (2, 3)] (depO (dnV V k) last b) (.p 0 0) (by repeat' (first | exact trivial | exact rfl | refine And.intro ?_ ?_)) rfl rfl (fun _ => rfl) ?_
    exact retM tysOk [(0, 8), (1, 6)] rfl (by repeat' (first | exact trivial | exact rfl | refine And.intro ?_ ?_)) (by repeat' (first | exact trivial | exact rfl | refine And.intro ?_ ?_)) rfl rfl
end
end Cw
namespace Vc
open Go Go.RowKit
/-- An env with one more name. -/
def Env.with1 (e0 e : Env) (k q : Nat) : Env := ⟨fun m => if m = k then e.blk q else e0.blk m, fun m => if m = k then e.val q else e0.val m, fun m => if m = k then e.fp q else e0.fp m, fun m => by
  show (if m = k then e.val q else e0.val m).oneCell' = true
  split
  · exact e.one q
  · exact e0.one m⟩
theorem Env.with1_same (e0 e : Env) {k q m : Nat} (h : m ≠ k) : e0.same (e0.with1 e k q) m := ⟨if_neg h, if_neg h, if_neg h⟩
theorem Env.with1_at (e0 e : Env) (k q : Nat) : (e0.with1 e k q).blk k = e.blk q ∧ (e0.with1 e k q).val k = e.val q ∧ (e0.with1 e k q).fp k = e.fp q := ⟨if_pos rfl, if_pos rfl, if_pos rfl⟩
theorem fnh_shutQ {P : Program} {f : FuncId} {bs : List TV} {H : HL} {nx d q : Nat} {O : List (Bool × Ob)} {x : CV} {ψ : AbP} {bq : Bool} {v' : SV} {news' : List (Bool × Ob)} (hd : lookH H d = some (true, .ab (absP O x))) (hq : lookH H q = some (bq, .ab ψ)) (hdq : d ≠ q) (hx : inR 0 O.length x.ns = true) (hO : newsR 0 O.length O = true) (hbs : bares bs = true)
    (hvr : inR 0 news'.length v'.ns = true) (hnr : newsR 0 news'.length news' = true)
    (h : FnH P f (.c x :: bs) ((O.length, some (false, .ab ψ)) :: newsH 0 O) (O.length + 1) ⟨v'.re (O.length + 1 + ·), reN (O.length + 1 + ·) news', [], []⟩) : FnH P f (.c (.nm d) :: bs) H nx ⟨v'.re (nx + ·), reN (nx + ·) news', [(d, some (.ab (absP O x)))], []⟩ := by
  refine ⟨fun hwf _ e w M => ?_⟩
  obtain ⟨⟨hp, hst⟩, hlt⟩ := M.ob d true _ hd
  obtain ⟨hpq, hltq⟩ := M.ob q bq _ hq
  have hp0 := hp
  obtain ⟨e0, h1, h2, h3, h4, h5⟩ := hp
  obtain ⟨e0', he0⟩ : ∃ e0', e0' = e0.with1 e O.length q := ⟨_, rfl⟩
  have hlk : ∀ {n : Nat} {z : Bool × Ob}, lookH ((O.length, some (false, .ab ψ)) :: newsH 0 O) n = some z → n = O.length ∧ z = (false, .ab ψ) ∨ n < O.length ∧ O[n]? = some z := by
    intro n z hn
    rw [lookH_cons] at hn
    split at hn
    · cases hn; exact .inl ⟨by assumption, rfl⟩
    · rw [lookH_newsH, if_pos (Nat.zero_le _), Nat.sub_zero] at hn
      rcases Nat.lt_or_ge n O.length with hl | hl
      · exact .inr ⟨hl, hn⟩
      · rw [List.getElem?_eq_none hl] at hn; cases hn
  have hsm : ∀ {n : Nat}, n < O.length → e0.same e0' n := fun hn => he0 ▸ Env.with1_same e0 e (by omega)
  have hat : e0'.blk O.length = e.blk q ∧ e0'.val O.length = e.val q ∧ e0'.fp O.length = e.fp q := he0 ▸ Env.with1_at e0 e O.length q
  have hM : MemOk ((O.length, some (false, .ab ψ)) :: newsH 0 O) e0' w := by
    refine ⟨fun n b o hn => ?_, fun n o m c q' hn hm hne g hg hg' => ?_⟩
    · rcases hlk hn with ⟨rfl, hz⟩ | ⟨hn', hz⟩
      · cases hz
        refine ⟨?_, fun g hg => ?_⟩
        · show ψ (e0'.val O.length) (e0'.fp O.length) w ∧ _
          rw [hat.2.1, hat.2.2]
          exact hpq
        · rw [hat.2.2] at hg
          exact hltq g hg
      · refine ⟨Ob.same (hsm hn') (h2 n b o hz).1 fun m hm => (hsm (newsR_ok hO n b o hz m hm).2).v, fun g hg => ?_⟩
        rw [(hsm hn').2.2] at hg
        exact h5 g ((h4 g).2 ⟨n, hn', hg⟩)
    · rcases hlk hn with ⟨rfl, hz⟩ | ⟨hn', hz⟩
      · cases hz
      · rcases hlk hm with ⟨rfl, hz2⟩ | ⟨hm', hz2⟩
        · rw [hat.2.2] at hg'
          rw [(hsm hn').2.2] at hg
          exact M.dj d _ q _ _ hd hq hdq g ((h4 g).2 ⟨n, hn', hg⟩) hg'
        · rw [(hsm hn').2.2] at hg
          rw [(hsm hm').2.2] at hg'
          exact h3 n m hn' hm' hne g hg hg'
  have := h.h (fun n z hn => by
      rcases hlk hn with ⟨rfl, hz⟩ | ⟨hn', hz⟩
      · subst hz
        exact ⟨by omega, fun m hm => by simp [Ob.ns] at hm⟩
      · obtain ⟨b, o⟩ := z
        exact ⟨by omega, fun m hm => by have := (newsR_ok hO n b o hz m hm).2; omega⟩) (fun a ha n hn => by
      rcases List.mem_cons.1 ha with rfl | ha
      · have := (inR_ok hx n hn).2; omega
      · exact (bares_no hbs a ha n hn).elim) e0' w hM
  have hargs : (TV.c (.nm d) :: bs).map (TV.den e) = (TV.c x :: bs).map (TV.den e0') := by
    rw [List.map_cons, List.map_cons, bares_den hbs e, bares_den hbs e0']
    congr 1
    show e.val d = x.den e0'
    rw [h1]
    exact (TV.den_same (v := .c x) fun n hn => hsm (inR_ok hx n hn).2).symm
  rw [hargs]
  refine Calls.mono this ?_
  rintro en w' ⟨e1, rfl, K⟩
  have hkeep : ∀ g, g < w.heap.size → w'.heap[g]? = w.heap[g]? := fun g hg => K.block g hg fun n o ho => (by cases ho)
  have hnw : ∀ {j : Nat} {b : Bool} {o : Ob}, news'[j]? = some (b, o) → (o.re (O.length + 1 + ·)).holds e1 (O.length + 1 + j) w' ∧ ∀ g, e1.fp (O.length + 1 + j) g → g < w'.heap.size ∧ w.heap.size ≤ g := by
    intro j b o hj
    have hj' : (reN (O.length + 1 + ·) news')[j]? = some (b, o.re (O.length + 1 + ·)) := by rw [reN_get, hj]; rfl
    cases K with
    | old K =>
      obtain ⟨a1, a2⟩ := K.news j b _ hj'
      refine ⟨a1, fun g hg => ⟨(a2 g hg).1, ?_⟩⟩
      rcases (a2 g hg).2 with a3 | ⟨n, hn, _⟩
      · exact a3
      · cases hn
    | anew K =>
      obtain ⟨a1, a2⟩ := K.news j b _ hj'
      refine ⟨a1, fun g hg => ⟨(a2 g hg).1, ?_⟩⟩
      rcases (a2 g hg).2 with a3 | ⟨n, o', hn, _⟩
      · exact a3
      · cases hn
  have hndj : ∀ j k, j < news'.length → k < news'.length → j ≠ k → ∀ g, e1.fp (O.length + 1 + j) g → ¬ e1.fp (O.length + 1 + k) g := by
    cases K with
    | old K => exact fun j k hj hk => K.ndj j k (by simpa [reN_length] using hj) (by simpa [reN_length] using hk)
    | anew K => exact fun j k hj hk => K.ndj j k (by simpa [reN_length] using hj) (by simpa [reN_length] using hk)
  let e2 : Env := e1.comp (O.length + 1 + ·)
  have hdn : d < nx := (hwf d _ hd).1
  refine ⟨e.open e2 nx news'.length, ?_, .old ⟨?_, K.os, K.tape, K.out, K.size, fun g hg _ => hkeep g hg, ?_, ?_, ?_⟩⟩
  · show Ending.returned ((v'.re (O.length + 1 + ·)).den e1) = _
    have a1 : (v'.re (O.length + 1 + ·)).den e1 = v'.den e2 := SV.re_den (e := e2) (e' := e1) fun n _ => ⟨rfl, rfl⟩
    rw [a1, SV.re_den (e := e2) fun n hn => (Env.open_new e e2 (inR_ok hvr n hn).2).1]
  · intro n hn
    simp only [reN_length] at hn
    refine ⟨?_, ?_, ?_⟩ <;> (show (if _ then _ else _) = _; rw [if_neg (by omega)])
  · intro k b o hk
    rw [reN_get] at hk
    cases hk' : news'[k]? with
    | none => rw [hk'] at hk; cases hk
    | some z =>
      rw [hk'] at hk
      cases hk
      obtain ⟨b, o⟩ := z
      have hltk : k < news'.length := by
        rcases Nat.lt_or_ge k news'.length with hl | hl
        · exact hl
        · rw [List.getElem?_eq_none hl] at hk'; cases hk'
      obtain ⟨q1, q2⟩ := hnw hk'
      obtain ⟨p1, p2⟩ := Env.open_new e e2 (nx := nx) hltk
      have q1' : o.holds e2 k w' := Ob.re_back (r := (O.length + 1 + ·)) (n := k) q1
      refine ⟨Ob.re_holds p1 p2 (fun m hm => (Env.open_new e e2 (newsR_ok hnr k b o hk' m hm).2).1) q1', fun g hg => ?_⟩
      rw [p2] at hg
      exact ⟨(q2 g hg).1, .inl (q2 g hg).2⟩
  · intro j k hj hk hne g hg hg'
    simp only [reN_length] at hj hk
    rw [(Env.open_new e e2 hj).2] at hg
    rw [(Env.open_new e e2 hk).2] at hg'
    exact hndj j k hj hk hne g hg hg'
  · intro n o ho
    simp only [List.mem_singleton, Prod.mk.injEq, Option.some.injEq] at ho
    obtain ⟨rfl, rfl⟩ := ho
    have hs : e.same (e.open e2 nx news'.length) n := Env.open_old e e2 hdn
    exact Ob.same hs (o := .ab (absP O x)) ⟨hst _ _ _ _ hp0 fun g hg => hkeep g (hlt g hg), hst⟩ fun m hm => by simp [Ob.ns] at hm
end Vc
namespace Cw
open Go Vc
open Go.Proofs
set_option maxRecDepth 100000
def ix (x : Int) : List Int → Nat
  | [] => 0
  | y :: l => if y = x then 0 else ix x l + 1
def ixI (x : Int) (l : List Int) : Int := if x ∈ l then (ix x l : Nat) else -1
end Cw
namespace Cw
open Go Vc
open Go.Proofs
set_option maxRecDepth 100000
def keysRS : Go.Shelf.Ren := ⟨fun | 6 => 38 | 7 => 94 | 8 => 75 | 9 => 76 | 10 => 126 | 11 => 110 | n => n, fun | 3 => 4 | 4 => 4 | 23 => 166 | 24 => 34 | 26 => 3 | 27 => 95 | 28 => 96 | 33 => 98 | n => n, fun n => n⟩
theorem keysL6S : Go.Proofs.SlLaysZI.n6 Tryz.prog keysRS := {
mixed := by kernel_rfl
f6 := ⟨Tryz.f38.name, by decide, Tryz.func38.trans (congrArg some (by kernel_rfl))⟩
f8 := ⟨Tryz.f75.name, by decide, Tryz.func75.trans (congrArg some (by kernel_rfl))⟩
f11 := ⟨Tryz.f110.name, by decide, Tryz.func110.trans (congrArg some (by kernel_rfl))⟩
t0 := Tryz.underlying0
a0 := Tryz.isAgg0
z0 := Tryz.sizeOf0
v0 := Tryz.zeroValue0
t24 := Tryz.underlying34
a24 := Tryz.isAgg34
z24 := Tryz.sizeOf34
v24 := Tryz.zeroValue34
t26 := Tryz.underlying3
a26 := Tryz.isAgg3
z26 := Tryz.sizeOf3
v26 := Tryz.zeroValue3
t28 := Tryz.underlying96
a28 := Tryz.isAgg96
z28 := Tryz.sizeOf96
v28 := Tryz.zeroValue96
i26 := by kernel_rfl }
theorem keysL7S : Go.Proofs.SlLaysZI.n7 Tryz.prog keysRS := {
mixed := by kernel_rfl
f7 := ⟨Tryz.f94.name, by decide, Tryz.func94.trans (congrArg some (by kernel_rfl))⟩
f10 := ⟨Tryz.f126.name, by decide, Tryz.func126.trans (congrArg some (by kernel_rfl))⟩
t0 := Tryz.underlying0
a0 := Tryz.isAgg0
z0 := Tryz.sizeOf0
v0 := Tryz.zeroValue0
t4 := Tryz.underlying4
a4 := Tryz.isAgg4
z4 := Tryz.sizeOf4
v4 := Tryz.zeroValue4
t23 := Tryz.underlying166
a23 := Tryz.isAgg166
z23 := Tryz.sizeOf166
v23 := Tryz.zeroValue166
t26 := Tryz.underlying3
a26 := Tryz.isAgg3
z26 := Tryz.sizeOf3
v26 := Tryz.zeroValue3
t27 := Tryz.underlying95
a27 := Tryz.isAgg95
z27 := Tryz.sizeOf95
v27 := Tryz.zeroValue95
t28 := Tryz.underlying96
a28 := Tryz.isAgg96
z28 := Tryz.sizeOf96
v28 := Tryz.zeroValue96
t33 := Tryz.underlying98
a33 := Tryz.isAgg98
z33 := Tryz.sizeOf98
v33 := Tryz.zeroValue98 }
theorem sortsS (m : Nat) : Go.Proofs.AnyZI.SortsIn Tryz.prog keysRS Fence.wide m :=
  ⟨fun blk off cap ss W hH hblk hsz => callsIn_wide.2 (Tryz.slices_Sort_int blk off cap ss W hH hblk hsz), fun p cap W => callsIn_wide.2 (Tryz.slices_Sort_int_none p cap W)⟩
theorem keysS {H : HL} {nx k : Nat} : FnH Tryz.prog 94 [.c (.mp k)] H nx ⟨.t (.c (.fn (.func 126) [(nx, 0)])), [(true, .cells [.mp k] 166)], [], []⟩ := keys_of rfl rfl rfl keysL7S
theorem sortedS {H : HL} {nx q k : Nat} {b1 b2 : Bool} {T : TypeId} {m : List (Int × Value)} (hq : lookH H q = some (b1, .cells [.mp k] T)) (hm : lookH H k = some (b2, .mp m)) (hz : m.length ≤ 1000000) :
    FnH Tryz.prog 38 [.c (.fn (.func 126) [(q, 0)])] H nx ⟨.t (.c (.nm nx)), [(true, .own 3 1 m.length (ivs (srtI (m.map Prod.fst))))], [], []⟩ :=
  sorted_of rfl rfl rfl keysL6S keysL7S sortsS (enters_of Tryz.func76 (by kernel_rfl) rfl) (enters_of Tryz.func126 (by kernel_rfl) rfl) hq hm hz
/-- How many changes are of these sectors. -/
def leftT (L : List Ch) (at' : List Int) : Nat → Nat
  | 0 => 0
  | j + 1 => match L[j]? with
    | none => leftT L at' j
    | some c => if decide (c.at' ∈ at') = true then leftT L at' j + 1 else leftT L at' j
def leftA (L : List Ch) (at' : List Int) : Nat := if at'.length = 0 then L.length else leftT L at' L.length
section
variable {H : HL} {nx d q b : Nat} {b1 : Bool} {V : DV} {W : List (List Int × Option Addr × Nat)} {last : Int}
/-- The sectors of changes, each one once. -/
def atK (L : List Ch) : List Int := L.foldl (fun acc c => if acc.contains c.at' then acc else acc ++ [c.at']) []
theorem atK_snoc (L : List Ch) (c : Ch) : atK (L ++ [c]) = if (atK L).contains c.at' then atK L else atK L ++ [c.at'] := by rw [atK, List.foldl_append]; rfl
theorem atK_le (L : List Ch) : (atK L).length ≤ L.length := by
  rw [show L = L.reverse.reverse from (List.reverse_reverse L).symm]
  generalize L.reverse = M
  induction M with
  | nil => simp [atK]
  | cons c M ih =>
    rw [List.reverse_cons, atK_snoc]
    split
    · simp at ih ⊢; omega
    · simp at ih ⊢; omega
theorem atK_mem (k : Int) (L : List Ch) : k ∈ atK L ↔ ∃ c ∈ L, c.at' = k := by
  rw [show L = L.reverse.reverse from (List.reverse_reverse L).symm]
  generalize L.reverse = M
  induction M with
  | nil => simp [atK]
  | cons c M ih =>
    rw [List.reverse_cons, atK_snoc]
    have h2 : (∃ x ∈ M.reverse ++ [c], x.at' = k) ↔ (∃ x ∈ M.reverse, x.at' = k) ∨ c.at' = k := by simp [or_and_right, exists_or]
    rw [h2, ← ih]
    split
    · rename_i h
      have h3 := List.contains_iff_mem.1 h
      exact ⟨.inl, fun h => h.elim id fun e => e ▸ h3⟩
    · simp [eq_comm]
theorem bm_put (k : Int) : ∀ acc : List Int, mput k (Value.bool true) (gm Value.bool (bm acc)) = gm Value.bool (bm (if acc.contains k then acc else acc ++ [k]))
  | [] => rfl
  | a :: acc => by
    show (if a = k then (k, Value.bool true) :: gm Value.bool (bm acc) else (a, Value.bool true) :: mput k (Value.bool true) (gm Value.bool (bm acc))) = _
    by_cases h : a = k
    · subst h; simp [gm, bm]
    · rw [if_neg h, bm_put k acc]
      have : (a :: acc).contains k = acc.contains k := by
        rw [Bool.eq_iff_iff, List.contains_iff_mem, List.contains_iff_mem, List.mem_cons]
        exact ⟨fun h' => h'.resolve_left fun e => h e.symm, .inr⟩
      rw [this]
      split <;> simp [gm, bm]
/-- May a sector not be sent? -/
def secB (L : List Ch) (k : Int) : Bool := decide ((ofI L k 2).length > 0) || ((rdyN L k).length == 0)
def secs (L : List Ch) : List Int := (srtI (atK L)).filter fun k => !secB L k
def hSc (V : DV) (W : List (List Int × Option Addr × Nat)) (last : Int) : HL := [(0, some (false, .cells [.nm 1, iT last] 138)), (1, some (false, .own 140 6 V.length (dpc V))), (2, some (false, .ab (frzP W))), (3, some (false, .cells [.p 0 0] 76))]
set_option maxRecDepth 100000 in
set_option maxHeartbeats 2000000 in
theorem sectors1 (sub : SubW V W) (ok : VOk V) (k : Int) :
    FnH Tryz.prog 95 [.c (iT k), .c (.p 3 0)] (hSc V W last) 4 ⟨.t (.c (.b (secB (chs V) k))), [], [], []⟩ := by
  refine fnR (fn := Tryz.f95) 16 rfl rfl rfl (args' := [.c (iT k), .c (.p 3 0)]) (H' := hSc V W last) (nx' := 4) (fun e w M => ⟨_, mem_rd (fun n => n) (H' := hSc V W last) ⟨⟨false, rfl⟩, ⟨false, rfl⟩, ⟨false, rfl⟩, ⟨false, rfl⟩, trivial⟩ M, rfl⟩) rfl rfl rfl rfl fun w => ?_
  show At _ _ _ _ _ _ [(0, some (false, .cells [.nm 1, iT last] 138)), (1, some (false, .own 140 6 V.length (dpc V))), (2, some (false, .ab (frzP W))), (3, some (false, .cells [.p 0 0] 76))] 4
  have hof := fun (H : HL) (nx : Nat) (h1 : lookH H 0 = some (false, .cells [.nm 1, iT last] 138)) (h2 : lookH H 1 = some (false, .own 140 6 V.length (dpc V))) => ofU (nx := nx) h1 h2 ok.zz k 2
  have hrd := fun (H : HL) (nx : Nat) (h1 : lookH H 0 = some (false, .cells [.nm 1, iT last] 138)) (h2 : lookH H 1 = some (false, .own 140 6 V.length (dpc V))) (h3 : lookH H 2 = some (false, .ab (frzP W))) => readyU (nx := nx) h1 h2 h3 sub ok.zz ok.srt ok.no ok.ah k
  have hnr := congrArg List.length (nosP_rdy ok.srt k)
  rw [nosP, List.length_map] at hnr
  have e1 : secB (chs V) k = (decide ((ofI (chs V) k 2).length > 0) || ((rdyI (chs V) k V.length).length == 0)) := by rw [secB, hnr]
  rw [e1]
  generalize ofI (chs V) k 2 = us at *
  generalize rdyI (chs V) k V.length = ps at *
  cases hu : decide (us.length > 0) with
  | true =>
    have g0 : decide ((us.length : Int) > 0) = true := by have := of_decide_eq_true hu; exact decide_eq_true (by omega)
    refine rn [(6, .spec ⟨.t (.c (.nm 4)), [(true, .own 3 1 us.length (ivs us))], [], []⟩), (9, .dec true)] rfl (by (repeat' (first | exact trivial | exact rfl | exact trivial | exact fun _ => trivial | first | exact hof _ _ rfl rfl | exact g0 | refine And.intro ?_ ?_))) ?_
    exact ret0 tysOk rfl (by repeat' (first | exact trivial | exact rfl | refine And.intro ?_ ?_)) rfl
  | false =>
    have g0 : decide ((us.length : Int) > 0) = false := by have := of_decide_eq_false hu; exact decide_eq_false (by omega)
    have g1 : ((ps.length : Int) == 0) = (ps.length == 0) := by rw [Bool.eq_iff_iff]; simp
    rw [Bool.false_or, ← g1]
    refine rn [(6, .spec ⟨.t (.c (.nm 4)), [(true, .own 3 1 us.length (ivs us))], [], []⟩), (9, .dec false), (12, .spec ⟨.t (.c (.nm 5)), [(true, .own 3 1 ps.length (ivs ps))], [], []⟩)] rfl (by (repeat' (first | exact trivial | exact rfl | exact trivial | exact fun _ => trivial | first | exact hof _ _ rfl rfl | exact hrd _ _ rfl rfl rfl | exact g0 | refine And.intro ?_ ?_))) ?_
    exact ret0 tysOk rfl (by repeat' (first | exact trivial | exact rfl | refine And.intro ?_ ?_)) rfl
set_option maxRecDepth 100000 in
set_option maxHeartbeats 4000000 in
theorem sectorsU {l : Nat} {b2 b3 : Bool} (hd : lookH H d = some (b1, .cells [.nm l, iT last] 138)) (hl : lookH H l = some (b2, .own 140 6 V.length (dpc V))) (hq : lookH H q = some (b3, .ab (frzP W))) (sub : SubW V W) (ok : VOk V) :
    FnH Tryz.prog 63 [.c (.p d 0)] H nx ⟨.t (.c (.nm nx)), [(true, .own 3 1 (secs (chs V)).length (ivs (secs (chs V))))], [], []⟩ := by
  refine fnN (fn := Tryz.f63) 27 rfl rfl rfl (args' := [.c (.p 0 0)]) (H' := hDr V W last) (nx' := 3) (fun e w M => ⟨_, mem_rd (r3p d l q) (H' := hDr V W last) ⟨⟨b1, hd⟩, ⟨b2, hl⟩, ⟨b3, hq⟩, trivial⟩ M, rfl⟩) rfl rfl rfl (inR_one _) rfl fun w => ?_
  show At _ _ _ _ _ _ [(0, some (false, .cells [.nm 1, iT last] 138)), (1, some (false, .own 140 6 V.length (dpc V))), (2, some (false, .ab (frzP W)))] 3
  have z := ok.zz
  refine rn [] rfl (by repeat' (first | exact trivial | exact rfl | refine And.intro ?_ ?_)) ?_
  refine At.loop (X := (j : Nat) ×' (j ≤ V.length)) 5 (fun x => V.length - x.1)
    (fun x => [(1, .t (.c (.p 3 0))), (3, .t (.c (.mp 4))), (11, .t (.c (.nm 1))), (12, .t (.c (iT (V.length : Nat)))), (13, .t (.c (iT (x.1 : Nat))))])
    (fun x => [(0, some (false, .cells [.nm 1, iT last] 138)), (1, some (false, .own 140 6 V.length (dpc V))), (2, some (false, .ab (frzP W))), (3, some (true, .cells [.p 0 0] 76)), (4, some (true, .mp (gm Value.bool (bm (atK ((chs V).take x.1))))))]) ⟨0, by omega⟩ [] (fun x => wf rfl rfl) (by repeat' (first | exact trivial | exact rfl | refine And.intro ?_ ?_)) (by repeat' (first | exact trivial | exact rfl | refine And.intro ?_ ?_)) rfl fun x => ?_
  obtain ⟨j, hj⟩ := x
  have w3 : IntKind.i64.wrap ((j : Int) + 1) = ((j + 1 : Nat) : Int) := by rw [wrap_sm (by omega) (by omega)]; omega
  refine rn [] rfl (by repeat' (first | exact trivial | exact rfl | refine And.intro ?_ ?_)) ?_
  refine ⟨fun h => ?_, fun h => ?_⟩
  · have hlt : j < V.length := by have : (j : Int) < (V.length : Int) := of_decide_eq_true h; omega
    clear h
    have r1 : Vc.rowAt (dpc V) ((j : Int).toNat * 6) (depV V[j]) := dpc_rd hlt
    have b0 : (0 : Int) ≤ (j : Int) := by omega
    have b1 : (j : Int) < (V.length : Int) := by omega
    have c5 : (j : Int).toNat * 6 < (dpc V).length := by rw [dpc_length]; omega
    have hin : inI64 V[j].1.at' := ok.sec _ (List.getElem_mem hlt)
    have hsu : atK ((chs V).take (j + 1)) = if (atK ((chs V).take j)).contains V[j].1.at' then atK ((chs V).take j) else atK ((chs V).take j) ++ [V[j].1.at'] := by
      rw [List.take_succ_eq_append_getElem (by simpa using hlt), atK_snoc]
      simp
    have hpt := bm_put V[j].1.at' (atK ((chs V).take j))
    rw [← hsu] at hpt
    refine rn [(16, .ld [iT V[j].1.no, iT V[j].1.at', iT V[j].1.off, .s V[j].1.by', .raw (.slice V[j].2.1 V[j].1.ah.length V[j].2.2), iT V[j].1.st])] rfl (by (repeat' (first | exact trivial | exact rfl | exact trivial | exact fun _ => trivial | first | exact r1 | exact b0 | exact b1 | exact c5 | exact hin | exact hin.1 | exact hin.2 | decide | refine And.intro ?_ ?_))) ?_
    exact roundEnd ⟨j + 1, by omega⟩ [] (by show V.length - (j + 1) < V.length - j; omega) (by (repeat' (first | exact trivial | exact rfl | exact w3 | exact fun _ => w3 | refine And.intro ?_ ?_))) (by (repeat' (first | exact trivial | exact rfl | exact trivial | exact fun _ => trivial | exact hpt | refine And.intro ?_ ?_))) rfl
  · have hlt : j = V.length := by have : ¬ (j : Int) < (V.length : Int) := of_decide_eq_false h; omega
    have hw : (chs V).take j = chs V := by rw [hlt]; exact List.take_of_length_le (by simp)
    refine rn [] rfl (by repeat' (first | exact trivial | exact rfl | refine And.intro ?_ ?_)) (roundExit rfl ?_)
    rw [hw]
    have hfst : ∀ acc : List Int, (gm Value.bool (bm acc)).map Prod.fst = acc := fun acc => by simp [gm, bm, Function.comp_def]
    have hal : (atK (chs V)).length ≤ 400000 := Nat.le_trans (atK_le _) (by simpa using ok.z)
    have hgl : (gm Value.bool (bm (atK (chs V)))).length = (srtI (atK (chs V))).length := by rw [srtI_length, gm_length]; simp [bm]
    have hsl := srtI_length (atK (chs V))
    have hS : ∀ (H : HL) (nx : Nat), lookH H 5 = some (true, .cells [.mp 4] 166) → lookH H 4 = some (true, .mp (gm Value.bool (bm (atK (chs V))))) → FnH Tryz.prog 38 [.c (.fn (.func 126) [(5, 0)])] H nx ⟨.t (.c (.nm nx)), [(true, .own 3 1 (srtI (atK (chs V))).length (ivs (srtI (atK (chs V)))))], [], []⟩ := fun H nx h1 h2 => by
      have := sortedS (nx := nx) h1 h2 (by rw [hgl, hsl]; omega)
      rw [hfst, hgl] at this
      exact this
    have hD : ∀ (H : HL) (nx : Nat), lookH H 6 = some (true, .own 3 1 (srtI (atK (chs V))).length (ivs (srtI (atK (chs V))))) → capsOk 6 H (hSc V W last) → FnH Tryz.prog 37 [.c (.nm 6), .c (.fn (.func 95) [(3, 0)])] H nx ⟨.t (.c (.nm nx)), [(true, .own 3 1 (secs (chs V)).length (ivs (secs (chs V))))], [(6, none)], []⟩ := fun H nx h1 h2 =>
      deleteF_h (nx := nx) (caps := [(3, 0)]) (pd := secB (chs V)) (nc := 4) (g := 95) (fun _ => True) rfl rfl rfl (fun k _ => sectors1 sub ok k) h1 h2 (fun _ _ => trivial) (by omega)
    refine rnA [(22, .spec ⟨.t (.c (.fn (.func 126) [(5, 0)])), [(true, .cells [.mp 4] 166)], [], []⟩), (23, .spec ⟨.t (.c (.nm 6)), [(true, .own 3 1 (srtI (atK (chs V))).length (ivs (srtI (atK (chs V)))))], [], []⟩), (26, .spec ⟨.t (.c (.nm 7)), [(true, .own 3 1 (secs (chs V)).length (ivs (secs (chs V))))], [(6, none)], []⟩)] rfl (by (repeat' (first | exact trivial | exact rfl | exact keysS | exact fun _ => keysS | first | exact hS _ _ rfl rfl | exact hD _ _ rfl ⟨rfl, ⟨_, rfl⟩, rfl, ⟨_, rfl⟩, rfl, ⟨_, rfl⟩, rfl, ⟨_, rfl⟩, trivial⟩ | refine And.intro ?_ ?_))) ?_
    exact retN tysOk [(nx, 7)] rfl (by simp only [retS, SV.eqs, eqsT, TV.eqs, CV.eqs, ren_one]; repeat' (first | exact trivial | exact rfl | refine And.intro ?_ ?_)) (by simp only [newsH, subH, ren_one]; repeat' (first | exact trivial | exact rfl | refine And.intro ?_ ?_)) (by simp [injK, keysH, newsH, inL]) rfl
end
end Cw
namespace Cw
open Go Vc
open Go.Proofs
set_option maxRecDepth 100000
/-- A method that changes the thing it is called of, and reads a slice, its last argument. -/
theorem fnA1l {P : Program} {f : FuncId} {fn : Func} {c : Code} (N : Nat) (hf : P.funcs[f]? = some fn) (hb : fn.body = some c) (hN : fn.ntmps = N) {d n s : Nat} {u : TV} {xs : List Value} {bs : List TV} {H : HL} {nx : Nat} {φ φ' : AbP} {v v' : SV} {news news' : List (Bool × Ob)}
    (hd : lookH H d = some (true, .ab φ)) (hr : SlQ H u n s xs d) (v0 : Value) (hp0 : Pins φ v0) (hp1 : Pins φ' v0) (hbs : bares bs = true) (hl : Nat.ble (bs.length + 2) N = true) (hW : wfL 2 (argsL 0 ((TV.c (.nm 0) :: (bs ++ [TV.c (.nm 1)])).map .t)) = true)
    (hv : v'.re (fun n => nx + (n - 1)) = v) (hnw : reN (fun n => nx + (n - 1)) news' = news) (hvr : inR 1 (1 + news'.length) v'.ns = true) (hnr : newsR 1 (1 + news'.length) news' = true)
    (hg : ∀ w W, At P ⟨w, W, N⟩ (bodyPost P fn (MPost w W v' ((true, .ab φ') :: news'))) c [] (argsL 0 ((TV.c (.nm 0) :: (bs ++ [TV.c (.nm 1)])).map .t)) [(0, some (true, .ab φ)), (1, some (false, .rd s n xs))] 2) :
    FnH P f (.c (.nm d) :: (bs ++ [u])) H nx ⟨v, news, [(d, some (.ab φ'))], []⟩ := by
  refine fnM N hf hb hN (args' := TV.c (.nm 0) :: (bs ++ [TV.c (.nm 1)])) (H' := [(0, some (true, .ab φ)), (1, some (false, .rd s n xs))]) (nx' := 2) [(d, φ')] (fun e w M => ?_) (by simpa using hl) hW rfl (fun e w M u hu v1 F w' h => ?_) (fun u hu => ?_) (by simp) hv hnw rfl hvr hnr hg
  · have hc : ∀ {n' : Nat} {z : Bool × Ob}, lookH [(0, some (true, .ab φ)), (1, some (false, .rd s n xs))] n' = some z → n' = 0 ∧ z = (true, .ab φ) ∨ n' = 1 ∧ z = (false, .rd s n xs) := by
      intro n' z h
      rw [lookH_cons] at h
      split at h
      · cases h; exact .inl ⟨by assumption, rfl⟩
      · rw [lookH_cons] at h
        split at h
        · cases h; exact .inr ⟨by assumption, rfl⟩
        · cases h
    obtain ⟨A, cp, q1, q2, q3⟩ := hr e w M
    obtain ⟨h1, h2⟩ := M.ob d true _ hd
    refine ⟨⟨e.blk, fun q => if q = 0 then e.val d else .slice A n cp, fun q g => if q = 0 then e.fp d g else ∃ a, A = some a ∧ 0 < xs.length ∧ g = a.block, fun q => by
      show (if q = 0 then e.val d else .slice A n cp).oneCell' = true
      split
      · exact e.one d
      · rfl⟩, ⟨fun n' b o' hn => ?_, fun n' o' m c q hn hm hne g hg hg' => ?_⟩, ?_⟩
    · rcases hc hn with ⟨rfl, h⟩ | ⟨rfl, h⟩
      · cases h
        exact ⟨h1, fun g hg => ⟨h2 g hg, fun _ => ⟨(d, φ'), by simp, hg⟩⟩⟩
      · cases h
        exact ⟨⟨A, cp, rfl, q2, fun a ha h0 => ⟨a, ha, h0, rfl⟩⟩, fun g ⟨a, ha, h0, hg⟩ => ⟨hg ▸ (q3 a ha h0).1, fun h => by cases h⟩⟩
    · rcases hc hn with ⟨rfl, h⟩ | ⟨rfl, h⟩
      · rcases hc hm with ⟨rfl, h'⟩ | ⟨rfl, h'⟩
        · exact hne rfl
        · obtain ⟨a, ha, h0, rfl⟩ := (hg' : ∃ a, A = some a ∧ 0 < xs.length ∧ g = a.block)
          exact (q3 a ha h0).2 hg
      · cases h
    · rw [List.map_cons, List.map_cons, List.map_append, List.map_append, bares_den hbs e, ← bares_den hbs (⟨e.blk, fun q => if q = 0 then e.val d else .slice A n cp, fun q g => if q = 0 then e.fp d g else ∃ a, A = some a ∧ 0 < xs.length ∧ g = a.block, _⟩ : Env), List.map_cons, List.map_cons, q1]
      rfl
  · simp only [List.mem_singleton] at hu
    subst hu
    rw [hp1 _ _ _ h]
    exact (hp0 _ _ _ (M.ob d true _ hd).1.1).symm
  · simp only [List.mem_singleton] at hu
    subst hu
    exact ⟨_, hd⟩
/-- A row of one's own gets a value that is told of, and is written no more. -/
theorem At.freeze {P : Program} {F : Frm} {Q : Exit → Act → World → Prop} {c : Code} {ks : List KI} {L : LL} {H : HL} {nx : Nat} {T : TypeId} {xs : List Int} (t k : Nat) (hl : look t L = some (.t (.c (.nm k)))) (hk : lookH H k = some (true, .own T 1 xs.length (ivs xs)))
    (h : ∀ A m, At P F Q c ks ((t, .t (.c (.raw (.slice A xs.length m)))) :: L) ((k, some (true, .ab (frzP [(xs, A, m)]))) :: H) nx) : At P F Q c ks L H nx :=
  ⟨fun hW e a w S => by
    obtain ⟨hown, hlt⟩ := S.ob k true _ hk
    have hob : (Ob.rd 1 xs.length (ivs xs)).holds (e.ren []) k w := Ob.eqs_ok (o := .own T 1 xs.length (ivs xs)) (ρ := []) (by repeat' (first | exact trivial | exact rfl | refine And.intro ?_ ?_)) hown
    obtain ⟨A, m, q1, q2, q3⟩ := hob
    have q1' : e.val k = .slice A xs.length m := q1
    refine (h A m).h ⟨fun t' v hv n hn => ?_, fun n z hz => ?_⟩ e a w ⟨S.fr, S.sz, S.df, fun t' v hv => ?_, fun n b o hn => ?_, fun n o n' b o' hn hm hne => ?_⟩
    · rw [look_cons] at hv
      split at hv
      · cases hv
        simp [SV.ns, TV.ns, CV.ns] at hn
      · exact hW.l t' v hv n hn
    · rw [lookH_cons] at hz
      split at hz
      · rename_i h1
        cases hz
        subst h1
        exact ⟨(hW.h n _ hk).1, fun m hm => by simp [Ob.ns] at hm⟩
      · exact hW.h n z hz
    · rw [look_cons] at hv
      split at hv
      · rename_i h1
        cases hv
        subst h1
        rw [S.sl _ _ hl]
        exact q1'
      · exact S.sl t' v hv
    · rw [lookH_cons] at hn
      split at hn
      · rename_i h1
        cases hn
        subst h1
        refine ⟨⟨fun p hp => ?_, frzP_stable _⟩, hlt⟩
        rw [List.mem_singleton.1 hp]
        exact ⟨q2, fun a ha h0 => q3 a ha (by rw [ivs_length]; exact h0)⟩
      · exact S.ob n b o hn
    · rw [lookH_cons] at hn hm
      split at hn
      · rename_i h1
        subst h1
        split at hm
        · rename_i h2
          exact absurd h2.symm hne
        · exact S.dj _ _ n' b o' hk hm hne
      · split at hm
        · rename_i h2
          subst h2
          exact S.dj n o _ _ _ hn hk hne
        · exact S.dj n o n' b o' hn hm hne⟩
def pdA (last n : Int) : Bool := decide (n < 1) || decide (n > last)
/-- What Add answers. -/
def adB (last : Int) (at' o : Int) (t : ByteArray) (n : Nat) (xs : List Int) : Int := if at' < 0 ∨ at' ≥ 2048 ∨ fcheck o t.size ≠ 0 then 1 else if xs.any (pdA last) = true then 5 else if n ≥ 1024 then 2 else 0
def alT (L : List Ch) (at' : Int) (p : Pt) (xs : List Int) : Nat → List Int
  | 0 => xs
  | j + 1 => match L[j]? with
    | none => alT L at' p xs j
    | some c => if (ovb (c.off, c.by') p && c.at' == at') = true then alT L at' p xs j ++ [c.no] else alT L at' p xs j
theorem alT_le (L : List Ch) (at' : Int) (p : Pt) (xs : List Int) : ∀ j, (alT L at' p xs j).length ≤ xs.length + j
  | 0 => Nat.le_refl _
  | j + 1 => by
    have := alT_le L at' p xs j
    unfold alT
    split
    · omega
    · split
      · simp; omega
      · omega
/-- All that go ahead of a new one. -/
def alls (L : List Ch) (at' : Int) (p : Pt) (xs : List Int) : List Int := alT L at' p xs L.length
def newC (L : List Ch) (last at' : Int) (p : Pt) (xs : List Int) : Ch := ⟨last + 1, at', p.1, p.2, alls L at' p xs, 1⟩
def adO (V : DV) (last : Int) (b : Nat) (c : Ch) (v : Option Addr × Nat) : List (Bool × Ob) := [(true, .cells [.nm 1, iT (last + 1)] 138), (true, .own 140 6 (V.length + 1) (dpc (V ++ [(c, v)]))), (false, .pin 0 b), (true, .ab (frzP [(c.ah, v)]))]
/-- Changes with a new one, whose slice is told of. -/
def adP (V : DV) (last : Int) (b : Nat) (c : Ch) : AbP := exP fun v : Option Addr × Nat => absP (adO V last b c v) (.p 0 0)
theorem ad_pins (V : DV) (last : Int) (b : Nat) (c : Ch) : Pins (adP V last b c) (ptr b) := fun v F w ⟨k, h⟩ => pins_abs (O := adO V last b c k) (k := 2) rfl v F w h
section
variable {H : HL} {nx d q b : Nat} {b1 : Bool} {V : DV} {W : List (List Int × Option Addr × Nat)} {last : Int}
def hAd (last : Int) : HL := [(2, some (false, .cells [.nm 3, iT last] 138)), (5, some (false, .cells [.p 2 0] 76))]
theorem add1 (n : Int) : FnH Tryz.prog 182 [.c (iT n), .c (.p 5 0)] (hAd last) 6 ⟨.t (.c (.b (pdA last n))), [], [], []⟩ := by
  refine fnR (fn := Tryz.f182) 14 rfl rfl rfl (args' := [.c (iT n), .c (.p 5 0)]) (H' := hAd last) (nx' := 6) (fun e w M => ⟨_, mem_rd (fun n => n) (H' := hAd last) ⟨⟨false, rfl⟩, ⟨false, rfl⟩, trivial⟩ M, rfl⟩) rfl rfl rfl rfl fun w => ?_
  show At _ _ _ _ _ _ [(2, some (false, .cells [.nm 3, iT last] 138)), (5, some (false, .cells [.p 2 0] 76))] 6
  refine rn [] rfl (by repeat' (first | exact trivial | exact rfl | refine And.intro ?_ ?_)) ?_
  exact ret0 tysOk rfl (by (repeat' (first | exact trivial | exact rfl | exact trivial | exact fun _ => trivial | rfl | refine And.intro ?_ ?_))) rfl
theorem over0 (a b : Pt) (za : a.2.size ≤ 9223372036854775807) (zb : b.2.size ≤ 9223372036854775807) : Fn0 Tryz.prog 184 [.agg [iT a.1, .s a.2], .agg [iT b.1, .s b.2]] (.tup [.c (.b (ovb a b)), .c (iT (ove a b))]) := ⟨fun w => over_any a b za zb w⟩
theorem fck0 (o : Int) (t : ByteArray) (zt : t.size ≤ 9223372036854775807) : Fn0 Tryz.prog 108 [.agg [iT o, .s t]] (.t (.c (iT (fcheck o t.size)))) := ⟨fun w => fcheck_any o t zt w⟩
theorem alT_succ {at' : Int} {p : Pt} {xs : List Int} {j : Nat} (h : j < V.length) : alT (chs V) at' p xs (j + 1) = if (ovb (V[j].1.off, V[j].1.by') p && V[j].1.at' == at') = true then alT (chs V) at' p xs j ++ [V[j].1.no] else alT (chs V) at' p xs j := by
  have : (chs V)[j]? = some V[j].1 := by simp [h]
  rw [alT, this]
set_option maxRecDepth 100000 in
set_option maxHeartbeats 4000000 in
theorem addA {at' o : Int} {t : ByteArray} {xs : List Int} {u : TV} (hd : lookH H d = some (true, .ab (depP V last b))) (hu : SlQ H u xs.length 1 (ivs xs) d) (zx : xs.length + V.length ≤ 17592186044416) (zt : t.size ≤ 9223372036854775807) (ok : VOk V) (hla : 0 ≤ last ∧ last ≤ 1000000) (he : adB last at' o t V.length xs = 0) :
    FnH Tryz.prog 156 [.c (.nm d), .c (iT at'), .agg [iT o, .s t], u] H nx ⟨.tup [.c (iT (last + 1)), .c (iT 0)], [], [(d, some (.ab (adP V last b (newC (chs V) last at' (o, t) xs))))], []⟩ := by
  refine fnA1l (fn := Tryz.f156) 94 rfl rfl rfl hd hu (bs := [.c (iT at'), .agg [iT o, .s t]]) (ptr b) (dep_pins _ _ _) (ad_pins _ _ _ _) rfl rfl rfl (v' := .tup [.c (iT (last + 1)), .c (iT 0)]) (news' := []) rfl rfl rfl rfl fun w Wr => ?_
  refine At.unfoldTo 0 (L1 := [(0, .t (.c (.p 2 0))), (1, .t (.c (iT at'))), (2, .t (.agg [iT o, .s t])), (3, .t (.c (.nm 1)))]) (H1 := [(2, some (true, .cells [.nm 3, iT last] 138)), (3, some (true, .own 140 6 V.length (dpc V))), (4, some (false, .pin 2 b)), (0, none), (0, some (true, .ab (depP V last b))), (1, some (false, .rd 1 xs.length (ivs xs)))]) (nx1 := 5) rfl rfl rfl rfl rfl rfl ?_
  have hck := fck0 o t zt
  have hcf := fun (H : HL) (nx : Nat) (h1 : lookH H 1 = some (false, .rd 1 xs.length (ivs xs))) (hs : capsOk 999999 H (hAd last)) => containsF_h (nx := nx) (caps := [(5, 0)]) (g := 182) (pd := pdA last) (fun _ => True) (nc := 6) rfl rfl rfl (fun n _ => add1 n) (SlR.rd h1) hs (fun _ _ => trivial) (by omega)
  have hcl := fun (H : HL) (nx : Nat) (h1 : lookH H 1 = some (false, .rd 1 xs.length (ivs xs))) => clone_h (nx := nx) (SlR.rd h1) (by omega)
  have h123 : ¬ (at' < 0 ∨ at' ≥ 2048) ∧ fcheck o t.size = 0 ∧ ¬ xs.any (pdA last) = true ∧ V.length < 1024 := by
    unfold adB at he
    split at he
    · cases he
    · rename_i h1
      split at he
      · cases he
      · rename_i h2
        split at he
        · cases he
        · rename_i h3
          refine ⟨fun h => h1 (h.elim .inl fun h => .inr (.inl h)), ?_, h2, by omega⟩
          exact Decidable.not_not.1 fun h => h1 (.inr (.inr h))
  obtain ⟨h1, h2, h3, h4⟩ := h123
  have h3' : xs.any (pdA last) = false := by simpa using h3
  have g1 : (decide (at' < 0) || decide (2048 ≤ at')) = false := by rw [Bool.or_eq_false_iff, decide_eq_false_iff_not, decide_eq_false_iff_not]; omega
  have g4 : decide ((1024 : Int) ≤ (V.length : Int)) = false := decide_eq_false (by omega)
  rw [h2] at hck
  rw [h3'] at hcf
  refine rn [(21, .dec false), (23, .ret (.t (.c (iT 0)))), (25, .dec false), (28, .spec ⟨.t (.c (.b false)), [], [], []⟩)] rfl (by (repeat' (first | exact trivial | exact rfl | exact trivial | exact fun _ => trivial | first | exact g1 | exact hck | exact hcf _ _ rfl ⟨rfl, ⟨_, rfl⟩, rfl, ⟨_, rfl⟩, trivial⟩ | decide | refine And.intro ?_ ?_))) ?_
  refine ⟨fun h => (by cases h), fun _ => ?_⟩
  refine rn [(34, .dec false), (36, .spec ⟨.t (.c (.nm 7)), [(true, .own 3 1 xs.length (ivs xs))], [], []⟩)] rfl (by (repeat' (first | exact trivial | exact rfl | exact trivial | exact fun _ => trivial | first | exact g4 | exact hcl _ _ rfl | refine And.intro ?_ ?_))) ?_
  refine At.loop (X := (j : Nat) ×' (j ≤ V.length)) 8 (fun x => V.length - x.1)
    (fun x => [(1, .t (.c (iT at'))), (4, .t (.c (.p 5 0))), (6, .t (.c (.p 6 0))), (10, .t (.c (.nm 7))), (40, .t (.c (.nm 3))), (41, .t (.c (iT (V.length : Nat)))), (42, .t (.c (iT (x.1 : Nat))))])
    (fun x => [(2, some (true, .cells [.nm 3, iT last] 138)), (3, some (true, .own 140 6 V.length (dpc V))), (4, some (false, .pin 2 b)), (5, some (true, .cells [.p 2 0] 76)), (6, some (true, .cells [iT o, .s t] 86)), (7, some (true, .own 3 1 (alT (chs V) at' (o, t) xs x.1).length (ivs (alT (chs V) at' (o, t) xs x.1))))]) ⟨0, by omega⟩ [] (fun x => wf rfl rfl) (by repeat' (first | exact trivial | exact rfl | refine And.intro ?_ ?_)) (by repeat' (first | exact trivial | exact rfl | refine And.intro ?_ ?_)) rfl fun x => ?_
  obtain ⟨j, hj⟩ := x
  have w3 : IntKind.i64.wrap ((j : Int) + 1) = ((j + 1 : Nat) : Int) := by rw [wrap_sm (by omega) (by omega)]; omega
  refine rn [] rfl (by repeat' (first | exact trivial | exact rfl | refine And.intro ?_ ?_)) ?_
  refine ⟨fun h => ?_, fun h => ?_⟩
  · have hlt : j < V.length := by have : (j : Int) < (V.length : Int) := of_decide_eq_true h; omega
    clear h
    have r1 : Vc.rowAt (dpc V) ((j : Int).toNat * 6) (depV V[j]) := dpc_rd hlt
    have b0 : (0 : Int) ≤ (j : Int) := by omega
    have b1 : (j : Int) < (V.length : Int) := by omega
    have c5 : (j : Int).toNat * 6 < (dpc V).length := by rw [dpc_length]; omega
    have hov := over0 (V[j].1.off, V[j].1.by') (o, t) (ok.by' _ (List.getElem_mem hlt)) zt
    have hsu := alT_succ (at' := at') (p := (o, t)) (xs := xs) hlt
    have hle := alT_le (chs V) at' (o, t) xs j
    have m1 : (alT (chs V) at' (o, t) xs j).length + 1 ≤ maxLen := by simp [maxLen]; omega
    have m2 : ((alT (chs V) at' (o, t) xs j).length + 1) * 8 ≤ 140737488355328 := by omega
    cases hb : ovb (V[j].1.off, V[j].1.by') (o, t) with
    | false =>
      rw [hb] at hov
      rw [hb, Bool.false_and, if_neg (by decide)] at hsu
      refine rn [(45, .ld [iT V[j].1.no, iT V[j].1.at', iT V[j].1.off, .s V[j].1.by', .raw (.slice V[j].2.1 V[j].1.ah.length V[j].2.2), iT V[j].1.st]), (50, .ret (.tup [.c (.b false), .c (iT (ove (V[j].1.off, V[j].1.by') (o, t)))])), (54, .dec false), (59, .dec false)] rfl (by (repeat' (first | exact trivial | exact rfl | exact trivial | exact fun _ => trivial | first | exact hov | exact r1 | exact b0 | exact b1 | exact c5 | decide | refine And.intro ?_ ?_))) ?_
      refine roundEnd ⟨j + 1, by omega⟩ [] (by show V.length - (j + 1) < V.length - j; omega) (by (repeat' (first | exact trivial | exact rfl | exact w3 | exact fun _ => w3 | refine And.intro ?_ ?_))) ?_ rfl
      repeat' (first | exact trivial | exact rfl | refine And.intro ?_ ?_)
      · rw [hsu]
      · rw [hsu]
    | true =>
      rw [hb] at hov
      rw [hb, Bool.true_and] at hsu
      cases hs : V[j].1.at' == at' with
      | true =>
        rw [hs, if_pos rfl] at hsu
        refine rn [(45, .ld [iT V[j].1.no, iT V[j].1.at', iT V[j].1.off, .s V[j].1.by', .raw (.slice V[j].2.1 V[j].1.ah.length V[j].2.2), iT V[j].1.st]), (50, .ret (.tup [.c (.b true), .c (iT (ove (V[j].1.off, V[j].1.by') (o, t)))])), (54, .dec true), (59, .dec true)] rfl (by (repeat' (first | exact trivial | exact rfl | exact trivial | exact fun _ => trivial | first | exact hov | exact r1 | exact b0 | exact b1 | exact c5 | exact hs | exact m1 | exact m2 | decide | refine And.intro ?_ ?_))) ?_
        refine roundEnd ⟨j + 1, by omega⟩ [(7, 10)] (by show V.length - (j + 1) < V.length - j; omega) (by (repeat' (first | exact trivial | exact rfl | exact w3 | exact fun _ => w3 | refine And.intro ?_ ?_))) ?_ rfl
        repeat' (first | exact trivial | exact rfl | refine And.intro ?_ ?_)
        · rw [hsu]; simp
        · rw [hsu, app_eq]; simp [ivs]; rfl
      | false =>
        rw [hs, if_neg (by decide)] at hsu
        refine rn [(45, .ld [iT V[j].1.no, iT V[j].1.at', iT V[j].1.off, .s V[j].1.by', .raw (.slice V[j].2.1 V[j].1.ah.length V[j].2.2), iT V[j].1.st]), (50, .ret (.tup [.c (.b true), .c (iT (ove (V[j].1.off, V[j].1.by') (o, t)))])), (54, .dec true), (59, .dec false)] rfl (by (repeat' (first | exact trivial | exact rfl | exact trivial | exact fun _ => trivial | first | exact hov | exact r1 | exact b0 | exact b1 | exact c5 | exact hs | decide | refine And.intro ?_ ?_))) ?_
        refine roundEnd ⟨j + 1, by omega⟩ [] (by show V.length - (j + 1) < V.length - j; omega) (by (repeat' (first | exact trivial | exact rfl | exact w3 | exact fun _ => w3 | refine And.intro ?_ ?_))) ?_ rfl
        repeat' (first | exact trivial | exact rfl | refine And.intro ?_ ?_)
        · rw [hsu]
        · rw [hsu]
  · have hlt : j = V.length := by have : ¬ (j : Int) < (V.length : Int) := of_decide_eq_false h; omega
    have hw : alT (chs V) at' (o, t) xs j = alls (chs V) at' (o, t) xs := by rw [alls, hlt]; simp
    have w4 : IntKind.i64.wrap (last + 1) = last + 1 := wrap_sm (by omega) (by omega)
    refine rn [] rfl (by repeat' (first | exact trivial | exact rfl | refine And.intro ?_ ?_)) (roundExit rfl ?_)
    rw [hw]
    refine rnA [(20016, .dec true)] rfl (by repeat' (first | exact trivial | exact rfl | refine And.intro ?_ ?_)) ?_
    refine At.freeze 10 7 rfl rfl fun A m => ?_
    have k1 : V.length + 1 ≤ maxLen := by simp [maxLen]; omega
    have k2 : (V.length + 1) * 72 ≤ 140737488355328 := by omega
    refine rn [(50073, .dec true)] rfl (by (repeat' (first | exact trivial | exact rfl | exact trivial | exact fun _ => trivial | first | exact k1 | exact k2 | decide | refine And.intro ?_ ?_))) ?_
    refine Done.fold [(0, 2), (1, 9), (2, 4), (3, 7)] (adO V last b (newC (chs V) last at' (o, t) xs) (A, m)) (.p 0 0) ?_ rfl rfl (fun _ => rfl) ?_
    · (repeat' (first | exact trivial | exact rfl | exact w4 | exact fun _ => w4 | refine And.intro ?_ ?_))
      rw [w4, app_eq]
      exact (fcs_app depC V (newC (chs V) last at' (o, t) xs, A, m)).symm
    refine Done.weak 10 (φ' := adP V last b (newC (chs V) last at' (o, t) xs)) rfl (exP_stable fun _ => absP_stable _ _) (fun v F w h => ⟨(A, m), h⟩) ?_
    exact retM tysOk [(0, 10)] rfl (by (repeat' (first | exact trivial | exact rfl | exact w4 | exact fun _ => w4 | refine And.intro ?_ ?_))) (by repeat' (first | exact trivial | exact rfl | refine And.intro ?_ ?_)) rfl rfl
end
end Cw
namespace Cw
open Go Vc
open Go.Proofs
set_option maxRecDepth 100000
/-- An env whose things hold other blocks. -/
def Env.fps (e : Env) (f : Nat → Nat → Prop) : Env := ⟨e.blk, e.val, f, e.one⟩
theorem frzP_app {W : List (List Int × Option Addr × Nat)} {y : List Int × Option Addr × Nat} {v v1 v2 : Value} {F F1 F2 : Nat → Prop} {w : World} (h1 : frzP W v1 F1 w) (h2 : frzP [y] v2 F2 w) (a1 : ∀ g, F1 g → F g) (a2 : ∀ g, F2 g → F g) : frzP (W ++ [y]) v F w := by
  intro p hp
  rcases List.mem_append.1 hp with hp | hp
  · obtain ⟨q1, q2⟩ := h1 p hp
    exact ⟨q1, fun a ha h0 => a1 _ (q2 a ha h0)⟩
  · obtain ⟨q1, q2⟩ := h2 p hp
    exact ⟨q1, fun a ha h0 => a2 _ (q2 a ha h0)⟩
/-- A new change's slice joins the others. -/
theorem At.grow {P : Program} {F : Frm} {Q : Exit → Act → World → Prop} {cd : Code} {ks : List KI} {L : LL} {H : HL} {nx : Nat} {V : DV} {W : List (List Int × Option Addr × Nat)} {last : Int} {b : Nat} {c : Ch} (d q : Nat) (hd : lookH H d = some (true, .ab (adP V last b c))) (hq : lookH H q = some (true, .ab (frzP W))) (hdq : d ≠ q)
    (h : ∀ v, At P F Q cd ks L ((q, some (true, .ab (frzP (W ++ [(c.ah, v)])))) :: (d, some (true, .ab (depP (V ++ [(c, v)]) (last + 1) b))) :: H) nx) : At P F Q cd ks L H nx :=
  ⟨fun hW e a w S => by
    obtain ⟨⟨hp, _⟩, hbd⟩ := S.ob d true _ hd
    obtain ⟨⟨hfq, _⟩, hbq⟩ := S.ob q true _ hq
    obtain ⟨v, e1, h1, h2, h3, h4, h5⟩ := hp
    have hl : (adO V last b c v).length = 4 := rfl
    rw [hl] at h3 h4
    let f : Nat → Nat → Prop := fun n g => if n = d then ∃ k, k < 3 ∧ e1.fp k g else if n = q then e.fp q g ∨ e1.fp 3 g else e.fp n g
    have fd : ∀ g, f d g ↔ ∃ k, k < 3 ∧ e1.fp k g := fun g => by show (if _ then _ else _) ↔ _; rw [if_pos rfl]
    have fq : ∀ g, f q g ↔ e.fp q g ∨ e1.fp 3 g := fun g => by show (if _ then _ else _) ↔ _; rw [if_neg (fun h => hdq h.symm), if_pos rfl]
    have fo : ∀ n, n ≠ d → n ≠ q → ∀ g, f n g ↔ e.fp n g := fun n h h' g => by show (if _ then _ else _) ↔ _; rw [if_neg h, if_neg h']
    have d3 : ∀ g, e1.fp 3 g → e.fp d g := fun g hg => (h4 g).2 ⟨3, by decide, hg⟩
    have dk : ∀ g, (∃ k, k < 3 ∧ e1.fp k g) → e.fp d g := fun g ⟨k, hk, hg⟩ => (h4 g).2 ⟨k, by omega, hg⟩
    have hdv : depP (V ++ [(c, v)]) (last + 1) b (e.val d) (f d) w := by
      refine ⟨e1, h1, fun k b' o hk => ?_, fun j k hj hk => ?_, fd, fun g hg => h5 g (dk g ((fd g).1 hg))⟩
      · match k, hk with
        | 0, hk => exact h2 0 b' o hk
        | 1, hk =>
          cases hk
          have := h2 1 _ _ rfl
          rwa [show (V ++ [(c, v)]).length = V.length + 1 by simp]
        | 2, hk => exact h2 2 b' o hk
        | k + 3, hk => simp [depO] at hk
      · have : (depO (V ++ [(c, v)]) (last + 1) b).length = 3 := rfl
        exact h3 j k (by omega) (by omega)
    have hqv : frzP (W ++ [(c.ah, v)]) (e.val q) (f q) w := frzP_app hfq (h2 3 _ _ rfl).1.1 (fun g hg => (fq g).2 (.inl hg)) fun g hg => (fq g).2 (.inr hg)
    refine (h v).h ⟨hW.l, fun n z hz => ?_⟩ (Env.fps e f) a w ⟨S.fr, S.sz, S.df, S.sl, fun n b' o hn => ?_, fun n o m b' o' hn hm hne g hg hg' => ?_⟩
    · rw [lookH_cons] at hz
      split at hz
      · rename_i h0
        cases hz; subst h0
        exact ⟨(hW.h n _ hq).1, fun m hm => by simp [Ob.ns] at hm⟩
      · rw [lookH_cons] at hz
        split at hz
        · rename_i h0
          cases hz; subst h0
          exact ⟨(hW.h n _ hd).1, fun m hm => by simp [Ob.ns] at hm⟩
        · exact hW.h n z hz
    · rw [lookH_cons] at hn
      split at hn
      · rename_i h0
        cases hn; subst h0
        exact ⟨⟨hqv, frzP_stable _⟩, fun g hg => ((fq g).1 hg).elim (hbq g) fun hg => hbd g (d3 g hg)⟩
      · rename_i hnq
        rw [lookH_cons] at hn
        split at hn
        · rename_i h0
          cases hn; subst h0
          exact ⟨⟨hdv, absP_stable _ _⟩, fun g hg => hbd g (dk g ((fd g).1 hg))⟩
        · rename_i hnd
          obtain ⟨k1, k2⟩ := S.ob n b' o hn
          have hs : ∀ g, f n g ↔ e.fp n g := fo n hnd hnq
          have hfe : (Env.fps e f).fp n = e.fp n := funext fun g => propext (hs g)
          refine ⟨Ob.same (e := e) (e' := Env.fps e f) ⟨rfl, rfl, hfe⟩ k1 fun m _ => ⟨rfl, rfl⟩, fun g hg => k2 g ((hs g).1 hg)⟩
    · -- where a name's blocks were
      have was : ∀ {n : Nat} {g : Nat}, f n g → e.fp n g ∨ n = q ∧ e.fp d g := fun {n g} hf => by
        by_cases h1 : n = d
        · subst h1; exact .inl (dk g ((fd g).1 hf))
        · by_cases h2 : n = q
          · subst h2
            exact ((fq g).1 hf).elim .inl fun h => .inr ⟨rfl, d3 g h⟩
          · exact .inl ((fo n h1 h2 g).1 hf)
      have old : ∀ {n : Nat} {z : Bool × Ob}, lookH ((q, some (true, .ab (frzP (W ++ [(c.ah, v)])))) :: (d, some (true, .ab (depP (V ++ [(c, v)]) (last + 1) b))) :: H) n = some z → ∃ o, lookH H n = some (z.1, o) := by
        intro n z hz
        rw [lookH_cons] at hz
        split at hz
        · rename_i h0; cases hz; subst h0; exact ⟨_, hq⟩
        · rw [lookH_cons] at hz
          split at hz
          · rename_i h0; cases hz; subst h0; exact ⟨_, hd⟩
          · exact ⟨z.2, hz⟩
      obtain ⟨on, hn'⟩ := old hn
      obtain ⟨om, hm'⟩ := old hm
      have hg1 : f n g := hg
      have hg2 : f m g := hg'
      by_cases c1 : n = q
      · subst c1
        rcases (fq g).1 hg1 with hx | hx
        · rcases was hg2 with hy | ⟨rfl, _⟩
          · exact S.dj n _ m _ _ hn' hm' hne g hx hy
          · exact hne rfl
        · by_cases c2 : m = d
          · subst c2
            obtain ⟨k, hk, hy⟩ := (fd g).1 hg2
            exact h3 k 3 (by omega) (by omega) (by omega) g hy hx
          · rcases was hg2 with hy | ⟨rfl, _⟩
            · exact S.dj d _ m _ _ hd hm' (fun h => c2 h.symm) g (d3 g hx) hy
            · exact hne rfl
      · rcases was hg1 with hx | ⟨h0, _⟩
        · by_cases c2 : m = q
          · subst c2
            rcases (fq g).1 hg2 with hy | hy
            · exact S.dj n _ m _ _ hn' hm' hne g hx hy
            · by_cases c3 : n = d
              · subst c3
                obtain ⟨k, hk, hx'⟩ := (fd g).1 hg1
                exact h3 k 3 (by omega) (by omega) (by omega) g hx' hy
              · exact S.dj n _ d _ _ hn' hd c3 g hx (d3 g hy)
          · rcases was hg2 with hy | ⟨h0, _⟩
            · exact S.dj n _ m _ _ hn' hm' hne g hx hy
            · exact c2 h0
        · exact c1 h0⟩
def depX (V : DV) (last : Int) : AbP := exP (depP V last)
section
variable {H : HL} {nx d q b : Nat} {b1 : Bool} {V : DV} {W : List (List Int × Option Addr × Nat)} {last : Int}
theorem depNew : FnH Tryz.prog 83 [] H nx ⟨.t (.c (.nm nx)), [(true, .ab (depX [] 0))], [], []⟩ := by
  refine fnM (fn := Tryz.f83) 3 rfl rfl rfl (args' := []) (H' := []) (nx' := 0) [] (fun e w M => ⟨e, ⟨fun n b o h => (by cases h), fun n o m c q h => (by cases h)⟩, rfl⟩) rfl rfl rfl (fun e w M u hu => by cases hu) (fun u hu => by cases hu) (by simp) (v' := .t (.c (.nm 0))) (news' := [(true, .ab (depX [] 0))]) rfl rfl rfl rfl rfl fun w Wr => ?_
  refine rn [] rfl (by repeat' (first | exact trivial | exact rfl | refine And.intro ?_ ?_)) ?_
  refine Done.nilCell 0 0 140 6 rfl rfl rfl ?_
  refine Done.pin 0 rfl fun b => ?_
  refine Done.foldR 0 (.p 0 0) [(0, 0), (1, 1), (2, 2)] (depO [] 0 b) (.p 0 0) rfl (by repeat' (first | exact trivial | exact rfl | refine And.intro ?_ ?_)) (by repeat' (first | exact trivial | exact rfl | refine And.intro ?_ ?_)) rfl rfl (fun _ => rfl) ?_
  refine Done.weak 3 (φ' := depX [] 0) rfl (exP_stable fun b => absP_stable _ _) (fun v F w h => ⟨b, h⟩) ?_
  exact retM tysOk [(0, 3)] rfl (by repeat' (first | exact trivial | exact rfl | refine And.intro ?_ ?_)) (by repeat' (first | exact trivial | exact rfl | refine And.intro ?_ ?_)) rfl rfl
theorem imageH (hd : lookH H d = some (true, .ab (depP V last b))) (hq : lookH H q = some (b1, .ab (frzP W))) (hdq : d ≠ q) (sub : SubW V W) (ok : VOk V) (k : Int) (s : ByteArray) (hs : s.size ≤ 9223372036854775807) :
    FnH Tryz.prog 98 [.c (.nm d), .c (iT k), .c (.s s)] H nx ⟨.tup [.c (.s (pt s (rdyP (chs V) k))), .c (iT (pte s (rdyP (chs V) k)))], [], [(d, some (.ab (depP V last b)))], []⟩ :=
  fnh_shutQ (O := depO V last b) (x := .p 0 0) (v' := .tup [.c (.s (pt s (rdyP (chs V) k))), .c (iT (pte s (rdyP (chs V) k)))]) (news' := []) hd hq hdq rfl rfl rfl rfl rfl (ImageU (d := 0) (l := 1) (q := 3) rfl rfl rfl sub ok k s hs)
theorem sectorsH (hd : lookH H d = some (true, .ab (depP V last b))) (hq : lookH H q = some (b1, .ab (frzP W))) (hdq : d ≠ q) (sub : SubW V W) (ok : VOk V) :
    FnH Tryz.prog 63 [.c (.nm d)] H nx ⟨.t (.c (.nm nx)), [(true, .own 3 1 (secs (chs V)).length (ivs (secs (chs V))))], [(d, some (.ab (depP V last b)))], []⟩ :=
  fnh_shutQ (O := depO V last b) (x := .p 0 0) (v' := .t (.c (.nm 0))) (news' := [(true, .own 3 1 (secs (chs V)).length (ivs (secs (chs V))))]) hd hq hdq rfl rfl rfl rfl rfl (sectorsU (d := 0) (l := 1) (q := 3) rfl rfl rfl sub ok)
theorem viewH (hd : lookH H d = some (true, .ab (depP V last b))) (ok : VOk V) (k : Int) (s : ByteArray) (hs : s.size ≤ 9223372036854775807) :
    FnH Tryz.prog 154 [.c (.nm d), .c (iT k), .c (.s s)] H nx ⟨.tup [.c (.s (pt s ((vwI (chs V) k).map (chP (chs V))))), .c (iT (pte s ((vwI (chs V) k).map (chP (chs V)))))], [], [(d, some (.ab (depP V last b)))], []⟩ :=
  fnh_shut (O := depO V last b) (x := .p 0 0) (v' := .tup [.c (.s (pt s ((vwI (chs V) k).map (chP (chs V))))), .c (iT (pte s ((vwI (chs V) k).map (chP (chs V)))))]) (news' := []) hd rfl rfl rfl rfl rfl (ViewU (d := 0) (l := 1) rfl rfl ok k s hs)
end
end Cw
namespace Cw
open Go Vc
open Go.Proofs
set_option maxRecDepth 100000
theorem filt1 {α : Type} (p : α → Bool) {a : α} (h : p a = true) : [a].filter p = [a] := by simp [h]
theorem filt0 {α : Type} (p : α → Bool) {a : α} (h : ¬ p a = true) : [a].filter p = [] := by simp [h]
theorem nosP_ofT (L : List Ch) (k s : Int) : ∀ j, j ≤ L.length → nosP L (ofT L k s j) = ofN (L.take j) k s
  | 0, _ => by simp [ofT, nosP, ofN]
  | j + 1, h => by
    have hj : j < L.length := h
    have ih := nosP_ofT L k s j (by omega)
    have e : noAt L (j : Int) = L[j].no := by rw [noAt, Int.toNat_natCast, List.getElem?_eq_getElem hj]
    rw [List.take_succ_eq_append_getElem hj, ofT, List.getElem?_eq_getElem hj]
    simp only [ofN, List.filter_append, List.map_append] at ih ⊢
    by_cases hc : (L[j].at' == k && L[j].st == s) = true
    · rw [if_pos hc, nosP, List.map_append, ← nosP, ih, filt1 (fun c : Ch => c.at' == k && c.st == s) hc]
      simp [e]
    · rw [if_neg hc, ih, filt0 (fun c : Ch => c.at' == k && c.st == s) hc]
      simp
theorem nosP_ofI (L : List Ch) (k s : Int) : nosP L (ofI L k s) = ofN L k s := by
  rw [ofI, nosP_ofT L k s _ (Nat.le_refl _), List.take_length]
theorem ofI_len (L : List Ch) (k s : Int) : (ofI L k s).length = (ofN L k s).length := by
  rw [← nosP_ofI, nosP, List.length_map]
/-- What is kept of all changes R. -/
structure DR (V : DV) (W : List (List Int × Option Addr × Nat)) (R : List Ch) : Prop where
  eq : chs V = und R
  sub : SubW V W
  ok : VOk V
  dep : DepOk R
  z : R.length ≤ 100000
section
variable {V : DV} {W : List (List Int × Option Addr × Nat)} {R : List Ch}
theorem DR.nil : DR [] [] [] := ⟨rfl, fun p hp => (by cases hp), ⟨by simp, fun i j h => by simp at h, by simp, by simp, by simp, by simp⟩, DepOk.nil, by simp⟩
theorem DR.nd (h : DR V W R) : (R.map Ch.no).Nodup := h.dep.num.nodup
theorem DR.len (h : DR V W R) : V.length = (und R).length := by rw [← h.eq, List.length_map]
theorem DR.le (h : DR V W R) : V.length ≤ R.length := by rw [h.len]; exact List.length_filter_le _ _
theorem DR.rdy (h : DR V W R) (k : Int) : rdyN (chs V) k = rdyN R k := by rw [h.eq, rdyN_und h.nd]
theorem DR.rdyP (h : DR V W R) (k : Int) : rdyP (chs V) k = Cw.rdyP R k := by rw [Cw.rdyP, Cw.rdyP, h.eq, rdyL_und h.nd]
theorem DR.fly (h : DR V W R) (k : Int) : (ofI (chs V) k 2).length = (ofN R k 2).length := by rw [ofI_len, h.eq, ofN_und R k (by decide)]
def sdE' (R : List Ch) (k : Int) : Int := if (ofN R k 2).length = 0 then (if (rdyN R k).length = 0 then 5 else 0) else 120
def sdL' (R : List Ch) (k : Int) : List Int := if (ofN R k 2).length = 0 then rdyN R k else []
def sdR (R : List Ch) (k : Int) : List Ch := if (ofN R k 2).length = 0 then setN (rdyN R k) 2 R else R
def dnE' (R : List Ch) (k : Int) : Int := if (ofN R k 2).length = 0 then 120 else 0
theorem DR.sdE (h : DR V W R) (k : Int) : sdE (chs V) k = sdE' R k := by rw [Cw.sdE, sdE', h.fly, h.rdy]
theorem DR.sdL (h : DR V W R) (k : Int) : sdL (chs V) k = sdL' R k := by rw [Cw.sdL, sdL', h.fly, h.rdy]
theorem DR.dnE (h : DR V W R) (k : Int) : dnE (chs V) k = dnE' R k := by rw [Cw.dnE, dnE', h.fly]
theorem DR.dnL (h : DR V W R) (k : Int) : dnL (chs V) k = ofN R k 2 := by rw [Cw.dnL, nosP_ofI, h.eq, ofN_und R k (by decide)]
theorem DR.lsE (h : DR V W R) (k : Int) : lsE (chs V) k = dnE' R k := by rw [Cw.lsE, dnE', h.fly]
theorem SubW.setP (h : SubW V W) {ps : List Int} {s : Int} (h0 : ∀ p ∈ ps, 0 ≤ p) : SubW (setP V ps s) W := SubW_of h fun x hx => by
  obtain ⟨y, hy, _, _, _, _, e⟩ := setP_mem h0 hx
  exact ⟨y, hy, e⟩
theorem setN_len (l : List Int) (s : Int) (R : List Ch) : (setN l s R).length = R.length := setF_len _ _ _
theorem setK_len (k s : Int) (R : List Ch) : (setK k s R).length = R.length := setF_len _ _ _
theorem und_send {R : List Ch} (hn : (R.map Ch.no).Nodup) (k : Int) : und (setN (rdyN R k) 2 R) = setN (rdyN R k) 2 (und R) := und_setF (by decide) fun c hc hp => by
  obtain ⟨x, hx, h1, _, h2, _⟩ := rdyN_ok (List.contains_iff_mem.1 hp)
  rw [← uniq hn hx hc h1, h2]
  decide
theorem DR.send (h : DR V W R) (k : Int) : DR (sdV V k) W (sdR R k) := by
  unfold sdV sdR
  rw [h.fly]
  by_cases h0 : (ofN R k 2).length = 0
  · rw [if_pos h0, if_pos h0]
    have hp : ∀ p ∈ rdyI (chs V) k V.length, 0 ≤ p := fun p hp => (rdyI_mem h.ok.srt k p hp).1
    exact ⟨by rw [chs_sent h.ok.srt, h.rdy, h.eq, und_send h.nd], h.sub.setP hp, h.ok.setP hp, h.dep.send k, by rw [setN_len]; exact h.z⟩
  · rw [if_neg h0, if_neg h0]; exact h
theorem DR.done (h : DR V W R) (k : Int) : DR (dnV V k) W (setK k 0 R) := ⟨by rw [chs_done, h.eq, und_delK], h.sub.done k, h.ok.done k, h.dep.done k, by rw [setK_len]; exact h.z⟩
theorem DR.lost (h : DR V W R) (k : Int) : DR (setP V (ofI (chs V) k 2) 1) W (setK k 1 R) := by
  have hp : ∀ p ∈ ofI (chs V) k 2, 0 ≤ p := fun p hp => (ofI_mem hp).1
  exact ⟨by rw [chs_lost, h.eq, und_setK (by decide)], h.sub.setP hp, h.ok.setP hp, h.dep.lost k, by rw [setK_len]; exact h.z⟩
theorem alT_eq (L : List Ch) (at' : Int) (p : Pt) (xs : List Int) : ∀ j, j ≤ L.length → alT L at' p xs j = xs ++ ((L.take j).filter fun c => ovb (c.off, c.by') p && c.at' == at').map Ch.no
  | 0, _ => by simp [alT]
  | j + 1, h => by
    have hj : j < L.length := h
    rw [List.take_succ_eq_append_getElem hj, alT, List.getElem?_eq_getElem hj]
    simp only [List.filter_append, List.map_append]
    rw [alT_eq L at' p xs j (by omega)]
    by_cases hc : (ovb (L[j].off, L[j].by') p && L[j].at' == at') = true
    · rw [if_pos hc, filt1 (fun c : Ch => ovb (c.off, c.by') p && c.at' == at') hc]
      simp
    · rw [if_neg hc, filt0 (fun c : Ch => ovb (c.off, c.by') p && c.at' == at') hc]
      simp
theorem alls_eq (L : List Ch) (at' : Int) (p : Pt) (xs : List Int) : alls L at' p xs = xs ++ (L.filter fun c => ovb (c.off, c.by') p && c.at' == at').map Ch.no := by
  rw [alls, alT_eq _ _ _ _ _ (Nat.le_refl _), List.take_length]
theorem adB_ok {last at' o : Int} {t : ByteArray} {n : Nat} {xs : List Int} (he : adB last at' o t n xs = 0) : 0 ≤ at' ∧ at' < 2048 ∧ fcheck o t.size = 0 ∧ (∀ x ∈ xs, 1 ≤ x ∧ x ≤ last) ∧ n < 1024 := by
  unfold adB at he
  split at he
  · cases he
  · rename_i h1
    split at he
    · cases he
    · rename_i h2
      split at he
      · cases he
      · rename_i h3
        refine ⟨?_, ?_, ?_, fun x hx => ?_, by omega⟩
        · exact Int.not_lt.1 fun h => h1 (.inl h)
        · exact Int.not_le.1 fun h => h1 (.inr (.inl h))
        · exact Decidable.not_not.1 fun h => h1 (.inr (.inr h))
        · have h4 : xs.any (pdA last) = false := by simpa using h2
          rw [List.any_eq_false] at h4
          have := h4 x hx
          simp only [pdA, Bool.or_eq_true, decide_eq_true_eq] at this
          omega
theorem DR.add (h : DR V W R) {at' o : Int} {t : ByteArray} {xs : List Int} (he : adB R.length at' o t V.length xs = 0) (zx : xs.length + V.length ≤ 17592186044416) (zt : t.size ≤ 9223372036854775807) (zr : R.length < 100000) (v : Option Addr × Nat) :
    DR (V ++ [(newC (chs V) R.length at' (o, t) xs, v)]) (W ++ [((newC (chs V) R.length at' (o, t) xs).ah, v)]) (R ++ [newC (und R) R.length at' (o, t) xs]) := by
  obtain ⟨a1, a2, a3, a4, a5⟩ := adB_ok he
  rw [h.eq]
  have hst : (newC (und R) R.length at' (o, t) xs).st = 1 := rfl
  have hno : (newC (und R) R.length at' (o, t) xs).no = (R.length : Int) + 1 := rfl
  have hV : ∀ x ∈ V, 1 ≤ x.1.no ∧ x.1.no ≤ (R.length : Int) := fun x hx => by
    have : x.1 ∈ und R := h.eq ▸ List.mem_map.2 ⟨x, hx, rfl⟩
    exact h.dep.num.le (und_mem.1 this).1
  have hah : ∀ n ∈ (newC (und R) R.length at' (o, t) xs).ah, 1 ≤ n ∧ n ≤ (R.length : Int) := by
    intro n hn
    have hn' : n ∈ alls (und R) at' (o, t) xs := hn
    rw [alls_eq] at hn'
    rcases List.mem_append.1 hn' with h1 | h1
    · exact a4 n h1
    · obtain ⟨c, hc, rfl⟩ := List.mem_map.1 h1
      exact h.dep.num.le (und_mem.1 (List.mem_filter.1 hc).1).1
  have hz := h.z
  have hle := h.le
  have hsrt : V.Pairwise fun x y => x.1.no < y.1.no := List.pairwise_iff_getElem.2 fun i j hi hj hij => h.ok.srt i j hi hj hij
  refine ⟨?_, ?_, ⟨by simp; omega, ?_, ?_, ?_, ?_, ?_⟩, h.dep.add hno hst hah, by simp; omega⟩
  · rw [chs, List.map_append, ← chs, h.eq, und_app R (by rw [hst]; decide)]
    rfl
  · intro p hp
    rcases List.mem_append.1 hp with hp | hp
    · exact List.mem_append.2 (.inl (h.sub p hp))
    · rw [List.mem_singleton.1 hp]
      exact List.mem_append.2 (.inr (by simp [fz]))
  · have : (V ++ [(newC (und R) R.length at' (o, t) xs, v)]).Pairwise fun x y => x.1.no < y.1.no := by
      rw [List.pairwise_append]
      refine ⟨hsrt, by simp, fun x hx y hy => ?_⟩
      rw [List.mem_singleton.1 hy]
      have := hV x hx
      show x.1.no < (R.length : Int) + 1
      omega
    exact fun i j hi hj hij => List.pairwise_iff_getElem.1 this i j hi hj hij
  · intro x hx
    rcases List.mem_append.1 hx with hx | hx
    · exact h.ok.no x hx
    · rw [List.mem_singleton.1 hx]
      show 0 ≤ (R.length : Int) + 1 ∧ (R.length : Int) + 1 ≤ 1000000
      omega
  · intro x hx
    rcases List.mem_append.1 hx with hx | hx
    · exact h.ok.ah x hx
    · rw [List.mem_singleton.1 hx]
      refine ⟨?_, fun n hn => by have := hah n hn; omega⟩
      have := alT_le (und R) at' (o, t) xs (und R).length
      have h2 := h.len
      show (alls (und R) at' (o, t) xs).length ≤ _
      rw [alls]
      omega
  · intro x hx
    rcases List.mem_append.1 hx with hx | hx
    · exact h.ok.by' x hx
    · rw [List.mem_singleton.1 hx]; exact zt
  · intro x hx
    rcases List.mem_append.1 hx with hx | hx
    · exact h.ok.sec x hx
    · rw [List.mem_singleton.1 hx]
      show inI64 at'
      exact ⟨by omega, by omega⟩
/-- A change's state, by a number that may be none. -/
def isR' (R : List Ch) (n : Int) : Int := if 1 ≤ n ∧ n ≤ (R.length : Int) then stOf n R else 0
theorem DR.is (h : DR V W R) (n : Int) : isR (chs V) R.length n = isR' R n := by
  unfold isR isR'
  rw [h.eq, stOf_und h.nd]
/-- The places of a sector's changes. -/
def plT (L : List Ch) (k : Int) : Nat → List Int
  | 0 => []
  | j + 1 => match L[j]? with
    | none => plT L k j
    | some c => if (c.at' == k) = true then plT L k j ++ [(j : Int)] else plT L k j
theorem plT_iff {L : List Ch} {k : Int} : ∀ j, j ≤ L.length → ∀ p : Int, p ∈ plT L k j ↔ ∃ (i : Nat) (h : i < L.length), p = (i : Int) ∧ i < j ∧ L[i].at' = k
  | 0, _, p => by simp [plT]
  | j + 1, hj, p => by
    have hlt : j < L.length := hj
    have ih := plT_iff (L := L) (k := k) j (by omega) p
    rw [plT, List.getElem?_eq_getElem hlt]
    simp only
    by_cases hc : L[j].at' = k
    · rw [if_pos (by simpa using hc), List.mem_append, ih, List.mem_singleton]
      constructor
      · rintro (⟨i, hi, h1, h2, h3⟩ | h)
        · exact ⟨i, hi, h1, by omega, h3⟩
        · exact ⟨j, hlt, h, by omega, hc⟩
      · rintro ⟨i, hi, h1, h2, h3⟩
        rcases Nat.lt_succ_iff_lt_or_eq.1 h2 with h4 | h4
        · exact .inl ⟨i, hi, h1, h4, h3⟩
        · subst h4; exact .inr h1
    · rw [if_neg (by simpa using hc), ih]
      constructor
      · rintro ⟨i, hi, h1, h2, h3⟩; exact ⟨i, hi, h1, by omega, h3⟩
      · rintro ⟨i, hi, h1, h2, h3⟩
        refine ⟨i, hi, h1, ?_, h3⟩
        rcases Nat.lt_succ_iff_lt_or_eq.1 h2 with h4 | h4
        · exact h4
        · subst h4; exact absurd h3 hc
theorem plT_up (L : List Ch) (k : Int) : ∀ j, j ≤ L.length → (plT L k j).Pairwise (· < ·)
  | 0, _ => by simp [plT]
  | j + 1, hj => by
    have hlt : j < L.length := hj
    have ih := plT_up L k j (by omega)
    rw [plT, List.getElem?_eq_getElem hlt]
    simp only
    split
    · rw [List.pairwise_append]
      refine ⟨ih, by simp, fun a ha b hb => ?_⟩
      obtain ⟨i, _, h1, h2, _⟩ := (plT_iff j (by omega) a).1 ha
      rw [List.mem_singleton.1 hb]
      omega
    · exact ih
theorem ofT_up (L : List Ch) (k s : Int) : ∀ j, j ≤ L.length → (ofT L k s j).Pairwise (· < ·)
  | 0, _ => by simp [ofT]
  | j + 1, hj => by
    have hlt : j < L.length := hj
    have ih := ofT_up L k s j (by omega)
    rw [ofT, List.getElem?_eq_getElem hlt]
    simp only
    split
    · rw [List.pairwise_append]
      refine ⟨ih, by simp, fun a ha b hb => ?_⟩
      have := ofT_mem ha
      rw [List.mem_singleton.1 hb]
      omega
    · exact ih
theorem up_nodup {l : List Int} (h : l.Pairwise (· < ·)) : l.Nodup := h.imp fun h => by omega
theorem vwI_pl {V : DV} {k : Int} (hst : ∀ x ∈ V, x.1.st = 1 ∨ x.1.st = 2) : vwI (chs V) k = plT (chs V) k V.length := by
  have hl : (chs V).length = V.length := by simp
  have hu := plT_up (chs V) k V.length (by omega)
  have h1 : (ofI (chs V) k 1 ++ ofI (chs V) k 2).Nodup := by
    rw [List.nodup_append]
    refine ⟨up_nodup (ofT_up _ _ _ _ (Nat.le_refl _)), up_nodup (ofT_up _ _ _ _ (Nat.le_refl _)), fun a ha b hb hab => ?_⟩
    subst hab
    obtain ⟨q0, q1⟩ := ofI_mem ha
    obtain ⟨i, rfl⟩ : ∃ i : Nat, a = (i : Int) := ⟨a.toNat, by omega⟩
    have hi : i < V.length := by omega
    have h1 := (ofI_iff i hi).1 ha
    have h2 := (ofI_iff i hi).1 hb
    simp at h1 h2
    omega
  have hp : (ofI (chs V) k 1 ++ ofI (chs V) k 2).Perm (plT (chs V) k V.length) := by
    refine (List.perm_ext_iff_of_nodup h1 (up_nodup hu)).2 fun a => ?_
    rw [List.mem_append, plT_iff _ (by omega)]
    constructor
    · intro h
      have q : 0 ≤ a ∧ a < (V.length : Int) := h.elim (fun h => ofI_mem h) fun h => ofI_mem h
      obtain ⟨i, rfl⟩ : ∃ i : Nat, a = (i : Int) := ⟨a.toNat, by omega⟩
      have hi : i < V.length := by omega
      refine ⟨i, by omega, rfl, by omega, ?_⟩
      rw [ofI_iff i hi, ofI_iff i hi] at h
      simp at h ⊢
      rcases h with h | h <;> exact h.1
    · rintro ⟨i, hi, rfl, h2, h3⟩
      have hi' : i < V.length := by omega
      rw [ofI_iff i hi', ofI_iff i hi']
      simp at h3
      rcases hst _ (List.getElem_mem hi') with h | h
      · left; simp [h3, h]
      · right; simp [h3, h]
  show srtI _ = _
  rw [srtI_perm hp, srtI_sorted hu]
theorem plT_map {β : Type} (L : List Ch) (k : Int) (f : Int → β) (g : Ch → β) (hfg : ∀ (i : Nat) (h : i < L.length), f (i : Int) = g L[i]) : ∀ j, j ≤ L.length → (plT L k j).map f = ((L.take j).filter fun c => c.at' == k).map g
  | 0, _ => by simp [plT]
  | j + 1, hj => by
    have hlt : j < L.length := hj
    rw [List.take_succ_eq_append_getElem hlt, plT, List.getElem?_eq_getElem hlt]
    simp only [List.filter_append, List.map_append]
    rw [← plT_map L k f g hfg j (by omega)]
    by_cases hc : (L[j].at' == k) = true
    · rw [if_pos hc, filt1 (fun c : Ch => c.at' == k) hc, List.map_append]
      simp [hfg j hlt]
    · rw [if_neg hc, filt0 (fun c : Ch => c.at' == k) hc]
      simp
/-- The patches of what is not done at a sector. -/
def vwP (R : List Ch) (k : Int) : List Pt := (R.filter fun c => c.at' == k && c.st != 0).map fun c => (c.off, c.by')
theorem DR.vw (h : DR V W R) (k : Int) : (vwI (chs V) k).map (chP (chs V)) = vwP R k := by
  have hst : ∀ x ∈ V, x.1.st = 1 ∨ x.1.st = 2 := fun x hx => by
    have h1 : x.1 ∈ und R := h.eq ▸ List.mem_map.2 ⟨x, hx, rfl⟩
    obtain ⟨h2, h3⟩ := und_mem.1 h1
    rcases h.dep.st _ h2 with h | h | h
    · exact absurd h h3
    · exact .inl h
    · exact .inr h
  rw [vwI_pl hst, plT_map (chs V) k (chP (chs V)) (fun c => (c.off, c.by')) (fun i hi => by
    have hi' : i < V.length := by simpa using hi
    rw [chP_eq hi']; simp) _ (by simp), List.take_of_length_le (by simp), h.eq, vwP, und, List.filter_filter]
end
end Cw
namespace Cw
open Go Vc
open Go.Proofs
set_option maxRecDepth 100000
theorem look_ne {H : HL} {d q : Nat} {x : Option (Bool × Ob)} (h : d ≠ q) : lookH ((d, x) :: H) q = lookH H q := by rw [lookH_cons, if_neg (fun e => h e.symm)]
theorem look_eq {H : HL} {d : Nat} {x : Bool × Ob} : lookH ((d, some x) :: H) d = some x := by rw [lookH_cons, if_pos rfl]
section
variable {H : HL} {nx d q : Nat} {b1 : Bool} {V : DV} {W : List (List Int × Option Addr × Nat)} {R : List Ch}
/-- Changes with a new one, whose slice is told of; its number hidden. -/
def adX (V : DV) (last : Int) (c : Ch) : AbP := exP fun b => adP V last b c
end
/-- A patch of one byte. -/
def bt1 (b : Int) : ByteArray := ⟨#[UInt8.ofNat b.toNat]⟩
end Cw
namespace Vc
open Go Go.RowKit
/-- A thing that stands in no block. -/
theorem Sat.newE {F : Frm} {L : LL} {H : HL} {nx : Nat} {e : Env} {a : Act} {w : World} (S : Sat F (fun t => look t L) (lookH H) e a w) (hW : WF L H nx) (φ : AbP) (v : Value) (hs : stable φ) (hone : v.oneCell' = true) (h : φ v (fun _ => False) w) :
    WF L ((nx, some (true, .ab φ)) :: H) (nx + 1) ∧ Sat F (fun t => look t L) (lookH ((nx, some (true, .ab φ)) :: H)) (e.put3 nx 0 v (fun _ => False)) a w := by
  have hsame : ∀ n, n < nx → e.same (e.put3 nx 0 v (fun _ => False)) n := fun n hn => Env.put3_same e (by omega)
  refine ⟨⟨fun t v hv n hn => by have := hW.l t v hv n hn; omega, fun n z hz => ?_⟩, S.fr, S.sz, S.df, fun t v hv => ?_, fun n c o hz => ?_, fun n o k c q hn hk hne g hg hg' => ?_⟩
  · rw [lookH_cons] at hz
    split at hz
    · cases hz
      exact ⟨by omega, fun m hm => by simp [Ob.ns] at hm⟩
    · obtain ⟨g1, g2⟩ := hW.h n z hz
      exact ⟨by omega, fun k hk => by have := g2 k hk; omega⟩
  · rw [S.sl t v hv]
    exact (SV.den_same fun n hn => hsame n (hW.l t v hv n hn)).symm
  · rw [lookH_cons] at hz
    split at hz
    · rename_i hn
      cases hz
      subst hn
      refine ⟨⟨by rw [Env.put3_fp, Env.put3_val e hone]; exact h, hs⟩, fun g hg => ?_⟩
      rw [Env.put3_fp] at hg
      exact hg.elim
    · obtain ⟨h1, h2⟩ := hW.h n _ hz
      obtain ⟨h3, h4⟩ := S.ob n c o hz
      refine ⟨Ob.same (hsame n h1) h3 fun k hk => (hsame k (h2 k hk)).v, fun g hg => ?_⟩
      rw [(hsame n h1).2.2] at hg
      exact h4 g hg
  · rw [lookH_cons] at hn hk
    split at hn
    · rename_i h2
      subst h2
      rw [Env.put3_fp] at hg
      exact hg
    · split at hk
      · rename_i h2
        subst h2
        rw [Env.put3_fp] at hg'
        exact hg'
      · rw [(hsame n (hW.h n _ hn).1).2.2] at hg
        rw [(hsame k (hW.h k _ hk).1).2.2] at hg'
        exact S.dj n o k c q hn hk hne g hg hg'
theorem At.newE {P : Program} {F : Frm} {Q : Exit → Act → World → Prop} {c : Code} {ks : List KI} {L : LL} {H : HL} {nx : Nat} (φ : AbP) (v : Value) (hs : stable φ) (hone : v.oneCell' = true) (hp : ∀ w, φ v (fun _ => False) w) (h : At P F Q c ks L ((nx, some (true, .ab φ)) :: H) (nx + 1)) : At P F Q c ks L H nx :=
  ⟨fun hW e a w S => let ⟨hW', S'⟩ := S.newE hW φ v hs hone (hp w); h.h hW' _ a w S'⟩
theorem Done.newE {F : Frm} {Q : Act → World → Prop} {L : LL} {H : HL} {nx : Nat} (φ : AbP) (v : Value) (hs : stable φ) (hone : v.oneCell' = true) (hp : ∀ w, φ v (fun _ => False) w) (h : Done F Q L ((nx, some (true, .ab φ)) :: H) (nx + 1)) : Done F Q L H nx :=
  ⟨fun hW e a w S => let ⟨hW', S'⟩ := S.newE hW φ v hs hone (hp w); h.h hW' _ a w S'⟩
end Vc
namespace Cw
open Go Vc
open Go.Proofs
set_option maxRecDepth 100000
theorem bt1_size (b : Int) : (bt1 b).size = 1 := rfl
theorem bt1_okp {o : Int} (b : Int) (h : 0 ≤ o ∧ o < 64) : okp (o, bt1 b) = true := by
  simp [okp, finside, bt1_size]
  omega
theorem bt1_fcheck {o : Int} (b : Int) (h : 0 ≤ o ∧ o < 64) : fcheck o (bt1 b).size = 0 := by
  have : finside o (bt1 b).size = true := bt1_okp b h
  rw [fcheck, if_pos this]
theorem bt1_ovb {o p : Int} (x y : Int) (h : 0 ≤ o ∧ o < 64) (h' : 0 ≤ p ∧ p < 64) : ovb (o, bt1 x) (p, bt1 y) = (o == p) := by
  have e : ove (o, bt1 x) (p, bt1 y) = 0 := if_pos ⟨bt1_okp x h, bt1_okp y h'⟩
  rw [ovb, if_pos e, both, Bool.eq_iff_iff, decide_eq_true_eq, beq_iff_eq]
  show max o p < min (o + ((bt1 x).size : Int)) (p + ((bt1 y).size : Int)) ↔ _
  rw [bt1_size, bt1_size]
  omega
theorem adB_zero {last at' o : Int} {b : Int} {n : Nat} {xs : List Int} (h1 : 0 ≤ at' ∧ at' < 2048) (h2 : 0 ≤ o ∧ o < 64) (h3 : ∀ x ∈ xs, 1 ≤ x ∧ x ≤ last) (h4 : n < 1024) : adB last at' o (bt1 b) n xs = 0 := by
  rw [adB, if_neg, if_neg, if_neg (by omega)]
  · rw [List.any_eq_true]
    rintro ⟨x, hx, hp⟩
    have := h3 x hx
    simp only [pdA, Bool.or_eq_true, decide_eq_true_eq] at hp
    omega
  · rintro (h | h | h)
    · omega
    · omega
    · exact h (bt1_fcheck b h2)
def wc1 (s : Int) : Ch := ⟨1, 5, 0, bt1 1, [], s⟩
def wc2 (s : Int) : Ch := ⟨2, 6, 0, bt1 2, [1], s⟩
def wc3 : Ch := ⟨3, 5, 1, bt1 3, [2], 1⟩
def wR (a b : Int) : List Ch := [wc1 a, wc2 b, wc3]
end Cw
