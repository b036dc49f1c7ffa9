/- The package deps: what is lost, what is sent, by reckoning. -/
import Derived.Test.YtapmgndnjgoimaaGreatDep
import Derived.Test.YtapmgndnjgoimaaGreatDelC
import Derived.Test.YtapmgndnjgoimaaGreatFnV
import Derived.Test.YtapmgndnjgoimaaGreatSlV
import Derived.Test.YtapmgndnjgoimaaGreatVcFld
import Derived.Test.YtapmgndnjgoimaaGreatMapK
namespace Vc
open Go Go.RowKit
/-- A method that changes the thing it is called of, and reads something that it isn't told. -/
theorem fnA1f {P : Program} {f : FuncId} {fn : Func} {c : Code} (N : Nat) (hf : P.funcs[f]? = some fn) (hb : fn.body = some c) (hN : fn.ntmps = N) {d q : Nat} {b1 : Bool} {ψ : AbP} {bs : List TV} {H : HL} {nx : Nat} {φ φ' : AbP} {v v' : SV} {news news' : List (Bool × Ob)}
    (hd : lookH H d = some (true, .ab φ)) (hq : lookH H q = some (b1, .ab ψ)) (hdq : d ≠ q) (v0 : Value) (hp0 : Pins φ v0) (hp1 : Pins φ' v0) (hbs : bares bs = true) (hl : Nat.ble (bs.length + 1) N = true) (hW : wfL 2 (argsL 0 ((TV.c (.nm 0) :: bs).map .t)) = true)
    (hv : v'.re (fun n => nx + (n - 1)) = v) (hnw : reN (fun n => nx + (n - 1)) news' = news) (hvr : inR 1 (1 + news'.length) v'.ns = true) (hnr : newsR 1 (1 + news'.length) news' = true)
    (hg : ∀ w W, At P ⟨w, W, N⟩ (bodyPost P fn (MPost w W v' ((true, .ab φ') :: news'))) c [] (argsL 0 ((TV.c (.nm 0) :: bs).map .t)) [(0, some (true, .ab φ)), (1, some (false, .ab ψ))] 2) :
    FnH P f (.c (.nm d) :: bs) H nx ⟨v, news, [(d, some (.ab φ'))], []⟩ := by
  refine fnM N hf hb hN (args' := .c (.nm 0) :: bs) (H' := [(0, some (true, .ab φ)), (1, some (false, .ab ψ))]) (nx' := 2) [(d, φ')] (fun e w M => ?_) hl hW rfl (fun e w M u hu v1 F w' h => ?_) (fun u hu => ?_) (by simp) hv hnw rfl hvr hnr hg
  · let g3 : Nat → Nat := fun n => if n = 0 then d else q
    have hc : ∀ {n : Nat} {z : Bool × Ob}, lookH [(0, some (true, .ab φ)), (1, some (false, .ab ψ))] n = some z → n = 0 ∧ z = (true, .ab φ) ∨ n = 1 ∧ z = (false, .ab ψ) := by
      intro n z h
      rw [lookH_cons] at h
      split at h
      · cases h; exact .inl ⟨by assumption, rfl⟩
      · rw [lookH_cons] at h
        split at h
        · cases h; exact .inr ⟨by assumption, rfl⟩
        · cases h
    refine ⟨e.comp g3, ⟨fun n b o' hn => ?_, fun n o' m c q' hn hm hne g hg hg' => ?_⟩, ?_⟩
    · rcases hc hn with ⟨rfl, h⟩ | ⟨rfl, h⟩
      · cases h
        obtain ⟨h1, h2⟩ := M.ob d true _ hd
        exact ⟨h1, fun g hg => ⟨h2 g hg, fun _ => ⟨(d, φ'), by simp, hg⟩⟩⟩
      · cases h
        obtain ⟨h1, h2⟩ := M.ob q b1 _ hq
        exact ⟨Ob.re_back (r := g3) (n := 1) h1, fun g hg => ⟨h2 g hg, fun h => by cases h⟩⟩
    · rcases hc hn with ⟨rfl, h⟩ | ⟨rfl, h⟩
      · rcases hc hm with ⟨rfl, _⟩ | ⟨rfl, _⟩
        · exact hne rfl
        · exact M.dj d _ q _ _ hd hq hdq g hg hg'
      · cases h
    · rw [List.map_cons, List.map_cons, bares_den hbs e, ← bares_den hbs (e.comp g3)]
      rfl
  · simp only [List.mem_singleton] at hu
    subst hu
    rw [hp1 _ _ _ h]
    exact (hp0 _ _ _ (M.ob d true _ hd).1.1).symm
  · simp only [List.mem_singleton] at hu
    subst hu
    exact ⟨_, hd⟩
/-- A nil slice gets a name, at the end. -/
theorem Done.nil {F : Frm} {Q : Act → World → Prop} {L : LL} {H : HL} {nx : Nat} (t : Tmp) (T : TypeId) (s : Nat) (hl : look t L = some (.t (.c .nsl)))
    (h : Done F Q ((t, .t (.c (.nm nx))) :: L) ((nx, some (true, .own T s 0 [])) :: H) (nx + 1)) : Done F Q L H nx := by
  refine ⟨fun hW e a w S => h.h ⟨fun t' v hv n hn => ?_, fun n x hx => ?_⟩ (e.newV nx (.slice none 0 0)) a w ?_⟩
  · rw [look_cons] at hv
    split at hv
    · cases hv
      have : n = nx := by simpa [SV.ns, TV.ns, CV.ns] using hn
      omega
    · have := hW.l t' v hv n hn
      omega
  · rw [lookH_cons] at hx
    split at hx
    · cases hx
      exact ⟨by omega, fun m hm => by simp [Ob.ns] at hm⟩
    · obtain ⟨h1, h2⟩ := hW.h n x hx
      exact ⟨by omega, fun m hm => by have := h2 m hm; omega⟩
  · have hsame : ∀ n, n < nx → e.same (e.newV nx (.slice none 0 0)) n := fun n hn => Env.newV_same e (by omega)
    have hno : ∀ g, ¬ (e.newV nx (.slice none 0 0)).fp nx g := fun g hg => by
      have := (Env.newV_fp e nx (.slice none 0 0) g).1 hg
      cases this
    refine ⟨S.fr, S.sz, S.df, fun t' v hv => ?_, fun n b o hx => ?_, fun n o m c' q hn hm hne g hg hg' => ?_⟩
    · simp only [look_cons] at hv
      split at hv
      · rename_i ht
        cases hv
        subst ht
        rw [S.sl _ _ hl]
        simp only [SV.den, TV.den, CV.den]
        exact (Env.newV_val (v := .slice none 0 0) e nx rfl).symm
      · rw [S.sl t' v hv]
        exact (SV.den_same fun n hn => hsame n (hW.l t' v hv n hn)).symm
    · rw [lookH_cons] at hx
      split at hx
      · rename_i hn
        cases hx
        subst hn
        refine ⟨⟨⟨by simp, .inl ⟨Env.newV_val (v := .slice none 0 0) e n rfl, rfl⟩⟩, fun g => ?_⟩, fun g hg => (hno g hg).elim⟩
        rw [Env.newV_fp, Env.newV_val (v := .slice none 0 0) e n rfl]
      · obtain ⟨h1, h2⟩ := hW.h n _ hx
        obtain ⟨h3, h4⟩ := S.ob n b o hx
        have hs := hsame n h1
        refine ⟨Ob.same hs h3 fun m hm => (hsame m (h2 m hm)).v, fun g hg => ?_⟩
        rw [hs.2.2] at hg
        exact h4 g hg
    · rw [lookH_cons] at hn hm
      split at hn
      · rename_i h1
        subst h1
        exact hno g hg
      · split at hm
        · rename_i h1
          subst h1
          exact hno g hg'
        · rw [(hsame n (hW.h n _ hn).1).2.2] at hg
          rw [(hsame m (hW.h m _ hm).1).2.2] at hg'
          exact S.dj n o m c' q hn hm hne g hg hg'
end Vc
namespace Cw
open Go Vc
open Go.Proofs
set_option maxRecDepth 100000
def depO (V : DV) (last : Int) (b : Nat) : List (Bool × Ob) := [(true, .cells [.nm 1, iT last] 83), (true, .own 85 6 V.length (dpc V)), (false, .pin 0 b)]
/-- The changes, as one thing. -/
def depP (V : DV) (last : Int) (b : Nat) : AbP := absP (depO V last b) (.p 0 0)
theorem dep_pins (V : DV) (last : Int) (b : Nat) : Pins (depP V last b) (ptr b) := pins_abs (k := 2) rfl
def stf (s : Int) (x : Ch × Option Addr × Nat) : Ch × Option Addr × Nat := ({ x.1 with st := s }, x.2)
/-- Those at places are in a state from now on. -/
def setP (V : DV) (ps : List Int) (s : Int) : DV := ps.foldl (fun V p => V.modify p.toNat (stf s)) V
theorem setP_len (s : Int) : ∀ (ps : List Int) (V : DV), (setP V ps s).length = V.length
  | [], _ => rfl
  | p :: ps, V => by rw [setP, List.foldl_cons, ← setP, setP_len s ps, List.length_modify]
theorem setP_snoc (V : DV) (ps : List Int) (p : Int) (s : Int) : setP V (ps ++ [p]) s = (setP V ps s).modify p.toNat (stf s) := by rw [setP, List.foldl_append]; rfl
theorem stf_stf (s : Int) (x : Ch × Option Addr × Nat) : stf s (stf s x) = stf s x := rfl
theorem setP_at (s : Int) : ∀ (ps : List Int) (V : DV) (i : Nat) (h : i < V.length) (_ : ∀ p ∈ ps, 0 ≤ p), (setP V ps s)[i]? = some (if (i : Int) ∈ ps then stf s V[i] else V[i])
  | [], V, i, h, _ => by simp [setP, h]
  | p :: ps, V, i, h, hp => by
    have h0 := hp p (by simp)
    rw [setP, List.foldl_cons, ← setP, setP_at s ps _ i (by rw [List.length_modify]; exact h) fun x hx => hp x (by simp [hx])]
    rw [List.getElem_modify]
    congr 1
    by_cases h1 : p.toNat = i
    · have h2 : (i : Int) = p := by omega
      rw [if_pos h1, if_pos (List.mem_cons.2 (.inl h2)), stf_stf, ite_self]
    · have h2 : ¬ (i : Int) = p := by omega
      rw [if_neg h1]
      by_cases h3 : (i : Int) ∈ ps
      · rw [if_pos h3, if_pos (by simp [h3])]
      · rw [if_neg h3, if_neg (by simp [h2, h3])]
theorem setP_eq {V : DV} {ps : List Int} {s : Int} {p : Ch → Bool} (h0 : ∀ x ∈ ps, 0 ≤ x) (h : ∀ (i : Nat) (hi : i < V.length), (i : Int) ∈ ps ↔ p V[i].1 = true) : chs (setP V ps s) = setF p s (chs V) := by
  apply List.ext_getElem?
  intro i
  rcases Nat.lt_or_ge i V.length with hi | hi
  · rw [chs, List.getElem?_map, setP_at s ps V i hi h0, setF, List.getElem?_map, chs, List.getElem?_map, List.getElem?_eq_getElem hi]
    simp only [Option.map_some, h i hi]
    congr 1
    split <;> rfl
  · rw [List.getElem?_eq_none (by rw [chs, List.length_map, setP_len]; exact hi), List.getElem?_eq_none (by rw [setF_len, chs, List.length_map]; exact hi)]
theorem ofT_iff {V : DV} {k s : Int} : ∀ (j : Nat), j ≤ V.length → ∀ (i : Nat) (hi : i < V.length), (i : Int) ∈ ofT (chs V) k s j ↔ i < j ∧ (V[i].1.at' == k && V[i].1.st == s) = true
  | 0, _, i, hi => by simp [ofT]
  | j + 1, hj, i, hi => by
    have ih := ofT_iff (V := V) (k := k) (s := s) j (by omega) i hi
    rw [ofT_succ (by omega)]
    by_cases hc : (V[j].1.at' == k && V[j].1.st == s) = true
    · rw [if_pos hc, List.mem_append, ih, List.mem_singleton]
      constructor
      · rintro (⟨h1, h2⟩ | h)
        · exact ⟨by omega, h2⟩
        · have : i = j := by omega
          subst this
          exact ⟨by omega, hc⟩
      · rintro ⟨h1, h2⟩
        by_cases h3 : i = j
        · right; omega
        · exact .inl ⟨by omega, h2⟩
    · rw [if_neg hc, ih]
      constructor
      · rintro ⟨h1, h2⟩; exact ⟨by omega, h2⟩
      · rintro ⟨h1, h2⟩
        have : i ≠ j := fun h => by subst h; exact hc h2
        exact ⟨by omega, h2⟩
theorem ofI_iff {V : DV} {k s : Int} (i : Nat) (hi : i < V.length) : (i : Int) ∈ ofI (chs V) k s ↔ (V[i].1.at' == k && V[i].1.st == s) = true := by
  rw [ofI, show (chs V).length = V.length by simp, ofT_iff _ (Nat.le_refl _) i hi]
  exact ⟨fun h => h.2, fun h => ⟨hi, h⟩⟩
theorem chs_lost (V : DV) (k : Int) : chs (setP V (ofI (chs V) k 2) 1) = setK k 1 (chs V) := setP_eq (fun _ h => (ofI_mem h).1) fun i hi => ofI_iff i hi
theorem rdyI_iff {V : DV} (hs : srtV V) {k : Int} (i : Nat) (hi : i < V.length) : (i : Int) ∈ rdyI (chs V) k V.length ↔ (rdyN (chs V) k).contains V[i].1.no = true := by
  rw [List.contains_iff_mem, ← nosP_rdy hs, nosP]
  constructor
  · intro h
    exact List.mem_map.2 ⟨_, h, noAt_eq hi⟩
  · intro h
    obtain ⟨p, hp, hn⟩ := List.mem_map.1 h
    obtain ⟨h0, h1⟩ := rdyI_mem hs k p hp
    obtain ⟨j, rfl⟩ : ∃ j : Nat, p = (j : Int) := ⟨p.toNat, by omega⟩
    have hj : j < V.length := by omega
    rw [noAt_eq hj] at hn
    have : i = j := by
      rcases Nat.lt_trichotomy i j with hlt | he | hlt
      · have := hs _ _ hi hj hlt; omega
      · exact he
      · have := hs _ _ hj hi hlt; omega
    exact this ▸ hp
theorem chs_sent {V : DV} (hs : srtV V) (k : Int) : chs (setP V (rdyI (chs V) k V.length) 2) = setN (rdyN (chs V) k) 2 (chs V) := setP_eq (fun p h => (rdyI_mem hs k p h).1) fun i hi => rdyI_iff hs i hi
theorem setP_fz {V : DV} {ps : List Int} {s : Int} : (∀ p ∈ ps, 0 ≤ p) → (setP V ps s).map (fun x => (x.1.no, x.1.at', x.1.off, x.1.by', fz x)) = V.map fun x => (x.1.no, x.1.at', x.1.off, x.1.by', fz x) := by
  intro h0
  apply List.ext_getElem?
  intro i
  rcases Nat.lt_or_ge i V.length with hi | hi
  · rw [List.getElem?_map, setP_at s ps V i hi h0, List.getElem?_map, List.getElem?_eq_getElem hi]
    simp only [Option.map_some]
    congr 1
    split <;> rfl
  · rw [List.getElem?_eq_none (by rw [List.length_map, setP_len]; exact hi), List.getElem?_eq_none (by rw [List.length_map]; exact hi)]
theorem SubW_of {V V' : DV} {W : List (List Int × Option Addr × Nat)} (h : SubW V W) (he : ∀ x ∈ V', ∃ y ∈ V, fz y = fz x) : SubW V' W := fun x hx => by
  obtain ⟨y, hy, e⟩ := he x hx
  rw [← e]; exact h y hy
theorem setP_mem {V : DV} {ps : List Int} {s : Int} (h0 : ∀ p ∈ ps, 0 ≤ p) {x : Ch × Option Addr × Nat} (hx : x ∈ setP V ps s) : ∃ y ∈ V, y.1.no = x.1.no ∧ y.1.at' = x.1.at' ∧ y.1.off = x.1.off ∧ y.1.by' = x.1.by' ∧ fz y = fz x := by
  have h1 : (x.1.no, x.1.at', x.1.off, x.1.by', fz x) ∈ (setP V ps s).map fun x => (x.1.no, x.1.at', x.1.off, x.1.by', fz x) := List.mem_map.2 ⟨x, hx, rfl⟩
  rw [setP_fz h0] at h1
  obtain ⟨y, hy, e⟩ := List.mem_map.1 h1
  simp only [Prod.mk.injEq] at e
  exact ⟨y, hy, e⟩
theorem setP_no {V : DV} {ps : List Int} {s : Int} (h0 : ∀ p ∈ ps, 0 ≤ p) : (chs (setP V ps s)).map Ch.no = (chs V).map Ch.no := by
  have := congrArg (List.map fun x : Int × Int × Int × ByteArray × List Int × Option Addr × Nat => x.1) (setP_fz (V := V) (ps := ps) (s := s) h0)
  rw [List.map_map, List.map_map] at this
  rw [chs, chs, List.map_map, List.map_map]
  exact this
theorem srtV_no {V V' : DV} (h : srtV V) (e : (chs V').map Ch.no = (chs V).map Ch.no) : srtV V' := by
  have hl : V'.length = V.length := by simpa using congrArg List.length e
  have he : ∀ i (hi : i < V'.length) (hj : i < V.length), V'[i].1.no = V[i].1.no := fun i hi hj => by
    have := congrArg (fun l => l[i]?) e
    simpa [hi, hj] using this
  intro i j hi hj hij
  rw [he i hi (by omega), he j hj (by omega)]
  exact h i j _ _ hij
theorem VOk.setP {V : DV} (ok : VOk V) {ps : List Int} {s : Int} (h0 : ∀ p ∈ ps, 0 ≤ p) : VOk (setP V ps s) := by
  refine ⟨by rw [setP_len]; exact ok.z, srtV_no ok.srt (setP_no h0), fun x hx => ?_, fun x hx => ?_, fun x hx => ?_, fun x hx => ?_⟩
  · obtain ⟨y, hy, h1, _⟩ := setP_mem h0 hx
    rw [← h1]; exact ok.no y hy
  · obtain ⟨y, hy, _, _, _, _, h1⟩ := setP_mem h0 hx
    have := ok.ah y hy
    rw [show y.1.ah = x.1.ah from congrArg Prod.fst h1] at this
    exact this
  · obtain ⟨y, hy, _, _, _, h1, _⟩ := setP_mem h0 hx
    rw [← h1]; exact ok.by' y hy
  · obtain ⟨y, hy, _, h1, _⟩ := setP_mem h0 hx
    rw [← h1]; exact ok.sec y hy
theorem set_dpc {V : DV} {i : Nat} {s : Int} (h : i < V.length) : Vc.setAt (dpc V) ((i : Int).toNat * 6 + 5) [Value.int .i64 s] = dpc (V.modify i (stf s)) := by
  have h1 : V.modify i (stf s) = V.set i (stf s V[i]) := by
    apply List.ext_getElem?
    intro j
    rw [List.getElem?_modify, List.getElem?_set]
    by_cases hj : i = j
    · subst hj; simp [h]
    · simp [hj]
  rw [h1, Int.toNat_natCast]
  exact set_fcs depC_len h (by decide) rfl
section
variable {H : HL} {nx d q b : Nat} {b1 : Bool} {V : DV} {W : List (List Int × Option Addr × Nat)} {last : Int}
def dpH (V : DV) (last : Int) (b : Nat) : HL := [(1, some (true, .cells [.nm 2, iT last] 83)), (2, some (true, .own 85 6 V.length (dpc V))), (3, some (false, .pin 1 b))]
def lsE (L : List Ch) (k : Int) : Int := if (ofI L k 2).length = 0 then 120 else 0
set_option maxRecDepth 100000 in
set_option maxHeartbeats 2000000 in
theorem lostA (hd : lookH H d = some (true, .ab (depP V last b))) (z : V.length ≤ 1000000) (k : Int) :
    FnH Tryz.prog 32 [.c (.nm d), .c (iT k)] H nx ⟨.t (.c (iT (lsE (chs V) k))), [], [(d, some (.ab (depP (setP V (ofI (chs V) k 2) 1) last b)))], []⟩ := by
  refine fnA (fn := Tryz.f32) 28 rfl rfl rfl hd (ptr b) (dep_pins _ _ _) (dep_pins _ _ _) rfl rfl rfl (v' := .t (.c (iT (lsE (chs V) k)))) (news' := []) rfl rfl rfl rfl fun w Wr => ?_
  refine At.unfoldTo 0 (L1 := [(0, .t (.c (.p 1 0))), (1, .t (.c (iT k)))]) (H1 := [(1, some (true, .cells [.nm 2, iT last] 83)), (2, some (true, .own 85 6 V.length (dpc V))), (3, some (false, .pin 1 b)), (0, none), (0, some (true, .ab (depP V last b)))]) (nx1 := 4) rfl rfl rfl rfl rfl rfl ?_
  have hof := fun (H : HL) (nx : Nat) (h1 : lookH H 1 = some (true, .cells [.nm 2, iT last] 83)) (h2 : lookH H 2 = some (true, .own 85 6 V.length (dpc V))) => ofU (nx := nx) h1 h2 z k 2
  have hple := ofI_le V k 2
  have hpm := fun p (h : p ∈ ofI (chs V) k 2) => ofI_mem h
  have hls : lsE (chs V) k = if (ofI (chs V) k 2).length = 0 then 120 else 0 := rfl
  generalize ofI (chs V) k 2 = ps at *
  by_cases h0 : ps.length = 0
  · rw [hls, if_pos h0]
    obtain rfl : ps = [] := List.length_eq_zero_iff.1 h0
    refine rn [(10, .spec ⟨.t (.c (.nm 4)), [(true, .own 3 1 0 (ivs []))], [], []⟩), (13, .dec true)] rfl (by (repeat' (first | exact trivial | exact rfl | exact trivial | exact fun _ => trivial | first | exact hof _ _ rfl rfl | rfl | refine And.intro ?_ ?_))) ?_
    refine Done.fold [(0, 1), (1, 2), (2, 3)] (depO (setP V [] 1) last b) (.p 0 0) (by repeat' (first | exact trivial | exact rfl | refine And.intro ?_ ?_)) rfl rfl (fun _ => rfl) ?_
    exact retM tysOk [(0, 5)] rfl (by repeat' (first | exact trivial | exact rfl | refine And.intro ?_ ?_)) (by repeat' (first | exact trivial | exact rfl | refine And.intro ?_ ?_)) rfl rfl
  · rw [hls, if_neg h0]
    have g1 : ((ps.length : Int) == 0) = false := by simp; exact fun h => h0 (by rw [h]; rfl)
    refine rn [(10, .spec ⟨.t (.c (.nm 4)), [(true, .own 3 1 ps.length (ivs ps))], [], []⟩), (13, .dec false)] rfl (by (repeat' (first | exact trivial | exact rfl | exact trivial | exact fun _ => trivial | first | exact hof _ _ rfl rfl | exact g1 | refine And.intro ?_ ?_))) ?_
    refine At.loop (X := (j : Nat) ×' (j ≤ ps.length)) 5 (fun x => ps.length - x.1)
      (fun x => [(0, .t (.c (.p 1 0))), (14, .t (.c (.nm 4))), (15, .t (.c (iT (ps.length : Nat)))), (16, .t (.c (iT (x.1 : Nat))))])
      (fun x => [(1, some (true, .cells [.nm 2, iT last] 83)), (2, some (true, .own 85 6 V.length (dpc (setP V (ps.take x.1) 1)))), (3, some (false, .pin 1 b)), (4, some (true, .own 3 1 ps.length (ivs ps)))]) ⟨0, by omega⟩ [] (fun x => wf rfl rfl) (by repeat' (first | exact trivial | exact rfl | refine And.intro ?_ ?_)) (by repeat' (first | exact trivial | exact rfl | refine And.intro ?_ ?_)) rfl fun x => ?_
    obtain ⟨j, hj⟩ := x
    have w3 : IntKind.i64.wrap ((j : Int) + 1) = ((j + 1 : Nat) : Int) := by rw [wrap_sm (by omega) (by omega)]; omega
    refine rn [] rfl (by repeat' (first | exact trivial | exact rfl | refine And.intro ?_ ?_)) ?_
    refine ⟨fun h => ?_, fun h => ?_⟩
    · have hlt : j < ps.length := by have : (j : Int) < (ps.length : Int) := of_decide_eq_true h; omega
      clear h
      obtain ⟨p0, p1⟩ := hpm ps[j] (List.getElem_mem hlt)
      have e1 : (ivs ps)[(j : Int).toNat * 1]? = some (.int .i64 ps[j]) := by simpa using ivs_at hlt
      have hsu : setP V (ps.take (j + 1)) 1 = (setP V (ps.take j) 1).modify ps[j].toNat (stf 1) := by rw [List.take_succ_eq_append_getElem hlt, setP_snoc]
      obtain ⟨i, hi⟩ : ∃ i : Nat, ps[j] = (i : Int) := ⟨ps[j].toNat, by omega⟩
      rw [hi] at e1 hsu p0 p1
      have hiv : i < (setP V (ps.take j) 1).length := by rw [setP_len]; omega
      have hst := set_dpc (s := 1) hiv
      rw [Int.toNat_natCast] at hsu
      rw [← hsu] at hst
      have b0 : (0 : Int) ≤ (j : Int) := by omega
      have b1 : (j : Int) < (ps.length : Int) := by omega
      have c5 : (i : Int).toNat * 6 + 5 + 1 ≤ (dpc (setP V (ps.take j) 1)).length := by rw [dpc_length]; omega
      have c6 : (i : Int).toNat * 6 + 5 < (dpc (setP V (ps.take j) 1)).length := c5
      have c7 : (i : Int).toNat * 6 < (dpc (setP V (ps.take j) 1)).length := by omega
      refine rn [(19, .ld [iT (i : Nat)])] rfl (by (repeat' (first | exact trivial | exact rfl | exact trivial | exact fun _ => trivial | first | exact e1 | exact ⟨e1, trivial⟩ | exact b0 | exact b1 | exact p0 | exact p1 | exact c5 | exact c6 | exact c7 | decide | refine And.intro ?_ ?_))) ?_
      exact roundEnd ⟨j + 1, by omega⟩ [] (by show ps.length - (j + 1) < ps.length - j; omega) (by (repeat' (first | exact trivial | exact rfl | exact w3 | exact fun _ => w3 | refine And.intro ?_ ?_))) (by (repeat' (first | exact trivial | exact rfl | exact trivial | exact fun _ => trivial | exact hst | refine And.intro ?_ ?_))) rfl
    · have hlt : j = ps.length := by have : ¬ (j : Int) < (ps.length : Int) := of_decide_eq_false h; omega
      have hw : ps.take j = ps := by rw [hlt, List.take_length]
      refine rn [] rfl (by repeat' (first | exact trivial | exact rfl | refine And.intro ?_ ?_)) (roundExit rfl ?_)
      refine rnA [] rfl (by repeat' (first | exact trivial | exact rfl | refine And.intro ?_ ?_)) ?_
      rw [hw]
      refine Done.fold [(0, 1), (1, 2), (2, 3)] (depO (setP V ps 1) last b) (.p 0 0) (by (repeat' (first | exact trivial | exact rfl | exact trivial | exact fun _ => trivial | exact (setP_len 1 ps V).symm | refine And.intro ?_ ?_))) rfl rfl (fun _ => rfl) ?_
      exact retM tysOk [(0, 5)] rfl (by repeat' (first | exact trivial | exact rfl | refine And.intro ?_ ?_)) (by repeat' (first | exact trivial | exact rfl | refine And.intro ?_ ?_)) rfl rfl
/-- What is sent, and how it ends. -/
def sdE (L : List Ch) (k : Int) : Int := if (ofI L k 2).length = 0 then (if (rdyN L k).length = 0 then 5 else 0) else 120
def sdL (L : List Ch) (k : Int) : List Int := if (ofI L k 2).length = 0 then rdyN L k else []
def sdV (V : DV) (k : Int) : DV := if (ofI (chs V) k 2).length = 0 then setP V (rdyI (chs V) k V.length) 2 else V
theorem nosP_setP {V : DV} {ps qs : List Int} {s : Int} (h0 : ∀ p ∈ ps, 0 ≤ p) : nosP (chs (setP V ps s)) qs = nosP (chs V) qs := by
  have h := setP_no (V := V) (s := s) h0
  refine List.map_congr_left fun p _ => ?_
  have h1 := congrArg (fun l => l[p.toNat]?) h
  simp only [List.getElem?_map (f := Ch.no)] at h1
  unfold noAt
  generalize (chs (setP V ps s))[p.toNat]? = u at *
  generalize (chs V)[p.toNat]? = v at *
  cases u <;> cases v <;> simp_all
set_option maxRecDepth 100000 in
set_option maxHeartbeats 4000000 in
theorem sendA (hd : lookH H d = some (true, .ab (depP V last b))) (hq : lookH H q = some (b1, .ab (frzP W))) (hdq : d ≠ q) (sub : SubW V W) (ok : VOk V) (k : Int) :
    FnH Tryz.prog 40 [.c (.nm d), .c (iT k)] H nx ⟨.tup [.c (.nm nx), .c (iT (sdE (chs V) k))], [(true, .own 3 1 (sdL (chs V) k).length (ivs (sdL (chs V) k)))], [(d, some (.ab (depP (sdV V k) last b)))], []⟩ := by
  refine fnA1f (fn := Tryz.f40) 37 rfl rfl rfl hd hq hdq (ptr b) (dep_pins _ _ _) (dep_pins _ _ _) rfl rfl rfl (v' := .tup [.c (.nm 1), .c (iT (sdE (chs V) k))]) (news' := [(true, .own 3 1 (sdL (chs V) k).length (ivs (sdL (chs V) k)))]) rfl rfl rfl rfl fun w Wr => ?_
  refine At.unfoldTo 0 (L1 := [(0, .t (.c (.p 2 0))), (1, .t (.c (iT k)))]) (H1 := [(2, some (true, .cells [.nm 3, iT last] 83)), (3, some (true, .own 85 6 V.length (dpc V))), (4, some (false, .pin 2 b)), (0, none), (0, some (true, .ab (depP V last b))), (1, some (false, .ab (frzP W)))]) (nx1 := 5) rfl rfl rfl rfl rfl rfl ?_
  have z := ok.zz
  have hof := fun (H : HL) (nx : Nat) (h1 : lookH H 2 = some (true, .cells [.nm 3, iT last] 83)) (h2 : lookH H 3 = some (true, .own 85 6 V.length (dpc V))) => ofU (nx := nx) h1 h2 z k 2
  have hrd := fun (H : HL) (nx : Nat) (h1 : lookH H 2 = some (true, .cells [.nm 3, iT last] 83)) (h2 : lookH H 3 = some (true, .own 85 6 V.length (dpc V))) (h3 : lookH H 1 = some (false, .ab (frzP W))) => readyU (nx := nx) h1 h2 h3 sub z ok.srt ok.no ok.ah k
  have hple := rdyI_len V k
  have hpm := rdyI_mem ok.srt k
  have hnr := nosP_rdy ok.srt k
  have hls : sdE (chs V) k = if (ofI (chs V) k 2).length = 0 then (if (rdyN (chs V) k).length = 0 then 5 else 0) else 120 := rfl
  have hll : sdL (chs V) k = if (ofI (chs V) k 2).length = 0 then rdyN (chs V) k else [] := rfl
  have hlv : sdV V k = if (ofI (chs V) k 2).length = 0 then setP V (rdyI (chs V) k V.length) 2 else V := rfl
  rw [← hnr] at hls hll
  have hnl : (nosP (chs V) (rdyI (chs V) k V.length)).length = (rdyI (chs V) k V.length).length := by rw [nosP, List.length_map]
  rw [hnl] at hls
  generalize ofI (chs V) k 2 = us at *
  generalize rdyI (chs V) k V.length = ps at *
  by_cases hu : us.length = 0
  · rw [if_pos hu] at hls hll hlv
    rw [hll, hlv]
    have g0 : decide ((us.length : Int) > 0) = false := by simp [hu]
    by_cases h0 : ps.length = 0
    · rw [hls, if_pos h0]
      obtain rfl : ps = [] := List.length_eq_zero_iff.1 h0
      refine rn [(11, .spec ⟨.t (.c (.nm 5)), [(true, .own 3 1 us.length (ivs us))], [], []⟩), (13, .dec false), (16, .spec ⟨.t (.c (.nm 6)), [(true, .own 3 1 0 (ivs []))], [], []⟩), (19, .dec true)] rfl (by (repeat' (first | exact trivial | exact rfl | exact trivial | exact fun _ => trivial | first | exact hof _ _ rfl rfl | exact hrd _ _ rfl rfl rfl | exact g0 | rfl | refine And.intro ?_ ?_))) ?_
      refine Done.fold [(0, 2), (1, 3), (2, 4)] (depO (setP V [] 2) last b) (.p 0 0) (by repeat' (first | exact trivial | exact rfl | refine And.intro ?_ ?_)) rfl rfl (fun _ => rfl) ?_
      refine Done.nil 4 3 1 rfl ?_
      exact retM tysOk [(0, 7), (1, 8)] rfl (by repeat' (first | exact trivial | exact rfl | refine And.intro ?_ ?_)) (by repeat' (first | exact trivial | exact rfl | refine And.intro ?_ ?_)) rfl rfl
    · rw [hls, if_neg h0]
      have g1 : ((ps.length : Int) == 0) = false := by simp; exact fun h => h0 (by rw [h]; rfl)
      refine rn [(11, .spec ⟨.t (.c (.nm 5)), [(true, .own 3 1 us.length (ivs us))], [], []⟩), (13, .dec false), (16, .spec ⟨.t (.c (.nm 6)), [(true, .own 3 1 ps.length (ivs ps))], [], []⟩), (19, .dec false)] rfl (by (repeat' (first | exact trivial | exact rfl | exact trivial | exact fun _ => trivial | first | exact hof _ _ rfl rfl | exact hrd _ _ rfl rfl rfl | exact g0 | exact g1 | refine And.intro ?_ ?_))) ?_
      refine At.loop (X := (j : Nat) ×' (j ≤ ps.length)) 7 (fun x => ps.length - x.1)
        (fun x => [(0, .t (.c (.p 2 0))), (6, .t (.c (.nm 6))), (20, .t (.c (.nm 6))), (21, .t (.c (iT (ps.length : Nat)))), (22, .t (.c (iT (x.1 : Nat))))])
        (fun x => [(2, some (true, .cells [.nm 3, iT last] 83)), (3, some (true, .own 85 6 V.length (dpc (setP V (ps.take x.1) 2)))), (4, some (false, .pin 2 b)), (6, some (true, .own 3 1 ps.length (ivs ps)))]) ⟨0, by omega⟩ [] (fun x => wf rfl rfl) (by repeat' (first | exact trivial | exact rfl | refine And.intro ?_ ?_)) (by repeat' (first | exact trivial | exact rfl | refine And.intro ?_ ?_)) rfl fun x => ?_
      obtain ⟨j, hj⟩ := x
      have w3 : IntKind.i64.wrap ((j : Int) + 1) = ((j + 1 : Nat) : Int) := by rw [wrap_sm (by omega) (by omega)]; omega
      refine rn [] rfl (by repeat' (first | exact trivial | exact rfl | refine And.intro ?_ ?_)) ?_
      refine ⟨fun h => ?_, fun h => ?_⟩
      · have hlt : j < ps.length := by have : (j : Int) < (ps.length : Int) := of_decide_eq_true h; omega
        clear h
        obtain ⟨p0, p1⟩ := hpm ps[j] (List.getElem_mem hlt)
        have e1 : (ivs ps)[(j : Int).toNat * 1]? = some (.int .i64 ps[j]) := by simpa using ivs_at hlt
        have hsu : setP V (ps.take (j + 1)) 2 = (setP V (ps.take j) 2).modify ps[j].toNat (stf 2) := by rw [List.take_succ_eq_append_getElem hlt, setP_snoc]
        obtain ⟨i, hi⟩ : ∃ i : Nat, ps[j] = (i : Int) := ⟨ps[j].toNat, by omega⟩
        rw [hi] at e1 hsu p0 p1
        have hiv : i < (setP V (ps.take j) 2).length := by rw [setP_len]; omega
        have hst := set_dpc (s := 2) hiv
        rw [Int.toNat_natCast] at hsu
        rw [← hsu] at hst
        have b0 : (0 : Int) ≤ (j : Int) := by omega
        have b1 : (j : Int) < (ps.length : Int) := by omega
        have c5 : (i : Int).toNat * 6 + 5 + 1 ≤ (dpc (setP V (ps.take j) 2)).length := by rw [dpc_length]; omega
        have c6 : (i : Int).toNat * 6 + 5 < (dpc (setP V (ps.take j) 2)).length := c5
        have c7 : (i : Int).toNat * 6 < (dpc (setP V (ps.take j) 2)).length := by omega
        refine rn [(25, .ld [iT (i : Nat)])] rfl (by (repeat' (first | exact trivial | exact rfl | exact trivial | exact fun _ => trivial | first | exact e1 | exact ⟨e1, trivial⟩ | exact b0 | exact b1 | exact p0 | exact p1 | exact c5 | exact c6 | exact c7 | decide | refine And.intro ?_ ?_))) ?_
        exact roundEnd ⟨j + 1, by omega⟩ [] (by show ps.length - (j + 1) < ps.length - j; omega) (by (repeat' (first | exact trivial | exact rfl | exact w3 | exact fun _ => w3 | refine And.intro ?_ ?_))) (by (repeat' (first | exact trivial | exact rfl | exact trivial | exact fun _ => trivial | exact hst | refine And.intro ?_ ?_))) rfl
      · have hlt : j = ps.length := by have : ¬ (j : Int) < (ps.length : Int) := of_decide_eq_false h; omega
        have hw : ps.take j = ps := by rw [hlt, List.take_length]
        refine rn [] rfl (by repeat' (first | exact trivial | exact rfl | refine And.intro ?_ ?_)) (roundExit rfl ?_)
        rw [hw]
        have hsl := setP_len 2 ps V
        have hnu := nosP_setP (V := V) (qs := ps) (s := 2) fun p h => (hpm p h).1
        have hlz : (setP V ps 2).length ≤ 1000000 := by omega
        have hnb := fun (H : HL) (nx : Nat) (h1 : lookH H 2 = some (true, .cells [.nm 3, iT last] 83)) (h2 : lookH H 3 = some (true, .own 85 6 V.length (dpc (setP V ps 2)))) (h3 : lookH H 6 = some (true, .own 3 1 ps.length (ivs ps))) => numbersU (nx := nx) h1 (by rw [← hsl] at h2; exact h2) h3 (by omega) fun p hp => by rw [hsl]; exact hpm p hp
        rw [hnu] at hnb
        refine rnA [(36, .spec ⟨.t (.c (.nm 7)), [(true, .own 3 1 (nosP (chs V) ps).length (ivs (nosP (chs V) ps)))], [], []⟩)] rfl (by (repeat' (first | exact trivial | exact rfl | exact trivial | exact fun _ => trivial | exact hnb _ _ rfl rfl rfl | refine And.intro ?_ ?_))) ?_
        refine Done.fold [(0, 2), (1, 3), (2, 4)] (depO (setP V ps 2) last b) (.p 0 0) (by (repeat' (first | exact trivial | exact rfl | exact trivial | exact fun _ => trivial | exact hsl.symm | refine And.intro ?_ ?_))) rfl rfl (fun _ => rfl) ?_
        exact retM tysOk [(0, 8), (1, 7)] rfl (by repeat' (first | exact trivial | exact rfl | refine And.intro ?_ ?_)) (by repeat' (first | exact trivial | exact rfl | refine And.intro ?_ ?_)) rfl rfl
  · rw [if_neg hu] at hls hll hlv
    rw [hls, hll, hlv]
    have g0 : decide ((us.length : Int) > 0) = true := by simp; omega
    refine rn [(11, .spec ⟨.t (.c (.nm 5)), [(true, .own 3 1 us.length (ivs us))], [], []⟩), (13, .dec true)] rfl (by (repeat' (first | exact trivial | exact rfl | exact trivial | exact fun _ => trivial | first | exact hof _ _ rfl rfl | exact g0 | refine And.intro ?_ ?_))) ?_
    refine Done.fold [(0, 2), (1, 3), (2, 4)] (depO V last b) (.p 0 0) (by repeat' (first | exact trivial | exact rfl | refine And.intro ?_ ?_)) rfl rfl (fun _ => rfl) ?_
    refine Done.nil 4 3 1 rfl ?_
    exact retM tysOk [(0, 6), (1, 7)] rfl (by repeat' (first | exact trivial | exact rfl | refine And.intro ?_ ?_)) (by repeat' (first | exact trivial | exact rfl | refine And.intro ?_ ?_)) rfl rfl
end
end Cw
namespace Cw
open Go Vc
open Go.Proofs
set_option maxRecDepth 100000
section
variable {H : HL} {nx d q b : Nat} {b1 : Bool} {V : DV} {W : List (List Int × Option Addr × Nat)} {last : Int}
theorem done1c (k : Int) (x : Ch × Option Addr × Nat) : FnH Tryz.prog 59 [.agg (depV x), .c (.p 4 0)] [(4, some (false, .cells [iT k] 3))] 5 ⟨.t (.c (.b (flyB k x.1))), [], [], []⟩ := by
  refine fnR (fn := Tryz.f59) 13 rfl rfl rfl (args' := [.agg (depV x), .c (.p 0 0)]) (H' := [(0, some (false, .cells [iT k] 3))]) (nx' := 1) (fun e w M => ⟨_, mem_rd (fun _ => 4) (H' := [(0, some (false, .cells [iT k] 3))]) ⟨⟨false, rfl⟩, trivial⟩ M, rfl⟩) rfl rfl rfl rfl fun w => ?_
  refine rn [] rfl (by repeat' (first | exact trivial | exact rfl | refine And.intro ?_ ?_)) ?_
  exact ret0 tysOk rfl (by (repeat' (first | exact trivial | exact rfl | exact trivial | exact fun _ => trivial | rfl | refine And.intro ?_ ?_))) rfl
def dnE (L : List Ch) (k : Int) : Int := if (ofI L k 2).length = 0 then 120 else 0
def dnL (L : List Ch) (k : Int) : List Int := nosP L (ofI L k 2)
def dnV (V : DV) (k : Int) : DV := V.filter fun x => !(flyB k x.1)
theorem chs_done (V : DV) (k : Int) : chs (dnV V k) = delK k (chs V) := by
  rw [dnV, delK, chs, chs, List.filter_map]
  rfl
theorem dnV_none {V : DV} {k : Int} (h : ofI (chs V) k 2 = []) : dnV V k = V := by
  refine List.filter_eq_self.2 fun x hx => ?_
  obtain ⟨i, hi, rfl⟩ := List.mem_iff_getElem.1 hx
  have := (ofI_iff (k := k) (s := 2) i hi)
  rw [h] at this
  cases hf : flyB k V[i].1 with
  | false => rfl
  | true => exact absurd (this.2 hf) (by simp)
theorem dnV_le (V : DV) (k : Int) : (dnV V k).length ≤ V.length := List.length_filter_le _ _
theorem VOk.done {V : DV} (ok : VOk V) (k : Int) : VOk (dnV V k) := by
  have hsub : (dnV V k).Sublist V := List.filter_sublist
  refine ⟨Nat.le_trans (dnV_le V k) ok.z, ?_, fun x hx => ok.no x (hsub.mem hx), fun x hx => ok.ah x (hsub.mem hx), fun x hx => ok.by' x (hsub.mem hx), fun x hx => ok.sec x (hsub.mem hx)⟩
  have hp : V.Pairwise fun x y => x.1.no < y.1.no := List.pairwise_iff_getElem.2 fun i j hi hj hij => ok.srt i j hi hj hij
  have := hp.sublist hsub
  exact fun i j hi hj hij => List.pairwise_iff_getElem.1 this i j hi hj hij
theorem SubW.done {V : DV} {W : List (List Int × Option Addr × Nat)} (h : SubW V W) (k : Int) : SubW (dnV V k) W := fun x hx => h x (List.mem_filter.1 hx).1
set_option maxRecDepth 100000 in
set_option maxHeartbeats 2000000 in
theorem doneA (hd : lookH H d = some (true, .ab (depP V last b))) (z : V.length ≤ 1000000) (k : Int) :
    FnH Tryz.prog 31 [.c (.nm d), .c (iT k)] H nx ⟨.tup [.c (.nm nx), .c (iT (dnE (chs V) k))], [(true, .own 3 1 (dnL (chs V) k).length (ivs (dnL (chs V) k)))], [(d, some (.ab (depP (dnV V k) last b)))], []⟩ := by
  refine fnA (fn := Tryz.f31) 25 rfl rfl rfl hd (ptr b) (dep_pins _ _ _) (dep_pins _ _ _) rfl rfl rfl (v' := .tup [.c (.nm 1), .c (iT (dnE (chs V) k))]) (news' := [(true, .own 3 1 (dnL (chs V) k).length (ivs (dnL (chs V) k)))]) rfl rfl rfl rfl fun w Wr => ?_
  refine At.unfoldTo 0 (L1 := [(0, .t (.c (.p 1 0))), (1, .t (.c (iT k)))]) (H1 := [(1, some (true, .cells [.nm 2, iT last] 83)), (2, some (true, .own 85 6 V.length (dpc V))), (3, some (false, .pin 1 b)), (0, none), (0, some (true, .ab (depP V last b)))]) (nx1 := 4) rfl rfl rfl rfl rfl rfl ?_
  have hof := fun (H : HL) (nx : Nat) (h1 : lookH H 1 = some (true, .cells [.nm 2, iT last] 83)) (h2 : lookH H 2 = some (true, .own 85 6 V.length (dpc V))) => ofU (nx := nx) h1 h2 z k 2
  have hnb := fun (H : HL) (nx : Nat) (h1 : lookH H 1 = some (true, .cells [.nm 2, iT last] 83)) (h2 : lookH H 2 = some (true, .own 85 6 V.length (dpc V))) (h3 : lookH H 5 = some (true, .own 3 1 (ofI (chs V) k 2).length (ivs (ofI (chs V) k 2)))) => numbersU (nx := nx) h1 h2 h3 (Nat.le_trans (ofI_le V k 2) z) fun p hp => ofI_mem hp
  have hls : dnE (chs V) k = if (ofI (chs V) k 2).length = 0 then 120 else 0 := rfl
  have hll : dnL (chs V) k = nosP (chs V) (ofI (chs V) k 2) := rfl
  have hnl : (nosP (chs V) (ofI (chs V) k 2)).length = (ofI (chs V) k 2).length := by rw [nosP, List.length_map]
  rw [hll, hls]
  have hdn := dnV_none (V := V) (k := k)
  have hdl := fun (H : HL) (nx : Nat) (h2 : lookH H 2 = some (true, .own 85 6 V.length (dpc V))) (hs : capsOk 2 H [(4, some (false, .cells [iT k] 3))]) => deleteD_h (nx := nx) (Hc := [(4, some (false, .cells [iT k] 3))]) (nc := 5) (g := 59) (caps := [(4, 0)]) (xs := V) (pd := fun x => flyB k x.1) (fun _ => True) rfl rfl rfl (fun x _ => done1c k x) h2 hs (fun _ _ => trivial) z
  generalize ofI (chs V) k 2 = us at *
  by_cases h0 : us.length = 0
  · rw [if_pos h0]
    obtain rfl : us = [] := List.length_eq_zero_iff.1 h0
    rw [hdn rfl]
    refine rn [(10, .spec ⟨.t (.c (.nm 5)), [(true, .own 3 1 0 (ivs []))], [], []⟩), (11, .spec ⟨.t (.c (.nm 6)), [(true, .own 3 1 0 (ivs []))], [], []⟩), (14, .dec true)] rfl (by (repeat' (first | exact trivial | exact rfl | exact trivial | exact fun _ => trivial | first | exact hof _ _ rfl rfl | exact hnb _ _ rfl rfl rfl | rfl | refine And.intro ?_ ?_))) ?_
    refine Done.fold [(0, 1), (1, 2), (2, 3)] (depO V last b) (.p 0 0) (by repeat' (first | exact trivial | exact rfl | refine And.intro ?_ ?_)) rfl rfl (fun _ => rfl) ?_
    refine Done.nil 4 3 1 rfl ?_
    exact retM tysOk [(0, 7), (1, 8)] rfl (by repeat' (first | exact trivial | exact rfl | refine And.intro ?_ ?_)) (by repeat' (first | exact trivial | exact rfl | refine And.intro ?_ ?_)) rfl rfl
  · rw [if_neg h0]
    have g1 : (((nosP (chs V) us).length : Int) == 0) = false := by rw [hnl]; simp; exact fun h => h0 (by rw [h]; rfl)
    refine rn [(10, .spec ⟨.t (.c (.nm 5)), [(true, .own 3 1 us.length (ivs us))], [], []⟩), (11, .spec ⟨.t (.c (.nm 6)), [(true, .own 3 1 (nosP (chs V) us).length (ivs (nosP (chs V) us)))], [], []⟩), (14, .dec false), (21, .spec ⟨.t (.c (.nm 7)), [(true, .own 85 6 (dnV V k).length (dpc (dnV V k)))], [(2, none)], []⟩)] rfl (by (repeat' (first | exact trivial | exact rfl | exact trivial | exact fun _ => trivial | first | exact hof _ _ rfl rfl | exact hnb _ _ rfl rfl rfl | exact g1 | exact hdl _ _ rfl ⟨rfl, ⟨_, rfl⟩, trivial⟩ | refine And.intro ?_ ?_))) ?_
    refine Done.fold [(0, 1), (1, 7), (2, 3)] (depO (dnV V k) last b) (.p 0 0) (by repeat' (first | exact trivial | exact rfl | refine And.intro ?_ ?_)) rfl rfl (fun _ => rfl) ?_
    exact retM tysOk [(0, 8), (1, 6)] rfl (by repeat' (first | exact trivial | exact rfl | refine And.intro ?_ ?_)) (by repeat' (first | exact trivial | exact rfl | refine And.intro ?_ ?_)) rfl rfl
end
end Cw
namespace Vc
open Go Go.RowKit
/-- An env with one more name. -/
def Env.with1 (e0 e : Env) (k q : Nat) : Env := ⟨fun m => if m = k then e.blk q else e0.blk m, fun m => if m = k then e.val q else e0.val m, fun m => if m = k then e.fp q else e0.fp m, fun m => by
  show (if m = k then e.val q else e0.val m).oneCell' = true
  split
  · exact e.one q
  · exact e0.one m⟩
theorem Env.with1_same (e0 e : Env) {k q m : Nat} (h : m ≠ k) : e0.same (e0.with1 e k q) m := ⟨if_neg h, if_neg h, if_neg h⟩
theorem Env.with1_at (e0 e : Env) (k q : Nat) : (e0.with1 e k q).blk k = e.blk q ∧ (e0.with1 e k q).val k = e.val q ∧ (e0.with1 e k q).fp k = e.fp q := ⟨if_pos rfl, if_pos rfl, if_pos rfl⟩
theorem fnh_shutQ {P : Program} {f : FuncId} {bs : List TV} {H : HL} {nx d q : Nat} {O : List (Bool × Ob)} {x : CV} {ψ : AbP} {bq : Bool} {v' : SV} {news' : List (Bool × Ob)} (hd : lookH H d = some (true, .ab (absP O x))) (hq : lookH H q = some (bq, .ab ψ)) (hdq : d ≠ q) (hx : inR 0 O.length x.ns = true) (hO : newsR 0 O.length O = true) (hbs : bares bs = true)
    (hvr : inR 0 news'.length v'.ns = true) (hnr : newsR 0 news'.length news' = true)
    (h : FnH P f (.c x :: bs) ((O.length, some (false, .ab ψ)) :: newsH 0 O) (O.length + 1) ⟨v'.re (O.length + 1 + ·), reN (O.length + 1 + ·) news', [], []⟩) : FnH P f (.c (.nm d) :: bs) H nx ⟨v'.re (nx + ·), reN (nx + ·) news', [(d, some (.ab (absP O x)))], []⟩ := by
  refine ⟨fun hwf _ e w M => ?_⟩
  obtain ⟨⟨hp, hst⟩, hlt⟩ := M.ob d true _ hd
  obtain ⟨hpq, hltq⟩ := M.ob q bq _ hq
  have hp0 := hp
  obtain ⟨e0, h1, h2, h3, h4, h5⟩ := hp
  obtain ⟨e0', he0⟩ : ∃ e0', e0' = e0.with1 e O.length q := ⟨_, rfl⟩
  have hlk : ∀ {n : Nat} {z : Bool × Ob}, lookH ((O.length, some (false, .ab ψ)) :: newsH 0 O) n = some z → n = O.length ∧ z = (false, .ab ψ) ∨ n < O.length ∧ O[n]? = some z := by
    intro n z hn
    rw [lookH_cons] at hn
    split at hn
    · cases hn; exact .inl ⟨by assumption, rfl⟩
    · rw [lookH_newsH, if_pos (Nat.zero_le _), Nat.sub_zero] at hn
      rcases Nat.lt_or_ge n O.length with hl | hl
      · exact .inr ⟨hl, hn⟩
      · rw [List.getElem?_eq_none hl] at hn; cases hn
  have hsm : ∀ {n : Nat}, n < O.length → e0.same e0' n := fun hn => he0 ▸ Env.with1_same e0 e (by omega)
  have hat : e0'.blk O.length = e.blk q ∧ e0'.val O.length = e.val q ∧ e0'.fp O.length = e.fp q := he0 ▸ Env.with1_at e0 e O.length q
  have hM : MemOk ((O.length, some (false, .ab ψ)) :: newsH 0 O) e0' w := by
    refine ⟨fun n b o hn => ?_, fun n o m c q' hn hm hne g hg hg' => ?_⟩
    · rcases hlk hn with ⟨rfl, hz⟩ | ⟨hn', hz⟩
      · cases hz
        refine ⟨?_, fun g hg => ?_⟩
        · show ψ (e0'.val O.length) (e0'.fp O.length) w ∧ _
          rw [hat.2.1, hat.2.2]
          exact hpq
        · rw [hat.2.2] at hg
          exact hltq g hg
      · refine ⟨Ob.same (hsm hn') (h2 n b o hz).1 fun m hm => (hsm (newsR_ok hO n b o hz m hm).2).v, fun g hg => ?_⟩
        rw [(hsm hn').2.2] at hg
        exact h5 g ((h4 g).2 ⟨n, hn', hg⟩)
    · rcases hlk hn with ⟨rfl, hz⟩ | ⟨hn', hz⟩
      · cases hz
      · rcases hlk hm with ⟨rfl, hz2⟩ | ⟨hm', hz2⟩
        · rw [hat.2.2] at hg'
          rw [(hsm hn').2.2] at hg
          exact M.dj d _ q _ _ hd hq hdq g ((h4 g).2 ⟨n, hn', hg⟩) hg'
        · rw [(hsm hn').2.2] at hg
          rw [(hsm hm').2.2] at hg'
          exact h3 n m hn' hm' hne g hg hg'
  have := h.h (fun n z hn => by
      rcases hlk hn with ⟨rfl, hz⟩ | ⟨hn', hz⟩
      · subst hz
        exact ⟨by omega, fun m hm => by simp [Ob.ns] at hm⟩
      · obtain ⟨b, o⟩ := z
        exact ⟨by omega, fun m hm => by have := (newsR_ok hO n b o hz m hm).2; omega⟩) (fun a ha n hn => by
      rcases List.mem_cons.1 ha with rfl | ha
      · have := (inR_ok hx n hn).2; omega
      · exact (bares_no hbs a ha n hn).elim) e0' w hM
  have hargs : (TV.c (.nm d) :: bs).map (TV.den e) = (TV.c x :: bs).map (TV.den e0') := by
    rw [List.map_cons, List.map_cons, bares_den hbs e, bares_den hbs e0']
    congr 1
    show e.val d = x.den e0'
    rw [h1]
    exact (TV.den_same (v := .c x) fun n hn => hsm (inR_ok hx n hn).2).symm
  rw [hargs]
  refine Calls.mono this ?_
  rintro en w' ⟨e1, rfl, K⟩
  have hkeep : ∀ g, g < w.heap.size → w'.heap[g]? = w.heap[g]? := fun g hg => K.block g hg fun n o ho => (by cases ho)
  have hnw : ∀ {j : Nat} {b : Bool} {o : Ob}, news'[j]? = some (b, o) → (o.re (O.length + 1 + ·)).holds e1 (O.length + 1 + j) w' ∧ ∀ g, e1.fp (O.length + 1 + j) g → g < w'.heap.size ∧ w.heap.size ≤ g := by
    intro j b o hj
    have hj' : (reN (O.length + 1 + ·) news')[j]? = some (b, o.re (O.length + 1 + ·)) := by rw [reN_get, hj]; rfl
    cases K with
    | old K =>
      obtain ⟨a1, a2⟩ := K.news j b _ hj'
      refine ⟨a1, fun g hg => ⟨(a2 g hg).1, ?_⟩⟩
      rcases (a2 g hg).2 with a3 | ⟨n, hn, _⟩
      · exact a3
      · cases hn
    | anew K =>
      obtain ⟨a1, a2⟩ := K.news j b _ hj'
      refine ⟨a1, fun g hg => ⟨(a2 g hg).1, ?_⟩⟩
      rcases (a2 g hg).2 with a3 | ⟨n, o', hn, _⟩
      · exact a3
      · cases hn
  have hndj : ∀ j k, j < news'.length → k < news'.length → j ≠ k → ∀ g, e1.fp (O.length + 1 + j) g → ¬ e1.fp (O.length + 1 + k) g := by
    cases K with
    | old K => exact fun j k hj hk => K.ndj j k (by simpa [reN_length] using hj) (by simpa [reN_length] using hk)
    | anew K => exact fun j k hj hk => K.ndj j k (by simpa [reN_length] using hj) (by simpa [reN_length] using hk)
  let e2 : Env := e1.comp (O.length + 1 + ·)
  have hdn : d < nx := (hwf d _ hd).1
  refine ⟨e.open e2 nx news'.length, ?_, .old ⟨?_, K.os, K.tape, K.out, K.size, fun g hg _ => hkeep g hg, ?_, ?_, ?_⟩⟩
  · show Ending.returned ((v'.re (O.length + 1 + ·)).den e1) = _
    have a1 : (v'.re (O.length + 1 + ·)).den e1 = v'.den e2 := SV.re_den (e := e2) (e' := e1) fun n _ => ⟨rfl, rfl⟩
    rw [a1, SV.re_den (e := e2) fun n hn => (Env.open_new e e2 (inR_ok hvr n hn).2).1]
  · intro n hn
    simp only [reN_length] at hn
    refine ⟨?_, ?_, ?_⟩ <;> (show (if _ then _ else _) = _; rw [if_neg (by omega)])
  · intro k b o hk
    rw [reN_get] at hk
    cases hk' : news'[k]? with
    | none => rw [hk'] at hk; cases hk
    | some z =>
      rw [hk'] at hk
      cases hk
      obtain ⟨b, o⟩ := z
      have hltk : k < news'.length := by
        rcases Nat.lt_or_ge k news'.length with hl | hl
        · exact hl
        · rw [List.getElem?_eq_none hl] at hk'; cases hk'
      obtain ⟨q1, q2⟩ := hnw hk'
      obtain ⟨p1, p2⟩ := Env.open_new e e2 (nx := nx) hltk
      have q1' : o.holds e2 k w' := Ob.re_back (r := (O.length + 1 + ·)) (n := k) q1
      refine ⟨Ob.re_holds p1 p2 (fun m hm => (Env.open_new e e2 (newsR_ok hnr k b o hk' m hm).2).1) q1', fun g hg => ?_⟩
      rw [p2] at hg
      exact ⟨(q2 g hg).1, .inl (q2 g hg).2⟩
  · intro j k hj hk hne g hg hg'
    simp only [reN_length] at hj hk
    rw [(Env.open_new e e2 hj).2] at hg
    rw [(Env.open_new e e2 hk).2] at hg'
    exact hndj j k hj hk hne g hg hg'
  · intro n o ho
    simp only [List.mem_singleton, Prod.mk.injEq, Option.some.injEq] at ho
    obtain ⟨rfl, rfl⟩ := ho
    have hs : e.same (e.open e2 nx news'.length) n := Env.open_old e e2 hdn
    exact Ob.same hs (o := .ab (absP O x)) ⟨hst _ _ _ _ hp0 fun g hg => hkeep g (hlt g hg), hst⟩ fun m hm => by simp [Ob.ns] at hm
end Vc
namespace Cw
open Go Vc
open Go.Proofs
set_option maxRecDepth 100000
theorem mem_take_succ {l : List Int} {x : Int} {k : Nat} (hk : k < l.length) (h1 : x ∉ l.take k) (h2 : l[k] ≠ x) : x ∉ l.take (k + 1) := by
  rw [List.take_succ_eq_append_getElem hk]
  simp only [List.mem_append, List.mem_singleton, not_or]
  exact ⟨h1, fun e => h2 e.symm⟩
def ix (x : Int) : List Int → Nat
  | [] => 0
  | y :: l => if y = x then 0 else ix x l + 1
theorem ix_at {x : Int} : ∀ {l : List Int} {k : Nat}, x ∉ l.take k → l[k]? = some x → ix x l = k
  | [], k, _, h => by simp at h
  | y :: l, 0, _, h => by
    have : y = x := by simpa using h
    simp [ix, this]
  | y :: l, k + 1, h1, h2 => by
    have h3 : x ≠ y ∧ x ∉ l.take k := by simpa [List.take_succ_cons] using h1
    have h4 : y ≠ x := fun e => h3.1 e.symm
    rw [ix, if_neg h4, ix_at h3.2 (by simpa using h2)]
def ixI (x : Int) (l : List Int) : Int := if x ∈ l then (ix x l : Nat) else -1
theorem index_h {v : TV} {l : List Int} {x : Int} {H : HL} {nx : Nat} (hs : SlR H v l.length 1 (ivs l)) (z : l.length ≤ 100000000000000) :
    FnH Tryz.prog 60 [v, .c (iT x)] H nx ⟨.t (.c (iT (ixI x l))), [], [], []⟩ := by
  refine fnR (fn := Tryz.f60) 19 rfl rfl rfl (args' := [.c (.nm 0), .c (iT x)]) (H' := [(0, some (false, .rd 1 l.length (ivs l)))]) (nx' := 1) (fun e w M => ?_) rfl rfl rfl rfl fun w => ?_
  · obtain ⟨e', M', q1⟩ := slr1 hs e w M
    exact ⟨e', M', by simp [q1]; rfl⟩
  refine rn [] rfl (by repeat' (first | exact trivial | exact rfl | refine And.intro ?_ ?_)) ?_
  refine At.loop (X := (k : Nat) ×' (k ≤ l.length ∧ x ∉ l.take k)) 1 (fun k => l.length - k.1)
    (fun k => [(0, .t (.c (.nm 0))), (1, .t (.c (iT x))), (7, .t (.c (iT (l.length : Nat)))), (8, .t (.c (iT (k.1 : Nat))))])
    (fun _ => [(0, some (false, .rd 1 l.length (ivs l)))]) ⟨0, by omega, by simp⟩ [] (fun k => wf rfl rfl) (by repeat' (first | exact trivial | exact rfl | refine And.intro ?_ ?_)) (by repeat' (first | exact trivial | exact rfl | refine And.intro ?_ ?_)) rfl fun k => ?_
  obtain ⟨k, hk1, hk2⟩ := k
  have w2 : IntKind.i64.wrap ((k : Int) + 1) = ((k + 1 : Nat) : Int) := by rw [wrap_sm (by omega) (by omega)]; omega
  refine rn [] rfl (by repeat' (first | exact trivial | exact rfl | refine And.intro ?_ ?_)) ?_
  refine ⟨fun h => ?_, fun h => ?_⟩
  · have hlt : k < l.length := by have : (k : Int) < (l.length : Int) := of_decide_eq_true h; omega
    have e1 : (ivs l)[(k : Int).toNat * 1]? = some (.int .i64 l[k]) := by simpa using ivs_at hlt
    have b0 : (0 : Int) ≤ (k : Int) := by omega
    have b1 : (k : Int) < (l.length : Int) := by omega
    refine rn [(15, .ld [iT l[k]])] rfl (by (repeat' (first | exact trivial | exact rfl | exact e1 | exact fun _ => e1 | first | exact b0 | exact b1 | decide | refine And.intro ?_ ?_))) ?_
    refine ⟨fun h => ?_, fun h => ?_⟩
    · have he : x = l[k] := by simpa using h
      have hin : x ∈ l := he ▸ List.getElem_mem hlt
      have hi : ixI x l = (k : Int) := by rw [ixI, if_pos hin, ix_at hk2 (by rw [List.getElem?_eq_getElem hlt, he])]
      refine rn [] rfl (by repeat' (first | exact trivial | exact rfl | refine And.intro ?_ ?_)) (roundRet ?_)
      rw [hi]
      exact ret0 tysOk rfl (by repeat' (first | exact trivial | exact rfl | refine And.intro ?_ ?_)) rfl
    · have hne : l[k] ≠ x := by
        have : ¬ x = l[k] := by simpa using h
        exact fun e => this e.symm
      refine rn [] rfl (by repeat' (first | exact trivial | exact rfl | refine And.intro ?_ ?_)) ?_
      exact roundEnd ⟨k + 1, by omega, mem_take_succ hlt hk2 hne⟩ [] (by show l.length - (k + 1) < l.length - k; omega) (by (repeat' (first | exact trivial | exact rfl | exact w2 | exact fun _ => w2 | refine And.intro ?_ ?_))) (by repeat' (first | exact trivial | exact rfl | refine And.intro ?_ ?_)) rfl
  · have hlt : k = l.length := by have : ¬ (k : Int) < (l.length : Int) := of_decide_eq_false h; omega
    rw [hlt, List.take_length] at hk2
    refine rn [] rfl (by repeat' (first | exact trivial | exact rfl | refine And.intro ?_ ?_)) (roundExit rfl ?_)
    refine rnA [] rfl (by repeat' (first | exact trivial | exact rfl | refine And.intro ?_ ?_)) ?_
    rw [ixI, if_neg hk2]
    exact ret0 tysOk rfl (by repeat' (first | exact trivial | exact rfl | refine And.intro ?_ ?_)) rfl
theorem contains_h {v : TV} {l : List Int} {x : Int} {H : HL} {nx : Nat} (hs : SlR H v l.length 1 (ivs l)) (z : l.length ≤ 100000000000000) :
    FnH Tryz.prog 33 [v, .c (iT x)] H nx ⟨.t (.c (.b (decide (x ∈ l)))), [], [], []⟩ := by
  refine fnR (fn := Tryz.f33) 9 rfl rfl rfl (args' := [.c (.nm 0), .c (iT x)]) (H' := [(0, some (false, .rd 1 l.length (ivs l)))]) (nx' := 1) (fun e w M => ?_) rfl rfl rfl rfl fun w => ?_
  · obtain ⟨e', M', q1⟩ := slr1 hs e w M
    exact ⟨e', M', by simp [q1]; rfl⟩
  have hd : decide (x ∈ l) = decide (ixI x l ≥ 0) := by
    by_cases h : x ∈ l
    · rw [ixI, if_pos h, decide_eq_true h]; exact (decide_eq_true (by omega)).symm
    · rw [ixI, if_neg h, decide_eq_false h]; exact (decide_eq_false (by omega)).symm
  rw [hd]
  refine rn [(7, .spec ⟨.t (.c (iT (ixI x l))), [], [], []⟩)] rfl (by (repeat' (first | exact trivial | exact rfl | exact index_h (SlR.rd rfl) z | exact fun _ => index_h (SlR.rd rfl) z | refine And.intro ?_ ?_))) ?_
  exact ret0 tysOk rfl (by repeat' (first | exact trivial | exact rfl | refine And.intro ?_ ?_)) rfl
end Cw
namespace Cw
open Go Vc
open Go.Proofs
set_option maxRecDepth 100000
def keysRS : Go.Shelf.Ren := ⟨fun | 6 => 34 | 7 => 52 | 8 => 61 | 9 => 50 | 10 => 77 | 11 => 82 | n => n, fun | 3 => 4 | 4 => 4 | 23 => 102 | 24 => 33 | 26 => 3 | 27 => 88 | 28 => 89 | 33 => 72 | n => n, fun n => n⟩
theorem keysL6S : Go.Proofs.SlLaysZI.n6 Tryz.prog keysRS := {
mixed := by kernel_rfl
f6 := ⟨Tryz.f34.name, by decide, Tryz.func34.trans (congrArg some (by kernel_rfl))⟩
f8 := ⟨Tryz.f61.name, by decide, Tryz.func61.trans (congrArg some (by kernel_rfl))⟩
f11 := ⟨Tryz.f82.name, by decide, Tryz.func82.trans (congrArg some (by kernel_rfl))⟩
t0 := Tryz.underlying0
a0 := Tryz.isAgg0
z0 := Tryz.sizeOf0
v0 := Tryz.zeroValue0
t24 := Tryz.underlying33
a24 := Tryz.isAgg33
z24 := Tryz.sizeOf33
v24 := Tryz.zeroValue33
t26 := Tryz.underlying3
a26 := Tryz.isAgg3
z26 := Tryz.sizeOf3
v26 := Tryz.zeroValue3
t28 := Tryz.underlying89
a28 := Tryz.isAgg89
z28 := Tryz.sizeOf89
v28 := Tryz.zeroValue89
i26 := by kernel_rfl }
theorem keysL7S : Go.Proofs.SlLaysZI.n7 Tryz.prog keysRS := {
mixed := by kernel_rfl
f7 := ⟨Tryz.f52.name, by decide, Tryz.func52.trans (congrArg some (by kernel_rfl))⟩
f10 := ⟨Tryz.f77.name, by decide, Tryz.func77.trans (congrArg some (by kernel_rfl))⟩
t0 := Tryz.underlying0
a0 := Tryz.isAgg0
z0 := Tryz.sizeOf0
v0 := Tryz.zeroValue0
t4 := Tryz.underlying4
a4 := Tryz.isAgg4
z4 := Tryz.sizeOf4
v4 := Tryz.zeroValue4
t23 := Tryz.underlying102
a23 := Tryz.isAgg102
z23 := Tryz.sizeOf102
v23 := Tryz.zeroValue102
t26 := Tryz.underlying3
a26 := Tryz.isAgg3
z26 := Tryz.sizeOf3
v26 := Tryz.zeroValue3
t27 := Tryz.underlying88
a27 := Tryz.isAgg88
z27 := Tryz.sizeOf88
v27 := Tryz.zeroValue88
t28 := Tryz.underlying89
a28 := Tryz.isAgg89
z28 := Tryz.sizeOf89
v28 := Tryz.zeroValue89
t33 := Tryz.underlying72
a33 := Tryz.isAgg72
z33 := Tryz.sizeOf72
v33 := Tryz.zeroValue72 }
theorem sortsS (m : Nat) : Go.Proofs.AnyZI.SortsIn Tryz.prog keysRS Fence.wide m :=
  ⟨fun blk off cap ss W hH hblk hsz => callsIn_wide.2 (Tryz.slices_Sort_int blk off cap ss W hH hblk hsz), fun p cap W => callsIn_wide.2 (Tryz.slices_Sort_int_none p cap W)⟩
theorem keysS {H : HL} {nx k : Nat} : FnH Tryz.prog 52 [.c (.mp k)] H nx ⟨.t (.c (.fn (.func 77) [(nx, 0)])), [(true, .cells [.mp k] 102)], [], []⟩ := keys_of rfl rfl rfl keysL7S
theorem sortedS {H : HL} {nx q k : Nat} {b1 b2 : Bool} {T : TypeId} {m : List (Int × Value)} (hq : lookH H q = some (b1, .cells [.mp k] T)) (hm : lookH H k = some (b2, .mp m)) (hz : m.length ≤ 1000000) :
    FnH Tryz.prog 34 [.c (.fn (.func 77) [(q, 0)])] H nx ⟨.t (.c (.nm nx)), [(true, .own 3 1 m.length (ivs (srtI (m.map Prod.fst))))], [], []⟩ :=
  sorted_of rfl rfl rfl keysL6S keysL7S sortsS (enters_of Tryz.func50 (by kernel_rfl) rfl) (enters_of Tryz.func77 (by kernel_rfl) rfl) hq hm hz
/-- How many changes are of these sectors. -/
def leftT (L : List Ch) (at' : List Int) : Nat → Nat
  | 0 => 0
  | j + 1 => match L[j]? with
    | none => leftT L at' j
    | some c => if decide (c.at' ∈ at') = true then leftT L at' j + 1 else leftT L at' j
theorem leftT_le (L : List Ch) (at' : List Int) : ∀ j, leftT L at' j ≤ j
  | 0 => Nat.le_refl _
  | j + 1 => by
    have := leftT_le L at' j
    unfold leftT
    split
    · omega
    · split <;> omega
def leftA (L : List Ch) (at' : List Int) : Nat := if at'.length = 0 then L.length else leftT L at' L.length
section
variable {H : HL} {nx d q b : Nat} {b1 : Bool} {V : DV} {W : List (List Int × Option Addr × Nat)} {last : Int}
set_option maxRecDepth 100000 in
set_option maxHeartbeats 2000000 in
theorem leftH {at' : List Int} {u : TV} (hd : lookH H d = some (true, .ab (depP V last b))) (hu : SlQ H u at'.length 1 (ivs at') d) (za : at'.length ≤ 100000000000000) (z : V.length ≤ 1000000) :
    FnH Tryz.prog 17 [.c (.nm d), u] H nx ⟨.t (.c (iT (leftA (chs V) at' : Nat))), [], [(d, some (.ab (depP V last b)))], []⟩ := by
  refine fnA1q (fn := Tryz.f17) 33 rfl rfl rfl hd hu (ptr b) (dep_pins _ _ _) (dep_pins _ _ _) rfl rfl rfl (v' := .t (.c (iT (leftA (chs V) at' : Nat)))) (news' := []) rfl rfl rfl rfl fun w Wr => ?_
  refine At.unfoldTo 0 (L1 := [(0, .t (.c (.p 2 0))), (1, .t (.c (.nm 1)))]) (H1 := [(2, some (true, .cells [.nm 3, iT last] 83)), (3, some (true, .own 85 6 V.length (dpc V))), (4, some (false, .pin 2 b)), (0, none), (0, some (true, .ab (depP V last b))), (1, some (false, .rd 1 at'.length (ivs at')))]) (nx1 := 5) rfl rfl rfl rfl rfl rfl ?_
  by_cases h0 : at'.length = 0
  · have e1 : leftA (chs V) at' = V.length := by rw [leftA, if_pos h0]; simp
    rw [e1]
    have g1 : ((at'.length : Int) == 0) = true := by simp [h0]
    refine rn [(10, .dec true)] rfl (by (repeat' (first | exact trivial | exact rfl | exact trivial | exact fun _ => trivial | exact g1 | refine And.intro ?_ ?_))) ?_
    refine Done.fold [(0, 2), (1, 3), (2, 4)] (depO V last b) (.p 0 0) (by repeat' (first | exact trivial | exact rfl | refine And.intro ?_ ?_)) rfl rfl (fun _ => rfl) ?_
    exact retM tysOk [(0, 5)] rfl (by repeat' (first | exact trivial | exact rfl | refine And.intro ?_ ?_)) (by repeat' (first | exact trivial | exact rfl | refine And.intro ?_ ?_)) rfl rfl
  · have e1 : leftA (chs V) at' = leftT (chs V) at' V.length := by rw [leftA, if_neg h0]; simp
    rw [e1]
    have g1 : ((at'.length : Int) == 0) = false := by simp; exact fun h => h0 (by rw [h]; rfl)
    refine rn [(10, .dec false)] rfl (by (repeat' (first | exact trivial | exact rfl | exact trivial | exact fun _ => trivial | exact g1 | refine And.intro ?_ ?_))) ?_
    refine At.loop (X := (j : Nat) ×' (j ≤ V.length)) 5 (fun x => V.length - x.1)
      (fun x => [(1, .t (.c (.nm 1))), (5, .t (.c (iT (leftT (chs V) at' x.1 : Nat)))), (19, .t (.c (.nm 3))), (20, .t (.c (iT (V.length : Nat)))), (21, .t (.c (iT (x.1 : Nat))))])
      (fun x => [(1, some (false, .rd 1 at'.length (ivs at'))), (2, some (true, .cells [.nm 3, iT last] 83)), (3, some (true, .own 85 6 V.length (dpc V))), (4, some (false, .pin 2 b))]) ⟨0, by omega⟩ [] (fun x => wf rfl rfl) (by repeat' (first | exact trivial | exact rfl | refine And.intro ?_ ?_)) (by repeat' (first | exact trivial | exact rfl | refine And.intro ?_ ?_)) rfl fun x => ?_
    obtain ⟨j, hj⟩ := x
    have w3 : IntKind.i64.wrap ((j : Int) + 1) = ((j + 1 : Nat) : Int) := by rw [wrap_sm (by omega) (by omega)]; omega
    refine rn [] rfl (by repeat' (first | exact trivial | exact rfl | refine And.intro ?_ ?_)) ?_
    refine ⟨fun h => ?_, fun h => ?_⟩
    · have hlt : j < V.length := by have : (j : Int) < (V.length : Int) := of_decide_eq_true h; omega
      clear h
      have r1 : Vc.rowAt (dpc V) ((j : Int).toNat * 6) (depV V[j]) := dpc_rd hlt
      have b0 : (0 : Int) ≤ (j : Int) := by omega
      have b1 : (j : Int) < (V.length : Int) := by omega
      have c5 : (j : Int).toNat * 6 < (dpc V).length := by rw [dpc_length]; omega
      have hle := leftT_le (chs V) at' j
      have hsu : leftT (chs V) at' (j + 1) = if decide (V[j].1.at' ∈ at') = true then leftT (chs V) at' j + 1 else leftT (chs V) at' j := by
        have : (chs V)[j]? = some V[j].1 := by simp [hlt]
        rw [leftT, this]
      have w4 : IntKind.i64.wrap ((leftT (chs V) at' j : Nat) + 1) = ((leftT (chs V) at' j + 1 : Nat) : Int) := by rw [wrap_sm (by omega) (by omega)]; omega
      have hct := fun (H : HL) (nx : Nat) (h1 : lookH H 1 = some (false, .rd 1 at'.length (ivs at'))) => contains_h (nx := nx) (x := V[j].1.at') (SlR.rd h1) za
      cases hc : decide (V[j].1.at' ∈ at') with
      | true =>
        rw [hc] at hct
        rw [hc, if_pos rfl] at hsu
        refine rn [(24, .ld [iT V[j].1.no, iT V[j].1.at', iT V[j].1.off, .s V[j].1.by', .raw (.slice V[j].2.1 V[j].1.ah.length V[j].2.2), iT V[j].1.st]), (28, .spec ⟨.t (.c (.b true)), [], [], []⟩)] rfl (by (repeat' (first | exact trivial | exact rfl | exact trivial | exact fun _ => trivial | first | exact r1 | exact b0 | exact b1 | exact c5 | exact hct _ _ rfl | decide | refine And.intro ?_ ?_))) ?_
        refine ⟨fun _ => ?_, fun h => (by cases h)⟩
        refine rn [] rfl (by repeat' (first | exact trivial | exact rfl | refine And.intro ?_ ?_)) ?_
        exact roundEnd ⟨j + 1, by omega⟩ [] (by show V.length - (j + 1) < V.length - j; omega) (by (repeat' (first | exact trivial | exact rfl | exact w3 | exact fun _ => w3 | first | exact w3 | (rw [hsu]; exact w4) | refine And.intro ?_ ?_))) (by repeat' (first | exact trivial | exact rfl | refine And.intro ?_ ?_)) rfl
      | false =>
        rw [hc] at hct
        rw [hc, if_neg (by decide)] at hsu
        refine rn [(24, .ld [iT V[j].1.no, iT V[j].1.at', iT V[j].1.off, .s V[j].1.by', .raw (.slice V[j].2.1 V[j].1.ah.length V[j].2.2), iT V[j].1.st]), (28, .spec ⟨.t (.c (.b false)), [], [], []⟩)] rfl (by (repeat' (first | exact trivial | exact rfl | exact trivial | exact fun _ => trivial | first | exact r1 | exact b0 | exact b1 | exact c5 | exact hct _ _ rfl | decide | refine And.intro ?_ ?_))) ?_
        refine ⟨fun h => (by cases h), fun _ => ?_⟩
        refine rn [] rfl (by repeat' (first | exact trivial | exact rfl | refine And.intro ?_ ?_)) ?_
        exact roundEnd ⟨j + 1, by omega⟩ [] (by show V.length - (j + 1) < V.length - j; omega) (by (repeat' (first | exact trivial | exact rfl | exact w3 | exact fun _ => w3 | first | exact w3 | (rw [hsu]; done) | refine And.intro ?_ ?_))) (by repeat' (first | exact trivial | exact rfl | refine And.intro ?_ ?_)) rfl
    · have hlt : j = V.length := by have : ¬ (j : Int) < (V.length : Int) := of_decide_eq_false h; omega
      subst hlt
      refine rn [] rfl (by repeat' (first | exact trivial | exact rfl | refine And.intro ?_ ?_)) (roundExit rfl ?_)
      refine rnA [] rfl (by repeat' (first | exact trivial | exact rfl | refine And.intro ?_ ?_)) ?_
      refine Done.fold [(0, 2), (1, 3), (2, 4)] (depO V last b) (.p 0 0) (by repeat' (first | exact trivial | exact rfl | refine And.intro ?_ ?_)) rfl rfl (fun _ => rfl) ?_
      exact retM tysOk [(0, 5)] rfl (by repeat' (first | exact trivial | exact rfl | refine And.intro ?_ ?_)) (by repeat' (first | exact trivial | exact rfl | refine And.intro ?_ ?_)) rfl rfl
/-- The sectors of changes, each one once. -/
def atK (L : List Ch) : List Int := L.foldl (fun acc c => if acc.contains c.at' then acc else acc ++ [c.at']) []
theorem atK_snoc (L : List Ch) (c : Ch) : atK (L ++ [c]) = if (atK L).contains c.at' then atK L else atK L ++ [c.at'] := by rw [atK, List.foldl_append]; rfl
theorem atK_le (L : List Ch) : (atK L).length ≤ L.length := by
  rw [show L = L.reverse.reverse from (List.reverse_reverse L).symm]
  generalize L.reverse = M
  induction M with
  | nil => simp [atK]
  | cons c M ih =>
    rw [List.reverse_cons, atK_snoc]
    split
    · simp at ih ⊢; omega
    · simp at ih ⊢; omega
theorem atK_mem (k : Int) (L : List Ch) : k ∈ atK L ↔ ∃ c ∈ L, c.at' = k := by
  rw [show L = L.reverse.reverse from (List.reverse_reverse L).symm]
  generalize L.reverse = M
  induction M with
  | nil => simp [atK]
  | cons c M ih =>
    rw [List.reverse_cons, atK_snoc]
    have h2 : (∃ x ∈ M.reverse ++ [c], x.at' = k) ↔ (∃ x ∈ M.reverse, x.at' = k) ∨ c.at' = k := by simp [or_and_right, exists_or]
    rw [h2, ← ih]
    split
    · rename_i h
      have h3 := List.contains_iff_mem.1 h
      exact ⟨.inl, fun h => h.elim id fun e => e ▸ h3⟩
    · simp [eq_comm]
theorem bm_put (k : Int) : ∀ acc : List Int, mput k (Value.bool true) (gm Value.bool (bm acc)) = gm Value.bool (bm (if acc.contains k then acc else acc ++ [k]))
  | [] => rfl
  | a :: acc => by
    show (if a = k then (k, Value.bool true) :: gm Value.bool (bm acc) else (a, Value.bool true) :: mput k (Value.bool true) (gm Value.bool (bm acc))) = _
    by_cases h : a = k
    · subst h; simp [gm, bm]
    · rw [if_neg h, bm_put k acc]
      have : (a :: acc).contains k = acc.contains k := by
        rw [Bool.eq_iff_iff, List.contains_iff_mem, List.contains_iff_mem, List.mem_cons]
        exact ⟨fun h' => h'.resolve_left fun e => h e.symm, .inr⟩
      rw [this]
      split <;> simp [gm, bm]
/-- May a sector not be sent? -/
def secB (L : List Ch) (k : Int) : Bool := decide ((ofI L k 2).length > 0) || ((rdyN L k).length == 0)
def secs (L : List Ch) : List Int := (srtI (atK L)).filter fun k => !secB L k
def hSc (V : DV) (W : List (List Int × Option Addr × Nat)) (last : Int) : HL := [(0, some (false, .cells [.nm 1, iT last] 83)), (1, some (false, .own 85 6 V.length (dpc V))), (2, some (false, .ab (frzP W))), (3, some (false, .cells [.p 0 0] 55))]
set_option maxRecDepth 100000 in
set_option maxHeartbeats 2000000 in
theorem sectors1 (sub : SubW V W) (ok : VOk V) (k : Int) :
    FnH Tryz.prog 54 [.c (iT k), .c (.p 3 0)] (hSc V W last) 4 ⟨.t (.c (.b (secB (chs V) k))), [], [], []⟩ := by
  refine fnR (fn := Tryz.f54) 16 rfl rfl rfl (args' := [.c (iT k), .c (.p 3 0)]) (H' := hSc V W last) (nx' := 4) (fun e w M => ⟨_, mem_rd (fun n => n) (H' := hSc V W last) ⟨⟨false, rfl⟩, ⟨false, rfl⟩, ⟨false, rfl⟩, ⟨false, rfl⟩, trivial⟩ M, rfl⟩) rfl rfl rfl rfl fun w => ?_
  show At _ _ _ _ _ _ [(0, some (false, .cells [.nm 1, iT last] 83)), (1, some (false, .own 85 6 V.length (dpc V))), (2, some (false, .ab (frzP W))), (3, some (false, .cells [.p 0 0] 55))] 4
  have hof := fun (H : HL) (nx : Nat) (h1 : lookH H 0 = some (false, .cells [.nm 1, iT last] 83)) (h2 : lookH H 1 = some (false, .own 85 6 V.length (dpc V))) => ofU (nx := nx) h1 h2 ok.zz k 2
  have hrd := fun (H : HL) (nx : Nat) (h1 : lookH H 0 = some (false, .cells [.nm 1, iT last] 83)) (h2 : lookH H 1 = some (false, .own 85 6 V.length (dpc V))) (h3 : lookH H 2 = some (false, .ab (frzP W))) => readyU (nx := nx) h1 h2 h3 sub ok.zz ok.srt ok.no ok.ah k
  have hnr := congrArg List.length (nosP_rdy ok.srt k)
  rw [nosP, List.length_map] at hnr
  have e1 : secB (chs V) k = (decide ((ofI (chs V) k 2).length > 0) || ((rdyI (chs V) k V.length).length == 0)) := by rw [secB, hnr]
  rw [e1]
  generalize ofI (chs V) k 2 = us at *
  generalize rdyI (chs V) k V.length = ps at *
  cases hu : decide (us.length > 0) with
  | true =>
    have g0 : decide ((us.length : Int) > 0) = true := by have := of_decide_eq_true hu; exact decide_eq_true (by omega)
    refine rn [(6, .spec ⟨.t (.c (.nm 4)), [(true, .own 3 1 us.length (ivs us))], [], []⟩), (9, .dec true)] rfl (by (repeat' (first | exact trivial | exact rfl | exact trivial | exact fun _ => trivial | first | exact hof _ _ rfl rfl | exact g0 | refine And.intro ?_ ?_))) ?_
    exact ret0 tysOk rfl (by repeat' (first | exact trivial | exact rfl | refine And.intro ?_ ?_)) rfl
  | false =>
    have g0 : decide ((us.length : Int) > 0) = false := by have := of_decide_eq_false hu; exact decide_eq_false (by omega)
    have g1 : ((ps.length : Int) == 0) = (ps.length == 0) := by rw [Bool.eq_iff_iff]; simp
    rw [Bool.false_or, ← g1]
    refine rn [(6, .spec ⟨.t (.c (.nm 4)), [(true, .own 3 1 us.length (ivs us))], [], []⟩), (9, .dec false), (12, .spec ⟨.t (.c (.nm 5)), [(true, .own 3 1 ps.length (ivs ps))], [], []⟩)] rfl (by (repeat' (first | exact trivial | exact rfl | exact trivial | exact fun _ => trivial | first | exact hof _ _ rfl rfl | exact hrd _ _ rfl rfl rfl | exact g0 | refine And.intro ?_ ?_))) ?_
    exact ret0 tysOk rfl (by repeat' (first | exact trivial | exact rfl | refine And.intro ?_ ?_)) rfl
set_option maxRecDepth 100000 in
set_option maxHeartbeats 4000000 in
theorem sectorsU {l : Nat} {b2 b3 : Bool} (hd : lookH H d = some (b1, .cells [.nm l, iT last] 83)) (hl : lookH H l = some (b2, .own 85 6 V.length (dpc V))) (hq : lookH H q = some (b3, .ab (frzP W))) (sub : SubW V W) (ok : VOk V) :
    FnH Tryz.prog 29 [.c (.p d 0)] H nx ⟨.t (.c (.nm nx)), [(true, .own 3 1 (secs (chs V)).length (ivs (secs (chs V))))], [], []⟩ := by
  refine fnN (fn := Tryz.f29) 27 rfl rfl rfl (args' := [.c (.p 0 0)]) (H' := hDr V W last) (nx' := 3) (fun e w M => ⟨_, mem_rd (r3p d l q) (H' := hDr V W last) ⟨⟨b1, hd⟩, ⟨b2, hl⟩, ⟨b3, hq⟩, trivial⟩ M, rfl⟩) rfl rfl rfl (inR_one _) rfl fun w => ?_
  show At _ _ _ _ _ _ [(0, some (false, .cells [.nm 1, iT last] 83)), (1, some (false, .own 85 6 V.length (dpc V))), (2, some (false, .ab (frzP W)))] 3
  have z := ok.zz
  refine rn [] rfl (by repeat' (first | exact trivial | exact rfl | refine And.intro ?_ ?_)) ?_
  refine At.loop (X := (j : Nat) ×' (j ≤ V.length)) 5 (fun x => V.length - x.1)
    (fun x => [(1, .t (.c (.p 3 0))), (3, .t (.c (.mp 4))), (11, .t (.c (.nm 1))), (12, .t (.c (iT (V.length : Nat)))), (13, .t (.c (iT (x.1 : Nat))))])
    (fun x => [(0, some (false, .cells [.nm 1, iT last] 83)), (1, some (false, .own 85 6 V.length (dpc V))), (2, some (false, .ab (frzP W))), (3, some (true, .cells [.p 0 0] 55)), (4, some (true, .mp (gm Value.bool (bm (atK ((chs V).take x.1))))))]) ⟨0, by omega⟩ [] (fun x => wf rfl rfl) (by repeat' (first | exact trivial | exact rfl | refine And.intro ?_ ?_)) (by repeat' (first | exact trivial | exact rfl | refine And.intro ?_ ?_)) rfl fun x => ?_
  obtain ⟨j, hj⟩ := x
  have w3 : IntKind.i64.wrap ((j : Int) + 1) = ((j + 1 : Nat) : Int) := by rw [wrap_sm (by omega) (by omega)]; omega
  refine rn [] rfl (by repeat' (first | exact trivial | exact rfl | refine And.intro ?_ ?_)) ?_
  refine ⟨fun h => ?_, fun h => ?_⟩
  · have hlt : j < V.length := by have : (j : Int) < (V.length : Int) := of_decide_eq_true h; omega
    clear h
    have r1 : Vc.rowAt (dpc V) ((j : Int).toNat * 6) (depV V[j]) := dpc_rd hlt
    have b0 : (0 : Int) ≤ (j : Int) := by omega
    have b1 : (j : Int) < (V.length : Int) := by omega
    have c5 : (j : Int).toNat * 6 < (dpc V).length := by rw [dpc_length]; omega
    have hin : inI64 V[j].1.at' := ok.sec _ (List.getElem_mem hlt)
    have hsu : atK ((chs V).take (j + 1)) = if (atK ((chs V).take j)).contains V[j].1.at' then atK ((chs V).take j) else atK ((chs V).take j) ++ [V[j].1.at'] := by
      rw [List.take_succ_eq_append_getElem (by simpa using hlt), atK_snoc]
      simp
    have hpt := bm_put V[j].1.at' (atK ((chs V).take j))
    rw [← hsu] at hpt
    refine rn [(16, .ld [iT V[j].1.no, iT V[j].1.at', iT V[j].1.off, .s V[j].1.by', .raw (.slice V[j].2.1 V[j].1.ah.length V[j].2.2), iT V[j].1.st])] rfl (by (repeat' (first | exact trivial | exact rfl | exact trivial | exact fun _ => trivial | first | exact r1 | exact b0 | exact b1 | exact c5 | exact hin | exact hin.1 | exact hin.2 | decide | refine And.intro ?_ ?_))) ?_
    exact roundEnd ⟨j + 1, by omega⟩ [] (by show V.length - (j + 1) < V.length - j; omega) (by (repeat' (first | exact trivial | exact rfl | exact w3 | exact fun _ => w3 | refine And.intro ?_ ?_))) (by (repeat' (first | exact trivial | exact rfl | exact trivial | exact fun _ => trivial | exact hpt | refine And.intro ?_ ?_))) rfl
  · have hlt : j = V.length := by have : ¬ (j : Int) < (V.length : Int) := of_decide_eq_false h; omega
    have hw : (chs V).take j = chs V := by rw [hlt]; exact List.take_of_length_le (by simp)
    refine rn [] rfl (by repeat' (first | exact trivial | exact rfl | refine And.intro ?_ ?_)) (roundExit rfl ?_)
    rw [hw]
    have hfst : ∀ acc : List Int, (gm Value.bool (bm acc)).map Prod.fst = acc := fun acc => by simp [gm, bm, Function.comp_def]
    have hal : (atK (chs V)).length ≤ 400000 := Nat.le_trans (atK_le _) (by simpa using ok.z)
    have hgl : (gm Value.bool (bm (atK (chs V)))).length = (srtI (atK (chs V))).length := by rw [srtI_length, gm_length]; simp [bm]
    have hsl := srtI_length (atK (chs V))
    have hS : ∀ (H : HL) (nx : Nat), lookH H 5 = some (true, .cells [.mp 4] 102) → lookH H 4 = some (true, .mp (gm Value.bool (bm (atK (chs V))))) → FnH Tryz.prog 34 [.c (.fn (.func 77) [(5, 0)])] H nx ⟨.t (.c (.nm nx)), [(true, .own 3 1 (srtI (atK (chs V))).length (ivs (srtI (atK (chs V)))))], [], []⟩ := fun H nx h1 h2 => by
      have := sortedS (nx := nx) h1 h2 (by rw [hgl, hsl]; omega)
      rw [hfst, hgl] at this
      exact this
    have hD : ∀ (H : HL) (nx : Nat), lookH H 6 = some (true, .own 3 1 (srtI (atK (chs V))).length (ivs (srtI (atK (chs V))))) → capsOk 6 H (hSc V W last) → FnH Tryz.prog 53 [.c (.nm 6), .c (.fn (.func 54) [(3, 0)])] H nx ⟨.t (.c (.nm nx)), [(true, .own 3 1 (secs (chs V)).length (ivs (secs (chs V))))], [(6, none)], []⟩ := fun H nx h1 h2 =>
      deleteF_h (nx := nx) (caps := [(3, 0)]) (pd := secB (chs V)) (nc := 4) (g := 54) (fun _ => True) rfl rfl rfl (fun k _ => sectors1 sub ok k) h1 h2 (fun _ _ => trivial) (by omega)
    refine rnA [(22, .spec ⟨.t (.c (.fn (.func 77) [(5, 0)])), [(true, .cells [.mp 4] 102)], [], []⟩), (23, .spec ⟨.t (.c (.nm 6)), [(true, .own 3 1 (srtI (atK (chs V))).length (ivs (srtI (atK (chs V)))))], [], []⟩), (26, .spec ⟨.t (.c (.nm 7)), [(true, .own 3 1 (secs (chs V)).length (ivs (secs (chs V))))], [(6, none)], []⟩)] rfl (by (repeat' (first | exact trivial | exact rfl | exact keysS | exact fun _ => keysS | first | exact hS _ _ rfl rfl | exact hD _ _ rfl ⟨rfl, ⟨_, rfl⟩, rfl, ⟨_, rfl⟩, rfl, ⟨_, rfl⟩, rfl, ⟨_, rfl⟩, trivial⟩ | refine And.intro ?_ ?_))) ?_
    exact retN tysOk [(nx, 7)] rfl (by simp only [retS, SV.eqs, eqsT, TV.eqs, CV.eqs, ren_one]; repeat' (first | exact trivial | exact rfl | refine And.intro ?_ ?_)) (by simp only [newsH, subH, ren_one]; repeat' (first | exact trivial | exact rfl | refine And.intro ?_ ?_)) (by simp [injK, keysH, newsH, inL]) rfl
end
end Cw
