/- Both kinds of changes beside each other: what is shared; a fork of deps; what only reads a thing that a step left. -/
import Derived.Test.YtkmgnfgcgfafcaaRD4
import Derived.Test.YtkmgnfgcgfafcaaBook
import Derived.Test.YtkmgnfgcgfafcaaAmV
namespace Vc
open Go Go.RowKit
/-- The names of what is seen of something. -/
def vwH (f : Nat → Nat) : Nat → List (Bool × Ob) → HL → HL
  | _, [], H => H
  | n, (b, o) :: l, H => (n, some (b, o.re f)) :: vwH f (n + 1) l H
theorem look_vwH (f : Nat → Nat) (t : Nat) (H : HL) : ∀ (l : List (Bool × Ob)) (n : Nat), lookH (vwH f n l H) t = if n ≤ t ∧ t < n + l.length then (l[t - n]?).map (fun x => (x.1, x.2.re f)) else lookH H t
  | [], n => by
    have : ¬ (n ≤ t ∧ t < n + ([] : List (Bool × Ob)).length) := by simp
    rw [vwH, if_neg this]
  | (b, o) :: l, n => by
    rw [vwH, lookH_cons, look_vwH f t H l (n + 1)]
    by_cases h : t = n
    · subst h; simp
    · rw [if_neg h]
      by_cases h2 : n + 1 ≤ t ∧ t < n + 1 + l.length
      · have h3 : n ≤ t ∧ t < n + ((b, o) :: l).length := by simp; omega
        rw [if_pos h2, if_pos h3, show t - n = (t - (n + 1)) + 1 by omega, List.getElem?_cons_succ]
      · have h3 : ¬ (n ≤ t ∧ t < n + ((b, o) :: l).length) := by simp; omega
        rw [if_neg h2, if_neg h3]
section
variable {P : Program} {F : Frm} {Q : Exit → Act → World → Prop} {c : Code} {ks : List KI} {L : LL} {H : HL} {nx : Nat}
/-- What may be read, told in other words besides, and a pointer into it. -/
theorem At.view {κ : Type} {O : κ → List (Bool × Ob)} {x : CV} {tv : SV} (n : Nat) (t : Tmp) (hn : ∀ k, (O k).length = n) (hfl : ∀ (k : κ) (j : Nat) (b : Bool) (o : Ob), (O k)[j]? = some (b, o) → b = false) (hO : ∀ k, newsR 0 n (O k) = true) (hx : inR 0 n x.ns = true) (hl : look t L = some tv)
    (hv : ∀ e w, MemOk H e w → ∃ k, ∃ e1 : Env, (∀ (j : Nat) (b : Bool) (o : Ob), (O k)[j]? = some (b, o) → o.holds e1 j w ∧ ∀ g, e1.fp j g → ∃ d o', lookH H d = some (false, o') ∧ e.fp d g) ∧ tv.den e = x.den e1)
    (h : ∀ k, At P F Q c ks ((t, .t (.c (x.re (nx + ·)))) :: L) (vwH (nx + ·) nx (O k) H) (nx + n)) : At P F Q c ks L H nx :=
  ⟨fun hW e a w S => by
    obtain ⟨k, e1, h2, h1⟩ := hv e w ⟨fun m b o hm => ⟨(S.ob m b o hm).1, fun g hg => ((S.ob m b o hm).2 g hg).1⟩, S.dj⟩
    have hk := hn k
    have hOk := hO k
    have hfl' := hfl k
    have hgo := h k
    clear h hfl hv hO hn
    generalize O k = OO at *
    subst hk
    have ren_ns : ∀ (l : List Nat), (∀ q ∈ l, 0 ≤ q ∧ q < OO.length) → ∀ n ∈ l, e1.as (e.open e1 nx OO.length) n (nx + n) := fun l hl n hn => (Env.open_new e e1 (hl n hn).2).1
    have cns : ∀ (c : CV), (∀ q ∈ c.ns, 0 ≤ q ∧ q < OO.length) → ∀ m ∈ (c.re (nx + ·)).ns, m < nx + OO.length := by
      intro c hc m hm
      cases c with
      | p n o => simp [CV.re, CV.ns] at hm; have := hc n (by simp [CV.ns]); omega
      | sl n o l c => simp [CV.re, CV.ns] at hm; have := hc n (by simp [CV.ns]); omega
      | nm n => simp [CV.re, CV.ns] at hm; have := hc n (by simp [CV.ns]); omega
      | el n j => simp [CV.re, CV.ns] at hm; have := hc n (by simp [CV.ns]); omega
      | sub n o k l => simp [CV.re, CV.ns] at hm; have := hc n (by simp [CV.ns]); omega
      | mp n => simp [CV.re, CV.ns] at hm; have := hc n (by simp [CV.ns]); omega
      | fn g caps =>
        simp only [CV.re, CV.ns, List.map_map, List.mem_map] at hm
        obtain ⟨y, hy, rfl⟩ := hm
        have := hc y.1 (by simp only [CV.ns, List.mem_map]; exact ⟨y, hy, rfl⟩)
        show nx + y.1 < _
        omega
      | _ => simp [CV.re, CV.ns] at hm
    have ons : ∀ (o : Ob), (∀ q ∈ o.ns, 0 ≤ q ∧ q < OO.length) → ∀ m ∈ (o.re (nx + ·)).ns, m < nx + OO.length := by
      intro o ho m hm
      cases o with
      | cells cs t =>
        simp only [Ob.re, Ob.ns, reC_eq, List.map_map] at hm
        obtain ⟨l, hl, hm⟩ := mem_flatN.1 hm
        obtain ⟨c, hc, rfl⟩ := List.mem_map.1 hl
        exact cns c (fun q hq => ho q (by simp only [Ob.ns]; exact mem_flatN.2 ⟨_, List.mem_map.2 ⟨c, hc, rfl⟩, hq⟩)) m hm
      | pin q x => simp [Ob.re, Ob.ns] at hm; have := ho q (by simp [Ob.ns]); omega
      | _ => simp [Ob.re, Ob.ns] at hm
    have hsz : ∀ {j : Nat} {g : Nat}, (∃ b o, OO[j]? = some (b, o)) → e1.fp j g → ∃ d o', lookH H d = some (false, o') ∧ e.fp d g := fun ⟨b, o, hj⟩ hg => (h2 _ b o hj).2 _ hg
    refine hgo.h ⟨fun t' v hv n hn => ?_, fun n z hz => ?_⟩ (e.open e1 nx OO.length) a w ⟨S.fr, S.sz, S.df, fun t' v hv => ?_, fun n b o hz => ?_, fun n o m c q hn hm hne g hg hg' => ?_⟩
    · rw [look_cons] at hv
      split at hv
      · cases hv
        exact cns x (fun q hq => inR_ok hx q hq) n hn
      · have := hW.l t' v hv n hn
        omega
    · rw [look_vwH] at hz
      split at hz
      · rename_i hc
        refine ⟨hc.2, ?_⟩
        cases hk : OO[n - nx]? with
        | none => rw [hk] at hz; cases hz
        | some y =>
          rw [hk] at hz
          cases hz
          obtain ⟨b, o⟩ := y
          exact ons o (fun q hq => newsR_ok hOk _ b o hk q hq)
      · obtain ⟨g1, g2⟩ := hW.h n z hz
        exact ⟨by omega, fun m hm => by have := g2 m hm; omega⟩
    · rw [look_cons] at hv
      split at hv
      · rename_i ht
        cases hv
        subst ht
        rw [S.sl _ _ hl, h1]
        exact (CV.re_den (e := e1) fun n hn => ren_ns _ (fun q hq => inR_ok hx q hq) n hn).symm
      · rw [S.sl t' v hv]
        exact (SV.den_same fun n hn => Env.open_old e e1 (hW.l t' v hv n hn)).symm
    · rw [look_vwH] at hz
      split at hz
      · rename_i hc
        cases hk : OO[n - nx]? with
        | none => rw [hk] at hz; cases hz
        | some y =>
          rw [hk] at hz
          cases hz
          obtain ⟨b, o⟩ := y
          obtain ⟨k1, k2⟩ := h2 _ b o hk
          have hkl : n - nx < OO.length := by omega
          obtain ⟨q1, q2⟩ := Env.open_new e e1 (nx := nx) hkl
          rw [show nx + (n - nx) = n by omega] at q1 q2
          refine ⟨Ob.re_holds q1 q2 (fun m hm => ren_ns _ (fun q hq => newsR_ok hOk _ b o hk q hq) m hm) k1, fun g hg => ?_⟩
          rw [q2] at hg
          obtain ⟨d, o', h3, h4⟩ := k2 g hg
          refine ⟨((S.ob d _ _ h3).2 g h4).1, fun hbt => ?_⟩
          subst hbt
          exact absurd (hfl' _ _ _ hk) (by decide)
      · obtain ⟨g1, g2⟩ := hW.h n _ hz
        obtain ⟨g3, g4⟩ := S.ob n b o hz
        have hs := Env.open_old e e1 (k := OO.length) g1
        refine ⟨Ob.same hs g3 fun m hm => (Env.open_old e e1 (g2 m hm)).v, fun g hg => ?_⟩
        rw [hs.2.2] at hg
        exact g4 g hg
    · rw [look_vwH] at hn hm
      split at hn
      · rename_i hc
        cases hk : OO[n - nx]? with
        | none => rw [hk] at hn; cases hn
        | some y =>
          rw [hk] at hn
          obtain ⟨b, o⟩ := y
          have hb := hfl' _ _ _ hk
          subst hb
          cases hn
      · have hs := Env.open_old e e1 (k := OO.length) (hW.h n _ hn).1
        rw [hs.2.2] at hg
        split at hm
        · rename_i hc'
          have hlt : m - nx < OO.length := by omega
          obtain ⟨_, q2⟩ := Env.open_new e e1 (nx := nx) hlt
          rw [show nx + (m - nx) = m by omega] at q2
          rw [q2] at hg'
          obtain ⟨d, o', h3, h4⟩ := hsz ⟨_, _, List.getElem?_eq_getElem hlt⟩ hg'
          refine S.dj n o d _ _ hn h3 (fun hnd => ?_) g hg h4
          subst hnd
          rw [h3] at hn
          cases hn
        · have hs' := Env.open_old e e1 (k := OO.length) (hW.h m _ hm).1
          rw [hs'.2.2] at hg'
          exact S.dj n o m c q hn hm hne g hg hg'⟩
end
end Vc
namespace Cw
open Go Vc
open Go.Proofs
set_option maxRecDepth 100000
abbrev WL := List (List Int × Option Addr × Nat)
def dtO (V : DV) (last : Int) (b : Nat) (E : WL) : List (Bool × Ob) := [(true, .cells [.nm 1, iT last] 47), (true, .own 53 6 V.length (dpc V)), (false, .pin 0 b), (true, .ab (frzP E))]
/-- What a step leaves of the changes. -/
def depT (W : WL) (R : List Ch) (b : Nat) : AbP := exP fun y : { y : DV × WL // DR y.1 (W ++ y.2) R } => absP (dtO y.1.1 R.length b y.1.2) (.p 0 0)
theorem depT_st (W : WL) (R : List Ch) (b : Nat) : stable (depT W R b) := exP_stable fun _ => absP_stable _ _
theorem depT_pins (W : WL) (R : List Ch) (b : Nat) : Pins (depT W R b) (ptr b) := fun v F w ⟨y, h⟩ => pins_abs (O := dtO y.1.1 R.length b y.1.2) (k := 2) rfl v F w h
theorem depT_old {W : WL} {V : DV} {R : List Ch} {b : Nat} (h : DR V W R) : ∀ v F w, depP V R.length b v F w → depT W R b v F w := by
  rintro v F w ⟨e, h1, h2, h3, h4, h5⟩
  have hl : (depO V (R.length : Int) b).length = 3 := rfl
  rw [hl] at h3 h4
  refine ⟨⟨(V, []), by simpa using h⟩, ⟨e.blk, e.val, fun n g => n ≠ 3 ∧ e.fp n g, e.one⟩, h1, fun k b' o hk => ?_, fun j k hj hk hne g hg hg' => ?_, fun g => ?_, h5⟩
  · match k, hk with
    | 0, hk =>
      obtain ⟨q1, q2⟩ := h2 0 b' o hk
      cases hk
      exact ⟨⟨fun g => ⟨fun h => (q1.1 g).1 h.2, fun h => ⟨by decide, (q1.1 g).2 h⟩⟩, q1.2⟩, fun h => by cases h⟩
    | 1, hk =>
      obtain ⟨q1, q2⟩ := h2 1 b' o hk
      cases hk
      exact ⟨⟨q1.1, fun g => ⟨fun h => (q1.2 g).1 h.2, fun h => ⟨by decide, (q1.2 g).2 h⟩⟩⟩, fun h => by cases h⟩
    | 2, hk =>
      obtain ⟨q1, q2⟩ := h2 2 b' o hk
      cases hk
      exact ⟨⟨fun g h => q1.1 g h.2, q1.2⟩, fun _ g h => q1.1 g h.2⟩
    | 3, hk =>
      cases hk
      exact ⟨⟨fun p hp => (by cases hp), frzP_stable _⟩, fun h => by cases h⟩
    | k + 4, hk => simp [dtO] at hk
  · have hd : (dtO V R.length b []).length = 4 := rfl
    rw [hd] at hj hk
    exact h3 j k (by have := hg.1; omega) (by have := hg'.1; omega) hne g hg.2 hg'.2
  · rw [h4 g]
    have hd : (dtO V R.length b []).length = 4 := rfl
    rw [hd]
    exact ⟨fun ⟨k, hk, hg⟩ => ⟨k, by omega, by omega, hg⟩, fun ⟨k, hk, hg⟩ => ⟨k, by have := hg.1; omega, hg.2⟩⟩
theorem depT_new {W : WL} {V : DV} {R : List Ch} {b : Nat} {c : Ch} (h : ∀ v, DR (V ++ [(c, v)]) (W ++ [(c.ah, v)]) (R ++ [c])) : ∀ v F w, adP V R.length b c v F w → depT W (R ++ [c]) b v F w := by
  rintro v F w ⟨k, hk⟩
  refine ⟨⟨(V ++ [(c, k)], [(c.ah, k)]), h k⟩, ?_⟩
  have e : dtO (V ++ [(c, k)]) ((R ++ [c]).length : Nat) b [(c.ah, k)] = adO V R.length b c k := by
    rw [dtO, adO, show ((R ++ [c]).length : Nat) = R.length + 1 by simp, show (V ++ [(c, k)]).length = V.length + 1 by simp]
    rfl
  show absP (dtO (V ++ [(c, k)]) ((R ++ [c]).length : Nat) b [(c.ah, k)]) (.p 0 0) v F w
  rw [e]; exact hk
section
variable {P : Program} {F : Frm} {Q : Exit → Act → World → Prop} {cd : Code} {ks : List KI} {L : LL} {H : HL} {nx : Nat} {W : WL} {R : List Ch} {V : DV} {A : Option Addr} {cp b : Nat}
theorem frzP_join {W E : WL} {v v1 v2 : Value} {F F1 F2 : Nat → Prop} {w : World} (h1 : frzP W v1 F1 w) (h2 : frzP E v2 F2 w) (a1 : ∀ g, F1 g → F g) (a2 : ∀ g, F2 g → F g) : frzP (W ++ E) v F w := by
  intro p hp
  rcases List.mem_append.1 hp with hp | hp
  · obtain ⟨q1, q2⟩ := h1 p hp
    exact ⟨q1, fun a ha h0 => a1 _ (q2 a ha h0)⟩
  · obtain ⟨q1, q2⟩ := h2 p hp
    exact ⟨q1, fun a ha h0 => a2 _ (q2 a ha h0)⟩
def odO (V : DV) (last : Int) (W : WL) : List (Bool × Ob) := [(false, .cells [.nm 1, iT last] 47), (false, .own 53 6 V.length (dpc V)), (false, .ab (frzP W))]
/-- What a step left of the changes, read. -/
theorem At.openD (t d q : Nat) (hl : look t L = some (.t (.c (.nm d)))) (hd : lookH H d = some (false, .ab (depT W R b))) (hq : lookH H q = some (false, .ab (frzP W)))
    (h : ∀ V' W', DR V' W' R → At P F Q cd ks ((t, .t (.c (.p (nx + 0) 0))) :: L) (vwH (nx + ·) nx (odO V' R.length W') H) (nx + 3)) : At P F Q cd ks L H nx := by
  refine At.view (κ := { y : DV × WL // DR y.1 y.2 R }) (O := fun k => odO k.1.1 R.length k.1.2) (x := .p 0 0) 3 t (fun _ => rfl) (fun k j b o hj => ?_) (fun _ => rfl) rfl hl (fun e w M => ?_) fun k => h _ _ k.2
  · match j, hj with
    | 0, hj => cases hj; rfl
    | 1, hj => cases hj; rfl
    | 2, hj => cases hj; rfl
    | j + 3, hj => simp [odO] at hj
  · obtain ⟨⟨⟨y, e1, g1, g2, g3, g4, g5⟩, _⟩, _⟩ := M.ob d false _ hd
    obtain ⟨⟨hfq, _⟩, _⟩ := M.ob q false _ hq
    obtain ⟨c1, c2⟩ := (g2 0 _ _ rfl).1
    obtain ⟨o1, o2⟩ := (g2 1 _ _ rfl).1
    have hf3 := (g2 3 _ _ rfl).1.1
    have hdl : (dtO y.1.1 R.length b y.1.2).length = 4 := rfl
    rw [hdl] at g4
    refine ⟨⟨(y.1.1, W ++ y.1.2), y.2⟩, ⟨e1.blk, e1.val, fun n g => if n = 2 then e.fp q g ∨ e1.fp 3 g else e1.fp n g, e1.one⟩, fun j b' o hj => ?_, by show e.val d = _; rw [g1]; rfl⟩
    match j, hj with
    | 0, hj => cases hj; exact ⟨⟨c1, c2⟩, fun g hg => ⟨d, _, hd, (g4 g).2 ⟨0, by omega, hg⟩⟩⟩
    | 1, hj => cases hj; exact ⟨⟨o1, o2⟩, fun g hg => ⟨d, _, hd, (g4 g).2 ⟨1, by omega, hg⟩⟩⟩
    | 2, hj =>
      cases hj
      exact ⟨⟨frzP_join hfq hf3 (fun g hg => .inl hg) (fun g hg => .inr hg), frzP_stable _⟩, fun g hg => hg.elim (fun hg => ⟨q, _, hq, hg⟩) fun hg => ⟨d, _, hd, (g4 g).2 ⟨3, by omega, hg⟩⟩⟩
    | j + 3, hj => simp [odO] at hj
def orO (V : DV) (W : WL) : List (Bool × Ob) := [(false, .cells [.nm 1] 28), (false, .rd 5 V.length (rdc V)), (false, .ab (frzP W))]
theorem At.openR (t d q s : Nat) (hl : look t L = some (.t (.c (.nm d)))) (hd : lookH H d = some (false, .ab (refT W V A cp R b))) (hq : lookH H q = some (false, .ab (frzP W))) (hs : lookH H s = some (false, .ab (rawS 5 (.slice A V.length cp) (rdc V))))
    (h : ∀ V' W', RR V' W' R → At P F Q cd ks ((t, .t (.c (.p (nx + 0) 0))) :: L) (vwH (nx + ·) nx (orO V' W') H) (nx + 3)) : At P F Q cd ks L H nx := by
  refine At.view (κ := { y : DV × WL // RR y.1 y.2 R }) (O := fun k => orO k.1.1 k.1.2) (x := .p 0 0) 3 t (fun _ => rfl) (fun k j b o hj => ?_) (fun _ => rfl) rfl hl (fun e w M => ?_) fun k => h _ _ k.2
  · match j, hj with
    | 0, hj => cases hj; rfl
    | 1, hj => cases hj; rfl
    | 2, hj => cases hj; rfl
    | j + 3, hj => simp [orO] at hj
  · obtain ⟨⟨hp, _⟩, _⟩ := M.ob d false _ hd
    obtain ⟨⟨hfq, _⟩, _⟩ := M.ob q false _ hq
    obtain ⟨⟨⟨A', n', c', k1, k2, k3⟩, _⟩, _⟩ := M.ob s false _ hs
    cases k1
    rcases hp with ⟨⟨hrr⟩, e1, g1, g2, g3, g4, g5⟩ | ⟨y, e1, g1, g2, g3, g4, g5⟩
    · obtain ⟨c1, c2⟩ := (g2 0 _ _ rfl).1
      have hdl : (rfO A V.length cp b).length = 2 := rfl
      rw [hdl] at g4
      refine ⟨⟨(V, W), hrr⟩, ⟨e1.blk, fun n => if n = 1 then .slice A V.length cp else uv, fun n g => if n = 0 then e1.fp 0 g else if n = 1 then e.fp s g else e.fp q g, fun n => by
        show (if n = 1 then Value.slice A V.length cp else uv).oneCell' = true
        split <;> rfl⟩, fun j b' o hj => ?_, by show e.val d = _; rw [g1]; rfl⟩
      match j, hj with
      | 0, hj => cases hj; exact ⟨⟨c1, c2⟩, fun g hg => ⟨d, _, hd, (g4 g).2 ⟨0, by omega, hg⟩⟩⟩
      | 1, hj => cases hj; exact ⟨⟨A, cp, rfl, k2, k3⟩, fun g hg => ⟨s, _, hs, hg⟩⟩
      | 2, hj => cases hj; exact ⟨⟨hfq, frzP_stable _⟩, fun g hg => ⟨q, _, hq, hg⟩⟩
      | j + 3, hj => simp [orO] at hj
    · obtain ⟨⟨V2, A2, cp2, E2⟩, hrr⟩ := y
      obtain ⟨c1, c2⟩ := (g2 0 _ _ rfl).1
      obtain ⟨⟨A3, n3, c3, r1, r2, r3⟩, _⟩ := (g2 2 _ _ rfl).1
      cases r1
      have hf3 := (g2 3 _ _ rfl).1.1
      have hdl : (rtO V2 A2 cp2 E2 b).length = 4 := rfl
      rw [hdl] at g4
      refine ⟨⟨(V2, W ++ E2), hrr⟩, ⟨e1.blk, fun n => if n = 1 then .slice A2 V2.length cp2 else uv, fun n g => if n = 0 then e1.fp 0 g else if n = 1 then e1.fp 2 g else e.fp q g ∨ e1.fp 3 g, fun n => by
        show (if n = 1 then Value.slice A2 V2.length cp2 else uv).oneCell' = true
        split <;> rfl⟩, fun j b' o hj => ?_, by show e.val d = _; rw [g1]; rfl⟩
      match j, hj with
      | 0, hj => cases hj; exact ⟨⟨c1, c2⟩, fun g hg => ⟨d, _, hd, (g4 g).2 ⟨0, by omega, hg⟩⟩⟩
      | 1, hj => cases hj; exact ⟨⟨A2, cp2, rfl, r2, r3⟩, fun g hg => ⟨d, _, hd, (g4 g).2 ⟨2, by omega, hg⟩⟩⟩
      | 2, hj =>
        cases hj
        exact ⟨⟨frzP_join hfq hf3 (fun g hg => .inl hg) (fun g hg => .inr hg), frzP_stable _⟩, fun g hg => hg.elim (fun hg => ⟨q, _, hq, hg⟩) fun hg => ⟨d, _, hd, (g4 g).2 ⟨3, by omega, hg⟩⟩⟩
      | j + 3, hj => simp [orO] at hj
/-- What a step left is shared with the others. -/
theorem At.shareD (d q : Nat) (hd : lookH H d = some (true, .ab (depT W R b))) (hq : lookH H q = some (true, .ab (frzP W))) (hdq : d ≠ q)
    (h : ∀ V' W', DR V' W' R → (∀ y ∈ W, y ∈ W') → At P F Q cd ks L ((d, some (true, .ab (depP V' R.length b))) :: (q, some (true, .ab (frzP W'))) :: H) nx) : At P F Q cd ks L H nx := by
  refine At.redo (κ := { y : DV × WL // DR y.1 y.2 R ∧ ∀ x ∈ W, x ∈ y.2 }) [(d, depT W R b, fun k => depP k.1.1 R.length b), (q, frzP W, fun k => frzP k.1.2)] (fun u hu => ?_) (fun u hu k => ?_) (fun e w hp hdj => ?_) fun k => h _ _ k.2.1 k.2.2
  · simp only [List.mem_cons, List.not_mem_nil, or_false] at hu
    rcases hu with rfl | rfl
    · exact hd
    · exact hq
  · simp only [List.mem_cons, List.not_mem_nil, or_false] at hu
    rcases hu with rfl | rfl
    · exact absP_stable _ _
    · exact frzP_stable _
  · obtain ⟨y, e1, g1, g2, g3, g4, g5⟩ := hp _ (List.mem_cons_self ..)
    have hfq := hp (q, frzP W, fun k => frzP k.1.2) (by simp)
    have hf3 := (g2 3 _ _ rfl).1.1
    have hdl : (dtO y.1.1 R.length b y.1.2).length = 4 := rfl
    rw [hdl] at g3 g4
    let f : Nat → Nat → Prop := fun n g => if n = d then ∃ k, k < 3 ∧ e1.fp k g else e.fp q g ∨ e1.fp 3 g
    have fd : ∀ g, f d g ↔ ∃ k, k < 3 ∧ e1.fp k g := fun g => by show (if _ then _ else _) ↔ _; rw [if_pos rfl]
    have fq : ∀ g, f q g ↔ e.fp q g ∨ e1.fp 3 g := fun g => by show (if _ then _ else _) ↔ _; rw [if_neg (fun h => hdq h.symm)]
    have hdis : ∀ g, e.fp d g → ¬ e.fp q g := fun g => hdj (d, _, _) (List.mem_cons_self ..) (q, frzP W, fun k => frzP k.1.2) (by simp) hdq g
    have dd : ∀ g, f d g → ¬ f q g := fun g h1 h2 => by
      obtain ⟨k, hk, hg⟩ := (fd g).1 h1
      rcases (fq g).1 h2 with h | h
      · exact hdis g ((g4 g).2 ⟨k, by omega, hg⟩) h
      · exact g3 k 3 (by omega) (by omega) (by omega) g hg h
    refine ⟨⟨(y.1.1, W ++ y.1.2), y.2, fun x hx => List.mem_append.2 (.inl hx)⟩, f, fun u hu => ?_, fun u hu g hg => ?_, fun u hu u' hu' hne g hg hg' => ?_⟩
    · simp only [List.mem_cons, List.not_mem_nil, or_false] at hu
      rcases hu with rfl | rfl
      · refine ⟨e1, g1, fun k b' o hk => ?_, fun j k hj hk => ?_, fd, fun g hg => g5 g ?_⟩
        · match k, hk with
          | 0, hk => exact g2 0 b' o hk
          | 1, hk => exact g2 1 b' o hk
          | 2, hk => exact g2 2 b' o hk
          | k + 3, hk => simp [depO] at hk
        · have hj2 : j < 3 := hj
          have hk2 : k < 3 := hk
          exact g3 j k (by omega) (by omega)
        · obtain ⟨k, hk, hg⟩ := (fd g).1 hg
          exact (g4 g).2 ⟨k, by omega, hg⟩
      · exact frzP_join (v := e.val q) (v1 := e.val q) (v2 := e1.val 3) hfq hf3 (fun g hg => (fq g).2 (.inl hg)) fun g hg => (fq g).2 (.inr hg)
    · simp only [List.mem_cons, List.not_mem_nil, or_false] at hu
      rcases hu with rfl | rfl
      · obtain ⟨k, hk, hg⟩ := (fd g).1 hg
        exact ⟨(d, _, _), List.mem_cons_self .., (g4 g).2 ⟨k, by omega, hg⟩⟩
      · rcases (fq g).1 hg with hg | hg
        · exact ⟨(q, frzP W, fun k => frzP k.1.2), by simp, hg⟩
        · exact ⟨(d, _, _), List.mem_cons_self .., (g4 g).2 ⟨3, by omega, hg⟩⟩
    · simp only [List.mem_cons, List.not_mem_nil, or_false] at hu hu'
      rcases hu with rfl | rfl
      · rcases hu' with rfl | rfl
        · exact hne rfl
        · exact dd g hg hg'
      · rcases hu' with rfl | rfl
        · exact dd g hg' hg
        · exact hne rfl
theorem At.shareR (d q s : Nat) (hd : lookH H d = some (true, .ab (refT W V A cp R b))) (hq : lookH H q = some (true, .ab (frzP W))) (hs : lookH H s = some (true, .ab (rawS 5 (.slice A V.length cp) (rdc V)))) (hdq : d ≠ q) (hds : d ≠ s) (hqs : q ≠ s)
    (h : ∀ V' A' cp' W', RR V' W' R → (∀ y ∈ W, y ∈ W') → At P F Q cd ks L ((d, some (true, .ab (rfP A' V'.length cp' b))) :: (q, some (true, .ab (frzP W'))) :: (s, some (true, .ab (rawS 5 (.slice A' V'.length cp') (rdc V')))) :: H) nx) : At P F Q cd ks L H nx := by
  refine At.redo (κ := { y : DV × Option Addr × Nat × WL // RR y.1 y.2.2.2 R ∧ ∀ x ∈ W, x ∈ y.2.2.2 }) [(d, refT W V A cp R b, fun k => rfP k.1.2.1 k.1.1.length k.1.2.2.1 b), (q, frzP W, fun k => frzP k.1.2.2.2), (s, rawS 5 (.slice A V.length cp) (rdc V), fun k => rawS 5 (.slice k.1.2.1 k.1.1.length k.1.2.2.1) (rdc k.1.1))] (fun u hu => ?_) (fun u hu k => ?_) (fun e w hp hdj => ?_) fun k => h _ _ _ _ k.2.1 k.2.2
  · simp only [List.mem_cons, List.not_mem_nil, or_false] at hu
    rcases hu with rfl | rfl | rfl
    · exact hd
    · exact hq
    · exact hs
  · simp only [List.mem_cons, List.not_mem_nil, or_false] at hu
    rcases hu with rfl | rfl | rfl
    · exact absP_stable _ _
    · exact frzP_stable _
    · exact rawS_stable
  · have hfr := hp _ (List.mem_cons_self ..)
    have hfq := hp (q, frzP W, fun k => frzP k.1.2.2.2) (by simp)
    have hfs := hp (s, rawS 5 (.slice A V.length cp) (rdc V), fun k => rawS 5 (.slice k.1.2.1 k.1.1.length k.1.2.2.1) (rdc k.1.1)) (by simp)
    have d1 : ∀ g, e.fp d g → ¬ e.fp q g := fun g => hdj (d, _, _) (List.mem_cons_self ..) (q, frzP W, fun k => frzP k.1.2.2.2) (by simp) hdq g
    have d2 : ∀ g, e.fp d g → ¬ e.fp s g := fun g => hdj (d, _, _) (List.mem_cons_self ..) (s, rawS 5 (.slice A V.length cp) (rdc V), fun k => rawS 5 (.slice k.1.2.1 k.1.1.length k.1.2.2.1) (rdc k.1.1)) (by simp) hds g
    have d3 : ∀ g, e.fp q g → ¬ e.fp s g := fun g => hdj (q, frzP W, fun k => frzP k.1.2.2.2) (by simp) (s, rawS 5 (.slice A V.length cp) (rdc V), fun k => rawS 5 (.slice k.1.2.1 k.1.1.length k.1.2.2.1) (rdc k.1.1)) (by simp) hqs g
    rcases hfr with ⟨⟨hrr⟩, hfr⟩ | ⟨⟨⟨V2, A2, cp2, E2⟩, hrr⟩, e1, g1, g2, g3, g4, g5⟩
    · refine ⟨⟨(V, A, cp, W), hrr, fun _ h => h⟩, e.fp, fun u hu => ?_, fun u hu g hg => ⟨u, hu, hg⟩, fun u hu u' hu' hne => hdj u hu u' hu' hne⟩
      simp only [List.mem_cons, List.not_mem_nil, or_false] at hu
      rcases hu with rfl | rfl | rfl
      · exact hfr
      · exact hfq
      · exact hfs
    · have hf3 := (g2 3 _ _ rfl).1.1
      have hf2 := (g2 2 _ _ rfl).1.1
      have hdl : (rtO V2 A2 cp2 E2 b).length = 4 := rfl
      rw [hdl] at g3 g4
      let f : Nat → Nat → Prop := fun n g => if n = d then ∃ k, k < 2 ∧ e1.fp k g else if n = q then e.fp q g ∨ e1.fp 3 g else e1.fp 2 g
      have fd : ∀ g, f d g ↔ ∃ k, k < 2 ∧ e1.fp k g := fun g => by show (if _ then _ else _) ↔ _; rw [if_pos rfl]
      have fq : ∀ g, f q g ↔ e.fp q g ∨ e1.fp 3 g := fun g => by show (if _ then _ else _) ↔ _; rw [if_neg (fun h => hdq h.symm), if_pos rfl]
      have fs : ∀ g, f s g ↔ e1.fp 2 g := fun g => by show (if _ then _ else _) ↔ _; rw [if_neg (fun h => hds h.symm), if_neg (fun h => hqs h.symm)]
      have dd : ∀ g, f d g → ¬ f q g := fun g h1 h2 => by
        obtain ⟨k, hk, hg⟩ := (fd g).1 h1
        rcases (fq g).1 h2 with h | h
        · exact d1 g ((g4 g).2 ⟨k, by omega, hg⟩) h
        · exact g3 k 3 (by omega) (by omega) (by omega) g hg h
      have ds : ∀ g, f d g → ¬ f s g := fun g h1 h2 => by
        obtain ⟨k, hk, hg⟩ := (fd g).1 h1
        exact g3 k 2 (by omega) (by omega) (by omega) g hg ((fs g).1 h2)
      have qs : ∀ g, f q g → ¬ f s g := fun g h1 h2 => by
        have h3 := (fs g).1 h2
        rcases (fq g).1 h1 with h | h
        · exact d1 g ((g4 g).2 ⟨2, by omega, h3⟩) h
        · exact g3 3 2 (by omega) (by omega) (by omega) g h h3
      refine ⟨⟨(V2, A2, cp2, W ++ E2), hrr, fun x hx => List.mem_append.2 (.inl hx)⟩, f, fun u hu => ?_, fun u hu g hg => ?_, fun u hu u' hu' hne g hg hg' => ?_⟩
      · simp only [List.mem_cons, List.not_mem_nil, or_false] at hu
        rcases hu with rfl | rfl | rfl
        · refine ⟨e1, g1, fun k b' o hk => ?_, fun j k hj hk => ?_, fd, fun g hg => g5 g ?_⟩
          · match k, hk with
            | 0, hk => exact g2 0 b' o hk
            | 1, hk => exact g2 1 b' o hk
            | k + 2, hk => simp [rfO] at hk
          · have hj2 : j < 2 := hj
            have hk2 : k < 2 := hk
            exact g3 j k (by omega) (by omega)
          · obtain ⟨k, hk, hg⟩ := (fd g).1 hg
            exact (g4 g).2 ⟨k, by omega, hg⟩
        · exact frzP_join (v := e.val q) (v1 := e.val q) (v2 := e1.val 3) hfq hf3 (fun g hg => (fq g).2 (.inl hg)) fun g hg => (fq g).2 (.inr hg)
        · obtain ⟨A3, n3, c3, r1, r2, r3⟩ := hf2
          exact ⟨A3, n3, c3, r1, r2, fun a ha h0 => (fs _).2 (r3 a ha h0)⟩
      · simp only [List.mem_cons, List.not_mem_nil, or_false] at hu
        rcases hu with rfl | rfl | rfl
        · obtain ⟨k, hk, hg⟩ := (fd g).1 hg
          exact ⟨(d, _, _), List.mem_cons_self .., (g4 g).2 ⟨k, by omega, hg⟩⟩
        · rcases (fq g).1 hg with hg | hg
          · exact ⟨(q, frzP W, fun k => frzP k.1.2.2.2), by simp, hg⟩
          · exact ⟨(d, _, _), List.mem_cons_self .., (g4 g).2 ⟨3, by omega, hg⟩⟩
        · exact ⟨(d, _, _), List.mem_cons_self .., (g4 g).2 ⟨2, by omega, (fs g).1 hg⟩⟩
      · simp only [List.mem_cons, List.not_mem_nil, or_false] at hu hu'
        rcases hu with rfl | rfl | rfl <;> rcases hu' with rfl | rfl | rfl
        · exact hne rfl
        · exact dd g hg hg'
        · exact ds g hg hg'
        · exact dd g hg' hg
        · exact hne rfl
        · exact qs g hg hg'
        · exact ds g hg' hg
        · exact qs g hg' hg
        · exact hne rfl
end
end Cw
namespace Cw
open Go Vc
open Go.Proofs
set_option maxRecDepth 100000
/-- Marks over what was lent: a part of a row. -/
theorem spoilS_h {k n : Nat} {l : List Int} {H : HL} {nx : Nat} (hk : lookH H k = some (true, .own 3 1 l.length (ivs l))) (hn : n + 1 = l.length) (z : l.length ≤ 17592186044000) :
    FnH Try.prog 23 [.c (.sub k 0 0 n)] H nx ⟨.tup [], [], [(k, none)], []⟩ := by
  refine fnF (fn := Try.f23) 12 rfl rfl rfl (args' := [.c (.sub 0 0 0 n)]) (H' := [(0, some (true, .own 3 1 l.length (ivs l)))]) (nx' := 1) (fun e w M => ?_) rfl rfl rfl rfl fun w W => ?_
  · refine ⟨e.ren [(0, k)], ⟨fun n b' q h => ?_, fun n q m c q' h h' hne => ?_⟩, rfl⟩
    · rw [lookH_cons] at h
      split at h
      · rename_i hn
        cases h
        subst hn
        obtain ⟨h1, h2⟩ := M.ob k _ _ hk
        exact ⟨h1, fun g hg => ⟨h2 g hg, fun _ => hg⟩⟩
      · cases h
    · rw [lookH_cons] at h h'
      split at h
      · split at h'
        · omega
        · cases h'
      · cases h
  refine rn [] rfl (by repeat' (first | exact trivial | exact rfl | refine And.intro ?_ ?_)) ?_
  refine At.loop (X := (r : List Int) ×' (k : Nat) ×' (k ≤ n ∧ r.length = l.length)) 1 (fun x => n - x.2.1)
    (fun x => [(0, .t (.c (.sub 0 0 0 n))), (2, .t (.c (iT (x.2.1 : Nat))))])
    (fun x => [(0, some (true, .own 3 1 l.length (ivs x.1)))]) ⟨l, 0, by omega, rfl⟩ [] (fun x => wf rfl rfl) (by repeat' (first | exact trivial | exact rfl | refine And.intro ?_ ?_)) (by repeat' (first | exact trivial | exact rfl | refine And.intro ?_ ?_)) rfl fun x => ?_
  obtain ⟨r, k, hk1, hk2⟩ := x
  have w2 : IntKind.i64.wrap ((k : Int) + 1) = ((k + 1 : Nat) : Int) := by rw [wrap_sm (by omega) (by omega)]; omega
  refine rn [] rfl (by repeat' (first | exact trivial | exact rfl | refine And.intro ?_ ?_)) ?_
  refine ⟨fun h => ?_, fun h => ?_⟩
  · have hlt : k < n := by have : (k : Int) < (n : Int) := of_decide_eq_true h; omega
    have b0 : (0 : Int) ≤ (k : Int) := by omega
    have b1 : (k : Int) < (n : Int) := by omega
    refine rn [] rfl (by (repeat' (first | exact trivial | exact rfl | exact b0 | exact fun _ => b0 | first | exact b1 | decide | omega | (simp [ivs]; omega) | refine And.intro ?_ ?_))) ?_
    refine roundEnd ⟨r.set k (-99), k + 1, by omega, by simpa using hk2⟩ [] (by show n - (k + 1) < n - k; omega) (by (repeat' (first | exact trivial | exact rfl | exact w2 | exact fun _ => w2 | refine And.intro ?_ ?_))) ?_ rfl
    repeat' (first | exact trivial | exact rfl | refine And.intro ?_ ?_)
    have h8 : ∀ m : Nat, m = k * 1 → Vc.setAt (ivs r) m [Value.int .i64 (-99)] = ivs (r.set k (-99)) := fun m hm => by subst hm; exact spoil_set (k := k) (ys := r) (by omega)
    exact h8 _ (by simp)
  · refine rn [] rfl (by repeat' (first | exact trivial | exact rfl | refine And.intro ?_ ?_)) (roundExit rfl ?_)
    refine rnA [] rfl (by repeat' (first | exact trivial | exact rfl | refine And.intro ?_ ?_)) ?_
    exact endF tysOk rfl (by repeat' (first | exact trivial | exact rfl | refine And.intro ?_ ?_)) rfl
section
variable {H : HL} {nx d l q m b : Nat} {b1 b2 b3 b4 : Bool} {V : DV} {W : WL} {R : List Ch} {last : Int}
set_option maxRecDepth 100000 in
set_option maxHeartbeats 2000000 in
theorem leftUo {at' : List Int} (hd : lookH H d = some (b1, .cells [.nm l, iT last] 47)) (hl : lookH H l = some (b2, .own 53 6 V.length (dpc V))) (hm : lookH H m = some (b3, .own 3 1 at'.length (ivs at'))) (h0 : at'.length ≠ 0) (za : at'.length ≤ 100000000000000) (z : V.length ≤ 1000000) :
    FnH Try.prog 37 [.c (.p d 0), .c (.nm m)] H nx ⟨.t (.c (iT (leftA (chs V) at' : Nat))), [], [], []⟩ := by
  refine fnR (fn := Try.f37) 33 rfl rfl rfl (args' := [.c (.p 0 0), .c (.nm 2)]) (H' := hDq V last at') (nx' := 3) (fun e w M => ⟨_, mem_rd (r3p d l m) (memDq hd hl hm) M, rfl⟩) rfl rfl rfl rfl fun w => ?_
  show At _ _ _ _ _ _ [(0, some (false, .cells [.nm 1, iT last] 47)), (1, some (false, .own 53 6 V.length (dpc V))), (2, some (false, .own 3 1 at'.length (ivs at')))] 3
  have e1 : leftA (chs V) at' = leftT (chs V) at' V.length := by rw [leftA, if_neg h0]; simp
  rw [e1]
  have g1 : ((at'.length : Int) == 0) = false := by simp; exact fun h => h0 (by rw [h]; rfl)
  refine rn [(10, .dec false)] rfl (by (repeat' (first | exact trivial | exact rfl | exact trivial | exact fun _ => trivial | exact g1 | refine And.intro ?_ ?_))) ?_
  refine At.loop (X := (j : Nat) ×' (j ≤ V.length)) 3 (fun x => V.length - x.1)
    (fun x => [(1, .t (.c (.nm 2))), (5, .t (.c (iT (leftT (chs V) at' x.1 : Nat)))), (19, .t (.c (.nm 1))), (20, .t (.c (iT (V.length : Nat)))), (21, .t (.c (iT (x.1 : Nat))))])
    (fun _ => [(0, some (false, .cells [.nm 1, iT last] 47)), (1, some (false, .own 53 6 V.length (dpc V))), (2, some (false, .own 3 1 at'.length (ivs at')))]) ⟨0, by omega⟩ [] (fun x => wf rfl rfl) (by repeat' (first | exact trivial | exact rfl | refine And.intro ?_ ?_)) (by repeat' (first | exact trivial | exact rfl | refine And.intro ?_ ?_)) rfl fun x => ?_
  obtain ⟨j, hj⟩ := x
  have w3 : IntKind.i64.wrap ((j : Int) + 1) = ((j + 1 : Nat) : Int) := by rw [wrap_sm (by omega) (by omega)]; omega
  refine rn [] rfl (by repeat' (first | exact trivial | exact rfl | refine And.intro ?_ ?_)) ?_
  refine ⟨fun h => ?_, fun h => ?_⟩
  · have hlt : j < V.length := by have : (j : Int) < (V.length : Int) := of_decide_eq_true h; omega
    clear h
    have r1 : Vc.rowAt (dpc V) ((j : Int).toNat * 6) (depV V[j]) := dpc_rd hlt
    have b0 : (0 : Int) ≤ (j : Int) := by omega
    have b1 : (j : Int) < (V.length : Int) := by omega
    have c5 : (j : Int).toNat * 6 < (dpc V).length := by rw [dpc_length]; omega
    have hle := leftT_le (chs V) at' j
    have hsu : leftT (chs V) at' (j + 1) = if decide (V[j].1.at' ∈ at') = true then leftT (chs V) at' j + 1 else leftT (chs V) at' j := by
      have : (chs V)[j]? = some V[j].1 := by simp [hlt]
      rw [leftT, this]
    have w4 : IntKind.i64.wrap ((leftT (chs V) at' j : Nat) + 1) = ((leftT (chs V) at' j + 1 : Nat) : Int) := by rw [wrap_sm (by omega) (by omega)]; omega
    have hct := fun (H : HL) (nx : Nat) (h1 : lookH H 2 = some (false, .own 3 1 at'.length (ivs at'))) => contains_h (nx := nx) (x := V[j].1.at') (SlR.own h1) za
    cases hc : decide (V[j].1.at' ∈ at') with
    | true =>
      rw [hc] at hct
      rw [hc, if_pos rfl] at hsu
      refine rn [(24, .ld [iT V[j].1.no, iT V[j].1.at', iT V[j].1.off, .s V[j].1.by', .raw (.slice V[j].2.1 V[j].1.ah.length V[j].2.2), iT V[j].1.st]), (28, .spec ⟨.t (.c (.b true)), [], [], []⟩)] rfl (by (repeat' (first | exact trivial | exact rfl | exact trivial | exact fun _ => trivial | first | exact r1 | exact b0 | exact b1 | exact c5 | exact hct _ _ rfl | decide | refine And.intro ?_ ?_))) ?_
      refine ⟨fun _ => ?_, fun h => (by cases h)⟩
      refine rn [] rfl (by repeat' (first | exact trivial | exact rfl | refine And.intro ?_ ?_)) ?_
      exact roundEnd ⟨j + 1, by omega⟩ [] (by show V.length - (j + 1) < V.length - j; omega) (by (repeat' (first | exact trivial | exact rfl | exact w3 | exact fun _ => w3 | first | exact w3 | (rw [hsu]; exact w4) | refine And.intro ?_ ?_))) (by repeat' (first | exact trivial | exact rfl | refine And.intro ?_ ?_)) rfl
    | false =>
      rw [hc] at hct
      rw [hc, if_neg (by decide)] at hsu
      refine rn [(24, .ld [iT V[j].1.no, iT V[j].1.at', iT V[j].1.off, .s V[j].1.by', .raw (.slice V[j].2.1 V[j].1.ah.length V[j].2.2), iT V[j].1.st]), (28, .spec ⟨.t (.c (.b false)), [], [], []⟩)] rfl (by (repeat' (first | exact trivial | exact rfl | exact trivial | exact fun _ => trivial | first | exact r1 | exact b0 | exact b1 | exact c5 | exact hct _ _ rfl | decide | refine And.intro ?_ ?_))) ?_
      refine ⟨fun h => (by cases h), fun _ => ?_⟩
      refine rn [] rfl (by repeat' (first | exact trivial | exact rfl | refine And.intro ?_ ?_)) ?_
      exact roundEnd ⟨j + 1, by omega⟩ [] (by show V.length - (j + 1) < V.length - j; omega) (by (repeat' (first | exact trivial | exact rfl | exact w3 | exact fun _ => w3 | first | exact w3 | (rw [hsu]; done) | refine And.intro ?_ ?_))) (by repeat' (first | exact trivial | exact rfl | refine And.intro ?_ ?_)) rfl
  · have hlt : j = V.length := by have : ¬ (j : Int) < (V.length : Int) := of_decide_eq_false h; omega
    subst hlt
    refine rn [] rfl (by repeat' (first | exact trivial | exact rfl | refine And.intro ?_ ?_)) (roundExit rfl ?_)
    refine rnA [] rfl (by repeat' (first | exact trivial | exact rfl | refine And.intro ?_ ?_)) ?_
    exact ret0 tysOk rfl (by repeat' (first | exact trivial | exact rfl | refine And.intro ?_ ?_)) rfl
theorem leftUn (hd : lookH H d = some (b1, .cells [.nm l, iT last] 47)) (hl : lookH H l = some (b2, .own 53 6 V.length (dpc V))) :
    FnH Try.prog 37 [.c (.p d 0), .c .nsl] H nx ⟨.t (.c (iT (V.length : Nat))), [], [], []⟩ := by
  refine fnR (fn := Try.f37) 33 rfl rfl rfl (args' := [.c (.p 0 0), .c .nsl]) (H' := hDp V last) (nx' := 2) (fun e w M => ⟨_, mem_rd (r2p d l) (memDp hd hl) M, rfl⟩) rfl rfl rfl rfl fun w => ?_
  show At _ _ _ _ _ _ [(0, some (false, .cells [.nm 1, iT last] 47)), (1, some (false, .own 53 6 V.length (dpc V)))] 2
  refine rn [(10, .dec true)] rfl (by (repeat' (first | exact trivial | exact rfl | exact trivial | exact fun _ => trivial | rfl | refine And.intro ?_ ?_))) ?_
  exact ret0 tysOk rfl (by repeat' (first | exact trivial | exact rfl | refine And.intro ?_ ?_)) rfl
end
/-- A row of one's own that is not nil. -/
def ownN (T : TypeId) (s n : Nat) (xs : List Value) : AbP := fun v F w => (∃ A c, v = .slice (some A) n c) ∧ (w.ownsRow 0 T s v n xs ∧ ∀ g, F g ↔ v.ownBlock = some g)
theorem ownN_stable {T : TypeId} {s n : Nat} {xs : List Value} : stable (ownN T s n xs) := by
  rintro v F w w' ⟨h0, h1⟩ hk
  refine ⟨h0, ?_⟩
  have : (Ob.own T s n xs).holds (⟨fun _ => 0, fun _ => if v.oneCell' = true then v else uv, fun _ => F, fun _ => by
    show (if v.oneCell' = true then v else uv).oneCell' = true
    split
    · assumption
    · rfl⟩ : Env) 0 w := by
    obtain ⟨A, c, rfl⟩ := h0
    exact h1
  have h2 := Ob.stays this hk
  obtain ⟨A, c, rfl⟩ := h0
  exact h2
theorem spec_nnilN {P : Program} {L : LL} {H : HL} {nx k n s : Nat} {b : Bool} {U E : TypeId} {xs : List Value} {tys : List (Nat × Ty)} (hty : TysOk P tys) {o : Oper} {T T' : TypeId} {x y : Operand} {I : Ty} (hop : o.op = .binOp .eql T x y T') (hx : ev L x = some (.c (.nm k))) (hy : ev L y = some (.c .nsl)) (hT : look T tys = some I) (hI : I.d = .slice E)
    (hk : lookH H k = some (b, .ab (ownN U s n xs))) : Spec P L H nx o ⟨.t (.c (.b false)), [], [], []⟩ := by
  refine ⟨fun F => step_pure fun e a w S => ?_⟩
  obtain ⟨dt, hd', hId⟩ := (hty _ _ hT).und
  rw [hI] at hId
  simp only [TyD.is] at hId
  subst hId
  obtain ⟨A, c, hv0⟩ := (S.ob k b _ hk).1.1.1
  have hv : a.eval x = .slice (some A) n c := by
    rw [ev_ok S hx]
    exact hv0
  have heq : (Op.equal T (.slice (some A) n c) (.slice none 0 0)).run P w = .ok false w := eq_sn 9999 hd' _ _ _
  have hbin := run_eq (w := w) (op := .eql) rfl (T := T) (x := .slice (some A) n c) (y := .slice none 0 0) (r := false) heq (by simp) (by simp) (by simp) (by simp)
  have hg : (eqGuard .eql T x y (.slice (some A) n c) (.slice none 0 0)).run P w = .ok () w := rfl
  simp only [execOp, hop, Sem.run_bind, hv, ev_ok S hy, TV.den, CV.den, hg, Result.andThen_ok, hbin, Sem.run_pure]
  rfl
theorem At.ownN {P : Program} {F : Frm} {Q : Exit → Act → World → Prop} {c : Code} {ks : List KI} {L : LL} {H : HL} {nx k n s : Nat} {b : Bool} {T : TypeId} {xs : List Value} (hk : lookH H k = some (b, .ab (ownN T s n xs))) (h : At P F Q c ks L ((k, some (b, .own T s n xs)) :: H) nx) : At P F Q c ks L H nx :=
  ⟨fun hW e a w S => by
    have old : ∀ {j : Nat} {z : Bool × Ob}, lookH ((k, some (b, .own T s n xs)) :: H) j = some z → ∃ o, lookH H j = some (z.1, o) := by
      intro j z hz
      rw [lookH_cons] at hz
      split at hz
      · rename_i h0; cases hz; subst h0; exact ⟨_, hk⟩
      · exact ⟨z.2, hz⟩
    refine h.h ⟨hW.l, fun j z hz => ?_⟩ e a w ⟨S.fr, S.sz, S.df, S.sl, fun j b' o hn => ?_, fun j o j' b' o' hn hm hne => ?_⟩
    · rw [lookH_cons] at hz
      split at hz
      · rename_i h0
        cases hz; subst h0
        exact ⟨(hW.h j _ hk).1, fun p hp => by simp [Ob.ns] at hp⟩
      · exact hW.h j z hz
    · rw [lookH_cons] at hn
      split at hn
      · rename_i h0
        cases hn; subst h0
        obtain ⟨⟨⟨_, q1⟩, _⟩, q2⟩ := S.ob j b _ hk
        exact ⟨q1, q2⟩
      · exact S.ob j b' o hn
    · obtain ⟨on, hn'⟩ := old hn
      obtain ⟨om, hm'⟩ := old hm
      exact S.dj j _ j' _ _ hn' hm' hne⟩
theorem dpc_one (V : DV) : ∀ u ∈ dpc V, u.oneCell' = true := by
  intro u hu
  obtain ⟨l, hl, hu⟩ := List.mem_flatten.1 hu
  obtain ⟨p, _, rfl⟩ := List.mem_map.1 hl
  simp only [depC, List.mem_cons, List.not_mem_nil, or_false] at hu
  rcases hu with rfl | rfl | rfl | rfl | rfl | rfl <;> rfl
section
variable {H : HL} {nx d l q m b k : Nat} {b1 b2 b3 b4 : Bool} {V : DV} {W : WL} {R : List Ch} {last : Int}
theorem clone0 : FnH Try.prog 18 [.c .nsl] H nx ⟨.t (.c (.nm nx)), [(true, .own 53 6 0 [])], [], []⟩ := by
  refine fnN (fn := Try.f18) 8 rfl rfl rfl (args' := [.c .nsl]) (H' := [(0, none)]) (nx' := 1) (fun e w M => ⟨e, memD_void e w, rfl⟩) rfl rfl rfl (inR_one _) rfl fun w => ?_
  refine rn [] rfl (by repeat' (first | exact trivial | exact rfl | refine And.intro ?_ ?_)) ?_
  refine ⟨fun _ => ?_, fun h => (by cases h)⟩
  refine rn [] rfl (by repeat' (first | exact trivial | exact rfl | refine And.intro ?_ ?_)) ?_
  refine Done.nil 2 53 6 rfl ?_
  exact retN tysOk [(nx, 1)] rfl (by simp only [retS, SV.eqs, eqsT, TV.eqs, CV.eqs, ren_one]; repeat' (first | exact trivial | exact rfl | refine And.intro ?_ ?_)) (by simp only [newsH, subH, ren_one]; repeat' (first | exact trivial | exact rfl | refine And.intro ?_ ?_)) (by simp [injK, keysH, newsH, inL]) rfl
theorem cloneN (hk : lookH H k = some (b1, .ab (ownN 53 6 V.length (dpc V)))) (z : V.length ≤ 1000000) : FnH Try.prog 18 [.c (.nm k)] H nx ⟨.t (.c (.nm nx)), [(true, .own 53 6 V.length (dpc V))], [], []⟩ := by
  refine fnN (fn := Try.f18) 8 rfl rfl rfl (args' := [.c (.nm 0)]) (H' := [(0, some (false, .ab (ownN 53 6 V.length (dpc V))))]) (nx' := 1) (fun e w M => ⟨_, mem_one hk M (by repeat' (first | exact trivial | exact rfl | refine And.intro ?_ ?_)), rfl⟩) rfl rfl rfl (inR_one _) rfl fun w => ?_
  have m1 : 0 + V.length ≤ maxLen := by simp [maxLen]; omega
  have m2 : (0 + V.length) * 72 ≤ 140737488355328 := by omega
  refine rn [(4, .spec ⟨.t (.c (.b false)), [], [], []⟩)] rfl (by (repeat' (first | exact trivial | exact rfl | exact trivial | exact fun _ => trivial | first | exact spec_nnilN tysOk rfl rfl rfl rfl rfl rfl | decide | refine And.intro ?_ ?_))) ?_
  refine ⟨fun h => (by cases h), fun _ => ?_⟩
  refine At.ownN (k := 0) rfl ?_
  refine rn [(5, .dec true)] rfl (by (repeat' (first | exact trivial | exact rfl | exact trivial | exact fun _ => trivial | first | exact m1 | exact m2 | exact dpc_one V | decide | refine And.intro ?_ ?_))) ?_
  exact retN tysOk [(nx, 2)] rfl (by simp only [retS, SV.eqs, eqsT, TV.eqs, CV.eqs, ren_one]; repeat' (first | exact trivial | exact rfl | refine And.intro ?_ ?_)) (by simp only [newsH, subH, ren_one]; (repeat' (first | exact trivial | exact rfl | exact trivial | exact fun _ => trivial | first | omega | rfl | refine And.intro ?_ ?_))) (by simp [injK, keysH, newsH, inL]) rfl
theorem cloneC_h (hk : lookH H k = some (b1, .own 53 6 V.length (dpc V))) (z : V.length ≤ 1000000) : FnH Try.prog 18 [.c (.nm k)] H nx ⟨.t (.c (.nm nx)), [(true, .own 53 6 V.length (dpc V))], [], []⟩ := by
  refine ⟨fun hwf ha e w M => ?_⟩
  obtain ⟨hown, hlt⟩ := M.ob k b1 _ hk
  rcases hown.1.2 with ⟨h0, h1⟩ | ⟨g, cap, cur, h1, h2⟩
  · have hV : V = [] := by
      refine List.length_eq_zero_iff.1 ?_
      omega
    subst hV
    have := (clone0 (H := H) (nx := nx)).h hwf (fun v hv n hn => by simp at hv; subst hv; simp [TV.ns, CV.ns] at hn) e w M
    have he : [(TV.c (.nm k))].map (TV.den e) = [(TV.c .nsl)].map (TV.den e) := by
      show [e.val k] = [Value.slice none 0 0]
      rw [h0]
    rw [he]
    exact this
  · have old : ∀ {j : Nat} {z : Bool × Ob}, lookH ((k, some (b1, .ab (ownN 53 6 V.length (dpc V)))) :: H) j = some z → ∃ o, lookH H j = some (z.1, o) := by
      intro j z hz
      rw [lookH_cons] at hz
      split at hz
      · rename_i h0; cases hz; subst h0; exact ⟨_, hk⟩
      · exact ⟨z.2, hz⟩
    have hwf' : ∀ n x, lookH ((k, some (b1, .ab (ownN 53 6 V.length (dpc V)))) :: H) n = some x → n < nx ∧ ∀ m ∈ x.2.ns, m < nx := fun n x hx => by
      rw [lookH_cons] at hx
      split at hx
      · rename_i h0
        cases hx; subst h0
        exact ⟨(hwf n _ hk).1, fun m hm => by simp [Ob.ns] at hm⟩
      · exact hwf n x hx
    refine (cloneN (H := (k, some (b1, .ab (ownN 53 6 V.length (dpc V)))) :: H) (nx := nx) (V := V) (b1 := b1) look_eq z).h hwf' ha e w ⟨fun j b' o hn => ?_, fun j o j' b' o' hn hm hne => ?_⟩
    · rw [lookH_cons] at hn
      split at hn
      · rename_i h0
        cases hn; subst h0
        exact ⟨⟨⟨⟨_, _, h1⟩, hown⟩, ownN_stable⟩, hlt⟩
      · exact M.ob j b' o hn
    · obtain ⟨on, hn'⟩ := old hn
      obtain ⟨om, hm'⟩ := old hm
      exact M.dj j _ j' _ _ hn' hm' hne
theorem forkD (hd : lookH H d = some (true, .ab (depP V last b))) (z : V.length ≤ 1000000) : FnH Try.prog 6 [.c (.nm d)] H nx ⟨.t (.c (.nm nx)), [(true, .ab (depX V last))], [(d, some (.ab (depP V last b)))], []⟩ := by
  refine fnA (fn := Try.f6) 14 rfl rfl rfl hd (ptr b) (dep_pins _ _ _) (dep_pins _ _ _) rfl rfl rfl (v' := .t (.c (.nm 1))) (news' := [(true, .ab (depX V last))]) rfl rfl rfl rfl fun w Wr => ?_
  refine At.unfoldTo 0 (L1 := [(0, .t (.c (.p 1 0)))]) (H1 := [(1, some (true, .cells [.nm 2, iT last] 47)), (2, some (true, .own 53 6 V.length (dpc V))), (3, some (false, .pin 1 b)), (0, none), (0, some (true, .ab (depP V last b)))]) (nx1 := 4) rfl rfl rfl rfl rfl rfl ?_
  refine rn [(7, .spec ⟨.t (.c (.nm 4)), [(true, .own 53 6 V.length (dpc V))], [], []⟩)] rfl (by (repeat' (first | exact trivial | exact rfl | exact trivial | exact fun _ => trivial | first | exact cloneC_h rfl z | decide | refine And.intro ?_ ?_))) ?_
  refine Done.pin 5 rfl fun b' => ?_
  refine Done.fold [(0, 1), (1, 2), (2, 3)] (depO V last b) (.p 0 0) (by repeat' (first | exact trivial | exact rfl | refine And.intro ?_ ?_)) rfl rfl (fun _ => rfl) ?_
  refine Done.foldR 2 (.p 5 0) [(0, 5), (1, 4), (2, 6)] (depO V last b') (.p 0 0) rfl (by repeat' (first | exact trivial | exact rfl | refine And.intro ?_ ?_)) (by repeat' (first | exact trivial | exact rfl | refine And.intro ?_ ?_)) rfl rfl (fun _ => rfl) ?_
  refine Done.weak 8 (φ' := depX V last) rfl (exP_stable fun b => absP_stable _ _) (fun v F w h => ⟨b', h⟩) ?_
  exact retM tysOk [(0, 7), (1, 8)] rfl (by repeat' (first | exact trivial | exact rfl | refine And.intro ?_ ?_)) (by repeat' (first | exact trivial | exact rfl | refine And.intro ?_ ?_)) rfl rfl
end
end Cw
namespace Vc
open Go Go.RowKit
/-- A slice of integers, told of its value. -/
def rawP (v : Value) (xs : List Value) : AbP := fun _ F w => ∃ A n c, v = .slice A n c ∧ Rds w A n c 1 xs ∧ ∀ a, A = some a → 0 < xs.length → F a.block
theorem rawP_stable {v : Value} {xs : List Value} : stable (rawP v xs) := by
  rintro _ F w w' ⟨A, n, c, h1, h2, h3⟩ hk
  exact ⟨A, n, c, h1, h2.stays fun a ha h0 => hk _ (h3 a ha h0), h3⟩
section
variable {P : Program} {F : Frm} {Q : Exit → Act → World → Prop} {c : Code} {ks : List KI} {L : LL} {H : HL} {nx : Nat}
/-- What is told of something that may be read, told besides of a part of it. -/
theorem At.derive {φ φ' : AbP} (d : Nat) (hd : lookH H d = some (false, .ab φ)) (hs : stable φ') (hp : ∀ v F w, φ v F w → φ' uv F w) (h : At P F Q c ks L ((nx, some (false, .ab φ')) :: H) (nx + 1)) : At P F Q c ks L H nx :=
  ⟨fun hW e a w S => by
    obtain ⟨⟨h1, _⟩, h2⟩ := S.ob d false _ hd
    obtain ⟨hW', S'⟩ := S.newF hW (.ab φ') 0 uv (e.fp d) (fun m hm => by simp [Ob.ns] at hm) ⟨by rw [Env.put3_fp, Env.put3_val e rfl]; exact hp _ _ _ h1, hs⟩ (fun g hg => ⟨(h2 g hg).1, fun n o' hn hg' => by
      by_cases hne : n = d
      · subst hne
        rw [hd] at hn
        cases hn
      · exact S.dj n o' d _ _ hn hd hne g hg' hg⟩)
    exact h.h hW' _ a w S'⟩
/-- A slice's value gets a name. -/
theorem At.rawL {v : Value} {n : Nat} {xs : List Value} {tv tv' : TV} (t q : Nat) (hq : lookH H q = some (false, .ab (rawP v xs))) (hn : ∀ A m k, v = .slice A m k → m = n) (hl : look t L = some (.t tv)) (htv : ∀ e : Env, e.val nx = v → (∀ m, m < nx → True) → tv'.den e = tv.den e) (hbr : tv.ns = []) (hns : ∀ m ∈ tv'.ns, m < nx + 1)
    (h : At P F Q c ks ((t, .t tv') :: L) ((nx, some (false, .rd 1 n xs)) :: H) (nx + 1)) : At P F Q c ks L H nx :=
  ⟨fun hW e a w S => by
    obtain ⟨⟨⟨A, m, k, h1, h2, h3⟩, _⟩, h4⟩ := S.ob q false _ hq
    have hm := hn A m k h1
    subst hm
    have hone : v.oneCell' = true := by rw [h1]; rfl
    obtain ⟨hW', S'⟩ := S.newF hW (.rd 1 m xs) 0 v (e.fp q) (fun m hm => by simp [Ob.ns] at hm) ⟨A, k, by rw [Env.put3_val e hone, h1], h2, fun a ha h0 => by rw [Env.put3_fp]; exact h3 a ha h0⟩ (fun g hg => ⟨(h4 g hg).1, fun j o' hj hg' => by
      by_cases hne : j = q
      · subst hne
        rw [hq] at hj
        cases hj
      · exact S.dj j o' q _ _ hj hq hne g hg' hg⟩)
    refine h.h ⟨fun t' v' hv j hj => ?_, hW'.h⟩ _ a w ⟨S'.fr, S'.sz, S'.df, fun t' v' hv => ?_, S'.ob, S'.dj⟩
    · rw [look_cons] at hv
      split at hv
      · cases hv
        exact hns j hj
      · exact hW'.l t' v' hv j hj
    · rw [look_cons] at hv
      split at hv
      · rename_i ht
        cases hv
        subst ht
        rw [S.sl _ _ hl]
        show tv.den e = tv'.den _
        rw [htv _ (Env.put3_val e hone) (fun _ _ => trivial)]
        exact TV.den_same fun j hj => by rw [hbr] at hj; cases hj
      · exact S'.sl t' v' hv⟩
end
end Vc
namespace Cw
open Go Vc
open Go.Proofs
set_option maxRecDepth 100000
theorem emod_nat (x : Int) {n : Nat} (h : 0 < n) : ∃ k : Nat, k < n ∧ x % (n : Int) = (k : Int) := by
  have h1 := Int.emod_nonneg x (show (n : Int) ≠ 0 by omega)
  have h2 := Int.emod_lt_of_pos x (show (0 : Int) < n by omega)
  exact ⟨(x % (n : Int)).toNat, by omega, by omega⟩
/-- A call. -/
structure DAct where
  kind : Int
  at' : Int
  off : Int
  by' : ByteArray
  ah : List Int
  aA : Option Addr
  am : Nat
def DAct.cv (a : DAct) : List CV := [iT a.kind, iT a.at', iT a.off, .s a.by', .raw (.slice a.aA a.ah.length a.am)]
/-- What a call makes of all changes. -/
def stepD (R : List Ch) (a : DAct) : List Ch := match (a.kind % 4).toNat with
  | 0 => adR R (und R).length a.at' a.off a.by' a.ah
  | 1 => sdR R a.at'
  | 2 => setK a.at' 0 R
  | _ => setK a.at' 1 R
section
variable {H : HL} {nx d r q s m b b' cp : Nat} {A : Option Addr} {b1 b2 b3 : Bool} {V VR : DV} {W : WL} {R : List Ch}
theorem DR.app {V : DV} {W : WL} {R : List Ch} (h : DR V W R) : DR V (W ++ []) R := by rw [List.append_nil]; exact h
theorem dS {n : Nat} {R R' : List Ch} {V : DV} {b : Nat} (h : R'.length = n) : depP V (n : Int) b = depP V (R'.length : Nat) b := by rw [h]
set_option maxRecDepth 100000 in
set_option maxHeartbeats 8000000 in
theorem dpstep_h {a : DAct} (hd : lookH H d = some (true, .ab (depP V R.length b))) (hr : lookH H r = some (true, .ab (rfP A VR.length cp b'))) (hq : lookH H q = some (b1, .ab (frzP W))) (hs : lookH H s = some (b2, .ab (rawS 5 (.slice A VR.length cp) (rdc VR)))) (hm : lookH H m = some (b3, .ab (rawP (.slice a.aA a.ah.length a.am) (ivs a.ah))))
    (hn : inL r [d] = false) (hqn : inL q [d, r] = false) (hsn : inL s [d, r] = false) (hmn : inL m [d, r] = false) (hD : DR V W R) (hR : RR VR W R) (zr : R.length ≤ 500) (zt : a.by'.size ≤ 9223372036854775807) (za : a.ah.length ≤ 17592186043904) :
    FnH Try.prog 7 [.c (.nm d), .c (.nm r), .agg a.cv] H nx ⟨.t (.c (.b true)), [], [(d, some (.ab (depT W (stepD R a) b))), (r, some (.ab (refT W VR A cp (stepD R a) b')))], []⟩ := by
  refine fnAs (fn := Try.f7) 132 rfl rfl rfl (args' := [.c (.nm 0), .c (.nm 1), .agg a.cv]) [(d, depP V R.length b, depT W (stepD R a) b), (r, rfP A VR.length cp b', refT W VR A cp (stepD R a) b')] [(q, .ab (frzP W)), (s, .ab (rawS 5 (.slice A VR.length cp) (rdc VR))), (m, .ab (rawP (.slice a.aA a.ah.length a.am) (ivs a.ah)))]
    ⟨⟨hd, ptr b, dep_pins _ _ _, depT_pins _ _ _⟩, ⟨hr, ptr b', rf_pins _ _ _ _, refT_pins _ _ _ _ _ _⟩, trivial⟩ ⟨⟨⟨_, hq⟩, fun _ => rfl, hqn⟩, ⟨⟨_, hs⟩, fun _ => rfl, hsn⟩, ⟨⟨_, hm⟩, fun _ => rfl, hmn⟩, trivial⟩ (by
      have := inL_iff hn
      simp at this ⊢
      exact fun h => this h.symm) rfl rfl rfl rfl (v' := .t (.c (.b true))) (news' := []) rfl rfl rfl rfl rfl fun w Wr => ?_
  show At _ _ _ _ _ _ [(0, some (true, .ab (depP V R.length b))), (1, some (true, .ab (rfP A VR.length cp b'))), (2, some (false, .ab (frzP W))), (3, some (false, .ab (rawS 5 (.slice A VR.length cp) (rdc VR)))), (4, some (false, .ab (rawP (.slice a.aA a.ah.length a.am) (ivs a.ah))))] 5
  refine At.rawL (v := .slice a.aA a.ah.length a.am) (n := a.ah.length) (tv := .agg a.cv) (tv' := .agg [iT a.kind, iT a.at', iT a.off, .s a.by', .nm 5]) 2 4 rfl (fun A m k h => by cases h; rfl) rfl (fun e he _ => by simp only [TV.den, DAct.cv, List.map_cons, List.map_nil, CV.den, he]) rfl (by simp [TV.ns, CV.ns, flatN]) ?_
  have am4 := amV a.kind 4 (by decide) (by decide)
  obtain ⟨kd, hkd, hke⟩ := emod_nat a.kind (n := 4) (by decide)
  rw [show ((4 : Nat) : Int) = 4 from rfl] at hke
  have hst : (a.kind % 4).toNat = kd := by omega
  rw [hke] at am4
  have hVl := hD.len
  have hVz := hD.le
  have hlend := fun (H : HL) (nx : Nat) (h5 : lookH H 5 = some (false, .rd 1 a.ah.length (ivs a.ah))) => lendI_h (nx := nx) (SlR.rd h5) (by omega)
  have hkept := fun (H : HL) (nx : Nat) (h7 : lookH H 7 = some (true, .own 3 1 (a.ah.length + 1) (ivs (a.ah ++ [-77])))) (h5 : lookH H 5 = some (false, .rd 1 a.ah.length (ivs a.ah))) => keptI_h (nx := nx) h7 (SlR.rd h5) (by omega)
  have hspoil := fun (H : HL) (nx : Nat) (h7 : lookH H 7 = some (true, .own 3 1 (a.ah.length + 1) (ivs (a.ah ++ [-77])))) => spoilS_h (k := 7) (n := a.ah.length) (l := a.ah ++ [-77]) (nx := nx) (by rw [h7]; simp) (by simp) (by simp; omega)
  unfold stepD
  rw [hst]
  rcases kd with _ | _ | _ | _ | kd
  · have hradd := fun (H : HL) (nx : Nat) (h1 : lookH H 1 = some (true, .ab (rfP A VR.length cp b'))) (h2 : lookH H 2 = some (false, .ab (frzP W))) (h3 : lookH H 3 = some (false, .ab (rawS 5 (.slice A VR.length cp) (rdc VR)))) (h5 : lookH H 5 = some (false, .rd 1 a.ah.length (ivs a.ah))) => raddA (nx := nx) (at' := a.at') (o := a.off) (t := a.by') h1 h3 h2 h5 rfl rfl rfl hR (by omega) (by omega)
    have htk : (ivs (a.ah ++ [-77])).take (a.ah.length * 1) = ivs a.ah := by simp [ivs]
    by_cases he : adB R.length a.at' a.off a.by' (und R).length a.ah = 0
    · have e1 : adR R (und R).length a.at' a.off a.by' a.ah = R ++ [newC (und R) R.length a.at' (a.off, a.by') a.ah] := if_pos he
      have e2 : adN R (und R).length a.at' a.off a.by' a.ah = (R.length : Int) + 1 := if_pos he
      have hadd := fun (H : HL) (nx : Nat) (h0 : lookH H 0 = some (true, .ab (depP V R.length b))) (h7 : lookH H 7 = some (true, .own 3 1 (a.ah.length + 1) (ivs (a.ah ++ [-77])))) => addP (nx := nx) (at' := a.at') (o := a.off) (t := a.by') h0 (SlQ.sub h7 (Nat.le_succ _) htk h0 (by decide)) (by omega) zt hD (by rw [hVl]; exact he)
      rw [e1]
      rw [e1, e2, he] at hradd
      have x1 : (((R.length : Int) + 1) == ((R.length : Int) + 1)) = true := beq_self_eq_true _
      refine rn [(26, .ret (.t (.c (iT ((0 : Nat) : Int))))), (27, .dec true), (31, .spec ⟨.t (.c (.sub 7 0 0 a.ah.length)), [(true, .own 3 1 (a.ah.length + 1) (ivs (a.ah ++ [-77])))], [], []⟩),
        (39, .spec ⟨.tup [.c (iT ((R.length : Int) + 1)), .c (iT 0)], [], [(0, some (.ab (adP V R.length b (newC (und R) R.length a.at' (a.off, a.by') a.ah))))], []⟩), (50, .spec ⟨.tup [.c (iT ((R.length : Int) + 1)), .c (iT 0)], [], [(1, some (.ab (refT W VR A cp (R ++ [newC (und R) R.length a.at' (a.off, a.by') a.ah]) b')))], []⟩), (56, .spec ⟨.t (.c (.b true)), [], [], []⟩), (58, .spec ⟨.tup [], [], [(7, none)], []⟩), (60, .dec true), (65, .dec true)] rfl
        (by (repeat' (first | exact trivial | exact rfl | exact am4 | exact fun _ => am4 | first | exact hlend _ _ rfl | exact hadd _ _ rfl rfl | exact hradd _ _ rfl rfl rfl rfl | exact hkept _ _ rfl rfl | exact hspoil _ _ rfl | exact x1 | (rw [x1]; rfl) | decide | refine And.intro ?_ ?_))) ?_
      refine Done.weak 0 (φ' := depT W (R ++ [newC (und R) R.length a.at' (a.off, a.by') a.ah]) b) rfl (depT_st _ _ _) (depT_new fun v => by
        have := hD.add (by rw [hVl]; exact he) (by omega) zt (by omega) v
        rw [hD.eq] at this
        exact this) ?_
      exact retM tysOk [] rfl (by (repeat' (first | exact trivial | exact rfl | exact x1 | exact fun _ => x1 | rfl | refine And.intro ?_ ?_))) (by repeat' (first | exact trivial | exact rfl | refine And.intro ?_ ?_)) rfl rfl
    · have e1 : adR R (und R).length a.at' a.off a.by' a.ah = R := if_neg he
      have e2 : adN R (und R).length a.at' a.off a.by' a.ah = 0 := if_neg he
      have hadd := fun (H : HL) (nx : Nat) (h0 : lookH H 0 = some (true, .ab (depP V R.length b))) (h7 : lookH H 7 = some (true, .own 3 1 (a.ah.length + 1) (ivs (a.ah ++ [-77])))) => addNoP (nx := nx) (at' := a.at') (o := a.off) (t := a.by') h0 (SlQ.sub h7 (Nat.le_succ _) htk h0 (by decide)) (by omega) zt hD (by rw [hVl]; exact he)
      rw [hVl] at hadd
      rw [e1]
      rw [e1, e2] at hradd
      generalize adB R.length a.at' a.off a.by' (und R).length a.ah = ec at *
      have x1 : (ec == ec) = true := beq_self_eq_true _
      refine rn [(26, .ret (.t (.c (iT ((0 : Nat) : Int))))), (27, .dec true), (31, .spec ⟨.t (.c (.sub 7 0 0 a.ah.length)), [(true, .own 3 1 (a.ah.length + 1) (ivs (a.ah ++ [-77])))], [], []⟩),
        (39, .spec ⟨.tup [.c (iT 0), .c (iT ec)], [], [(0, some (.ab (depP V R.length b)))], []⟩), (50, .spec ⟨.tup [.c (iT 0), .c (iT ec)], [], [(1, some (.ab (refT W VR A cp R b')))], []⟩), (56, .spec ⟨.t (.c (.b true)), [], [], []⟩), (58, .spec ⟨.tup [], [], [(7, none)], []⟩), (60, .dec true), (65, .dec true)] rfl
        (by (repeat' (first | exact trivial | exact rfl | exact am4 | exact fun _ => am4 | first | exact hlend _ _ rfl | exact hadd _ _ rfl rfl | exact hradd _ _ rfl rfl rfl rfl | exact hkept _ _ rfl rfl | exact hspoil _ _ rfl | exact x1 | (rw [x1]; rfl) | decide | refine And.intro ?_ ?_))) ?_
      refine Done.weak 0 (φ' := depT W R b) rfl (depT_st _ _ _) (depT_old hD) ?_
      exact retM tysOk [] rfl (by (repeat' (first | exact trivial | exact rfl | exact x1 | exact fun _ => x1 | rfl | refine And.intro ?_ ?_))) (by repeat' (first | exact trivial | exact rfl | refine And.intro ?_ ?_)) rfl rfl
  · have hP := fun (H : HL) (nx : Nat) (h0 : lookH H 0 = some (true, .ab (depP V R.length b))) (h2 : lookH H 2 = some (false, .ab (frzP W))) => sendP (nx := nx) h0 h2 (by decide) hD a.at'
    have hQ := fun (H : HL) (nx : Nat) (h1 : lookH H 1 = some (true, .ab (rfP A VR.length cp b'))) (h2 : lookH H 2 = some (false, .ab (frzP W))) (h3 : lookH H 3 = some (false, .ab (rawS 5 (.slice A VR.length cp) (rdc VR)))) => rsendA (nx := nx) h1 h3 h2 rfl rfl hR a.at'
    have hDS := hD.send a.at'
    have hll : (sdL' R a.at').length ≤ 1000 := by
      rw [sdL']
      split
      · exact Nat.le_trans (rdyN_le R a.at') (by omega)
      · simp
    have hlR : (sdR R a.at').length = R.length := by
      rw [sdR]
      split
      · exact setN_len _ _ _
      · rfl
    rw [show depP (sdV V a.at') R.length b = depP (sdV V a.at') (sdR R a.at').length b by rw [hlR]] at hP
    generalize sdL' R a.at' = ll at *
    generalize sdE' R a.at' = ec at *
    generalize sdR R a.at' = R' at *
    have x1 : (ec == ec) = true := beq_self_eq_true _
    have g1 : decide (ll = ll) = true := decide_eq_true rfl
    refine rn [(26, .ret (.t (.c (iT ((1 : Nat) : Int))))), (27, .dec false), (70, .dec true), (76, .spec ⟨.tup [.c (.nm 7), .c (iT ec)], [(true, .own 3 1 ll.length (ivs ll))], [(0, some (.ab (depP (sdV V a.at') R'.length b)))], []⟩), (83, .spec ⟨.tup [.c (.nm 8), .c (iT ec)], [(true, .own 3 1 ll.length (ivs ll))], [(1, some (.ab (refT W VR A cp R' b')))], []⟩), (88, .spec ⟨.t (.c (.b (decide (ll = ll)))), [], [], []⟩), (89, .dec true)] rfl
      (by (repeat' (first | exact trivial | exact rfl | exact am4 | exact fun _ => am4 | first | exact hP _ _ rfl rfl | exact hQ _ _ rfl rfl rfl | exact sameInts_h (SlR.own rfl) (SlR.own rfl) (by omega) | exact g1 | (rw [g1]; rfl) | decide | refine And.intro ?_ ?_))) ?_
    refine Done.weak 0 (φ' := depT W R' b) rfl (depT_st _ _ _) (depT_old hDS) ?_
    exact retM tysOk [] rfl (by (repeat' (first | exact trivial | exact rfl | exact x1 | exact fun _ => x1 | rfl | refine And.intro ?_ ?_))) (by repeat' (first | exact trivial | exact rfl | refine And.intro ?_ ?_)) rfl rfl
  · have hP := fun (H : HL) (nx : Nat) (h0 : lookH H 0 = some (true, .ab (depP V R.length b))) => doneP (nx := nx) h0 hD a.at'
    have hQ := fun (H : HL) (nx : Nat) (h1 : lookH H 1 = some (true, .ab (rfP A VR.length cp b'))) (h2 : lookH H 2 = some (false, .ab (frzP W))) (h3 : lookH H 3 = some (false, .ab (rawS 5 (.slice A VR.length cp) (rdc VR)))) => rendA (nx := nx) h1 h3 h2 rfl rfl hR a.at' 0 (hR.dep.done a.at')
    have hDS := hD.done a.at'
    have hll : (ofN R a.at' 2).length ≤ 1000 := by
      rw [← rof_fly]
      exact Nat.le_trans (rof_le R a.at' 2) (by omega)
    have hlR : (setK a.at' 0 R).length = R.length := setK_len _ _ _
    rw [show depP (dnV V a.at') R.length b = depP (dnV V a.at') (setK a.at' 0 R).length b by rw [hlR]] at hP
    generalize ofN R a.at' 2 = ll at *
    generalize dnE' R a.at' = ec at *
    generalize setK a.at' 0 R = R' at *
    have x1 : (ec == ec) = true := beq_self_eq_true _
    have g1 : decide (ll = ll) = true := decide_eq_true rfl
    refine rn [(26, .ret (.t (.c (iT ((2 : Nat) : Int))))), (27, .dec false), (70, .dec false), (94, .dec true), (100, .spec ⟨.tup [.c (.nm 7), .c (iT ec)], [(true, .own 3 1 ll.length (ivs ll))], [(0, some (.ab (depP (dnV V a.at') R'.length b)))], []⟩), (107, .spec ⟨.tup [.c (.nm 8), .c (iT ec)], [(true, .own 3 1 ll.length (ivs ll))], [(1, some (.ab (refT W VR A cp R' b')))], []⟩), (112, .spec ⟨.t (.c (.b (decide (ll = ll)))), [], [], []⟩), (113, .dec true)] rfl
      (by (repeat' (first | exact trivial | exact rfl | exact am4 | exact fun _ => am4 | first | exact hP _ _ rfl | exact hQ _ _ rfl rfl rfl | exact sameInts_h (SlR.own rfl) (SlR.own rfl) (by omega) | exact g1 | (rw [g1]; rfl) | decide | refine And.intro ?_ ?_))) ?_
    refine Done.weak 0 (φ' := depT W R' b) rfl (depT_st _ _ _) (depT_old hDS) ?_
    exact retM tysOk [] rfl (by (repeat' (first | exact trivial | exact rfl | exact x1 | exact fun _ => x1 | rfl | refine And.intro ?_ ?_))) (by repeat' (first | exact trivial | exact rfl | refine And.intro ?_ ?_)) rfl rfl
  · have hP := fun (H : HL) (nx : Nat) (h0 : lookH H 0 = some (true, .ab (depP V R.length b))) => lostP (nx := nx) h0 hD a.at'
    have hQ := fun (H : HL) (nx : Nat) (h1 : lookH H 1 = some (true, .ab (rfP A VR.length cp b'))) (h2 : lookH H 2 = some (false, .ab (frzP W))) (h3 : lookH H 3 = some (false, .ab (rawS 5 (.slice A VR.length cp) (rdc VR)))) => rendA (nx := nx) h1 h3 h2 rfl rfl hR a.at' 1 (hR.dep.lost a.at')
    have hDS := hD.lost a.at'
    have hlR : (setK a.at' 1 R).length = R.length := setK_len _ _ _
    rw [show depP (setP V (ofI (chs V) a.at' 2) 1) R.length b = depP (setP V (ofI (chs V) a.at' 2) 1) (setK a.at' 1 R).length b by rw [hlR]] at hP
    generalize ofN R a.at' 2 = ll at *
    generalize dnE' R a.at' = ec at *
    generalize setK a.at' 1 R = R' at *
    have x1 : (ec == ec) = true := beq_self_eq_true _
    refine rn [(26, .ret (.t (.c (iT ((3 : Nat) : Int))))), (27, .dec false), (70, .dec false), (94, .dec false), (121, .spec ⟨.t (.c (iT ec)), [], [(0, some (.ab (depP (setP V (ofI (chs V) a.at' 2) 1) R'.length b)))], []⟩), (126, .spec ⟨.tup [.c (.nm 7), .c (iT ec)], [(true, .own 3 1 ll.length (ivs ll))], [(1, some (.ab (refT W VR A cp R' b')))], []⟩)] rfl
      (by (repeat' (first | exact trivial | exact rfl | exact am4 | exact fun _ => am4 | first | exact hP _ _ rfl | exact hQ _ _ rfl rfl rfl | decide | refine And.intro ?_ ?_))) ?_
    refine Done.weak 0 (φ' := depT W R' b) rfl (depT_st _ _ _) (depT_old hDS) ?_
    exact retM tysOk [] rfl (by (repeat' (first | exact trivial | exact rfl | exact x1 | exact fun _ => x1 | rfl | refine And.intro ?_ ?_))) (by repeat' (first | exact trivial | exact rfl | refine And.intro ?_ ?_)) rfl rfl
  · omega
end
end Cw
namespace Cw
open Go Vc
open Go.Proofs
set_option maxRecDepth 100000
abbrev txD : ByteArray := ⟨#[115, 111, 109, 101, 32, 98, 121, 116, 101, 115, 32, 116, 104, 97, 116, 32, 115, 116, 97, 110, 100, 32, 116, 104, 101, 114, 101]⟩
theorem sbs (s : ByteArray) : (s.toList == s.toList) = true := beq_self_eq_true _
theorem left_two (L : List Ch) (k : Int) : leftA L [k, 3, k] = leftA L [k, 3] := by
  have h : ∀ j, leftT L [k, 3, k] j = leftT L [k, 3] j := by
    intro j
    induction j with
    | zero => rfl
    | succ j ih =>
      unfold leftT
      cases L[j]? with
      | none => exact ih
      | some c =>
        have e : decide (c.at' ∈ [k, 3, k]) = decide (c.at' ∈ [k, 3]) := by
          rw [decide_eq_decide]
          simp only [List.mem_cons, List.not_mem_nil, or_false]
          exact ⟨fun h => h.elim .inl fun h => h.elim .inr .inl, fun h => h.elim .inl fun h => .inr (.inl h)⟩
        simp only [e, ih]
  show leftT L _ _ = leftT L _ _
  exact h _
theorem left_nil (L : List Ch) : leftA L [] = L.length := rfl
section
variable {H : HL} {nx d r q s b b' cp : Nat} {A : Option Addr} {b1 b2 b3 b4 : Bool} {VR : DV} {W : WL} {R : List Ch}
def hSm (W : WL) (VR : DV) (A : Option Addr) (cp : Nat) (R : List Ch) (b b' : Nat) : HL := [(0, some (false, .ab (depT W R b))), (1, some (false, .ab (refT W VR A cp R b'))), (2, some (false, .ab (frzP W))), (3, some (false, .ab (rawS 5 (.slice A VR.length cp) (rdc VR))))]
set_option maxRecDepth 100000 in
set_option maxHeartbeats 8000000 in
theorem dpsame_h (hd : lookH H d = some (b1, .ab (depT W R b))) (hr : lookH H r = some (b2, .ab (refT W VR A cp R b'))) (hq : lookH H q = some (b3, .ab (frzP W))) (hs : lookH H s = some (b4, .ab (rawS 5 (.slice A VR.length cp) (rdc VR)))) (zr : R.length ≤ 1000) (k : Int) :
    FnH Try.prog 9 [.c (.nm d), .c (.nm r), .c (iT k)] H nx ⟨.t (.c (.b true)), [], [], []⟩ := by
  refine fnR (fn := Try.f9) 111 rfl rfl rfl (args' := [.c (.nm 0), .c (.nm 1), .c (iT k)]) (H' := hSm W VR A cp R b b') (nx' := 4) (fun e w M => ⟨_, mem_rd (r4p d r q s) (H' := hSm W VR A cp R b b') ⟨⟨b1, hd⟩, ⟨b2, hr⟩, ⟨b3, hq⟩, ⟨b4, hs⟩, trivial⟩ M, rfl⟩) rfl rfl rfl rfl fun w => ?_
  refine At.openD (W := W) (R := R) (b := b) 0 0 2 rfl rfl rfl fun V1 W1 h1 => ?_
  refine At.openR (W := W) (V := VR) (A := A) (cp := cp) (R := R) (b := b') 1 1 2 3 rfl rfl rfl rfl fun V2 W2 h2 => ?_
  show At _ _ _ _ _ [(1, .t (.c (.p 7 0))), (0, .t (.c (.p 4 0))), (0, .t (.c (.nm 0))), (1, .t (.c (.nm 1))), (2, .t (.c (iT k)))] [(7, some (false, .cells [.nm 8] 28)), (8, some (false, .rd 5 V2.length (rdc V2))), (9, some (false, .ab (frzP W2))), (4, some (false, .cells [.nm 5, iT R.length] 47)), (5, some (false, .own 53 6 V1.length (dpc V1))), (6, some (false, .ab (frzP W1))), (0, some (false, .ab (depT W R b))), (1, some (false, .ab (refT W VR A cp R b'))), (2, some (false, .ab (frzP W))), (3, some (false, .ab (rawS 5 (.slice A VR.length cp) (rdc VR))))] 10
  have hft := fit0 txD (by decide)
  have hfz : (fit txD).size = 64 := fit_size _
  generalize fit txD = t at *
  have hVl := h1.len
  have hVz := h1.le
  have zt : t.size ≤ 9223372036854775807 := by omega
  have p1 := fun (H : HL) (nx : Nat) (q0 : lookH H 4 = some (false, .cells [.nm 5, iT R.length] 47)) (q1 : lookH H 5 = some (false, .own 53 6 V1.length (dpc V1))) (q2 : lookH H 6 = some (false, .ab (frzP W1))) => ImageU (nx := nx) q0 q1 q2 h1.sub h1.ok k t zt
  have p2 := fun (H : HL) (nx : Nat) (q0 : lookH H 7 = some (false, .cells [.nm 8] 28)) (q1 : lookH H 8 = some (false, .rd 5 V2.length (rdc V2))) (q2 : lookH H 9 = some (false, .ab (frzP W2))) => rimageU (nx := nx) q0 q1 q2 h2 zr k t
  have p3 := fun (H : HL) (nx : Nat) (q0 : lookH H 4 = some (false, .cells [.nm 5, iT R.length] 47)) (q1 : lookH H 5 = some (false, .own 53 6 V1.length (dpc V1))) => ViewU (nx := nx) q0 q1 h1.ok k t zt
  have p4 := fun (H : HL) (nx : Nat) (q0 : lookH H 7 = some (false, .cells [.nm 8] 28)) (q1 : lookH H 8 = some (false, .rd 5 V2.length (rdc V2))) (q2 : lookH H 9 = some (false, .ab (frzP W2))) => rviewU (nx := nx) q0 q1 q2 h2 zr k t
  have p5 := fun (H : HL) (nx : Nat) (q0 : lookH H 4 = some (false, .cells [.nm 5, iT R.length] 47)) (q1 : lookH H 5 = some (false, .own 53 6 V1.length (dpc V1))) (q2 : lookH H 6 = some (false, .ab (frzP W1))) => ReadyU (nx := nx) q0 q1 q2 h1.sub h1.ok k
  have p6 := fun (H : HL) (nx : Nat) (q0 : lookH H 7 = some (false, .cells [.nm 8] 28)) (q1 : lookH H 8 = some (false, .rd 5 V2.length (rdc V2))) (q2 : lookH H 9 = some (false, .ab (frzP W2))) => rreadyU (nx := nx) q0 q1 q2 h2 k
  have p7 := fun (H : HL) (nx : Nat) (q0 : lookH H 4 = some (false, .cells [.nm 5, iT R.length] 47)) (q1 : lookH H 5 = some (false, .own 53 6 V1.length (dpc V1))) => allU (nx := nx) q0 q1 h1.ok.zz
  have p8 := fun (H : HL) (nx : Nat) (q0 : lookH H 7 = some (false, .cells [.nm 8] 28)) (q1 : lookH H 8 = some (false, .rd 5 V2.length (rdc V2))) (q2 : lookH H 9 = some (false, .ab (frzP W2))) => rallU (nx := nx) q0 q1 q2 h2
  have p9 := fun (H : HL) (nx : Nat) (q0 : lookH H 4 = some (false, .cells [.nm 5, iT R.length] 47)) (q1 : lookH H 5 = some (false, .own 53 6 V1.length (dpc V1))) (q2 : lookH H 6 = some (false, .ab (frzP W1))) => sectorsU (nx := nx) q0 q1 q2 h1.sub h1.ok
  have pa := fun (H : HL) (nx : Nat) (q0 : lookH H 7 = some (false, .cells [.nm 8] 28)) (q1 : lookH H 8 = some (false, .rd 5 V2.length (rdc V2))) (q2 : lookH H 9 = some (false, .ab (frzP W2))) => rsectU (nx := nx) q0 q1 q2 h2
  have pb : ∀ (H : HL) (nx : Nat), lookH H 4 = some (false, .cells [.nm 5, iT R.length] 47) → lookH H 5 = some (false, .own 53 6 V1.length (dpc V1)) → FnH Try.prog 37 [.c (.p 4 0), .c .nsl] H nx ⟨.t (.c (iT ((und R).length : Nat))), [], [], []⟩ := fun H nx q0 q1 => by
    have := leftUn (nx := nx) q0 q1
    rw [hVl] at this
    exact this
  have pc := fun (H : HL) (nx : Nat) (q0 : lookH H 7 = some (false, .cells [.nm 8] 28)) (q1 : lookH H 8 = some (false, .rd 5 V2.length (rdc V2))) (q2 : lookH H 9 = some (false, .ab (frzP W2))) => rleftN (nx := nx) q0 q1 q2 h2
  have pd := fun (H : HL) (nx : Nat) (q0 : lookH H 4 = some (false, .cells [.nm 5, iT R.length] 47)) (q1 : lookH H 5 = some (false, .own 53 6 V1.length (dpc V1))) (q2 : lookH H 16 = some (true, .own 3 1 3 (ivs [k, 3, k]))) => leftUo (nx := nx) (at' := [k, 3, k]) q0 q1 q2 (fun h => by simp at h) (by simp) h1.ok.zz
  have pe := fun (H : HL) (nx : Nat) (q0 : lookH H 7 = some (false, .cells [.nm 8] 28)) (q1 : lookH H 8 = some (false, .rd 5 V2.length (rdc V2))) (q2 : lookH H 9 = some (false, .ab (frzP W2))) (q3 : lookH H 17 = some (true, .own 3 1 2 (ivs [k, 3]))) => rleftU (nx := nx) (zs := [k, 3]) q0 q1 q2 q3 h2 (by simp)
  rw [h1.rdyP] at p1
  rw [h1.vw] at p3
  rw [h1.rdy] at p5
  rw [h1.eq] at p7 p9 pd
  rw [left_two] at pd
  have l1 : (rdyN R k).length ≤ 1000 := Nat.le_trans (rdyN_le R k) zr
  have l2 : (uno R).length ≤ 1000 := Nat.le_trans (uno_le R) zr
  have l3 : (secs (und R)).length ≤ 1000 := by
    rw [← scS_secs h2.dep]
    exact Nat.le_trans scS_len zr
  rw [show (und R).map Ch.no = uno R from rfl] at p7
  generalize pt t (rdyP R k) = a1 at *
  generalize pte t (rdyP R k) = a2 at *
  generalize pt t (vwP R k) = a3 at *
  generalize pte t (vwP R k) = a4 at *
  generalize rdyN R k = a5 at *
  generalize uno R = a6 at *
  generalize secs (und R) = a7 at *
  generalize (und R).length = a8 at *
  generalize leftA (und R) [k, 3] = a9 at *
  have x1 := sbs a1
  have x2 : (a2 == a2) = true := beq_self_eq_true _
  have x3 := sbs a3
  have x4 : (a4 == a4) = true := beq_self_eq_true _
  have x8 : ((a8 : Int) == (a8 : Int)) = true := beq_self_eq_true _
  have x9 : ((a9 : Int) == (a9 : Int)) = true := beq_self_eq_true _
  have g5 : decide (a5 = a5) = true := decide_eq_true rfl
  have g6 : decide (a6 = a6) = true := decide_eq_true rfl
  have g7 : decide (a7 = a7) = true := decide_eq_true rfl
  refine rn [(18, .ret (.t (.c (.s t)))), (23, .spec ⟨.tup [.c (.s a1), .c (iT a2)], [], [], []⟩), (30, .spec ⟨.tup [.c (.s a1), .c (iT a2)], [], [], []⟩), (37, .spec ⟨.tup [.c (.s a3), .c (iT a4)], [], [], []⟩), (44, .spec ⟨.tup [.c (.s a3), .c (iT a4)], [], [], []⟩),
    (49, .spec ⟨.t (.c (.nm 10)), [(true, .own 3 1 a5.length (ivs a5))], [], []⟩), (53, .dec true), (58, .dec true), (63, .dec true), (68, .dec true), (72, .spec ⟨.t (.c (.nm 11)), [(true, .own 3 1 a5.length (ivs a5))], [], []⟩), (73, .spec ⟨.t (.c (.b (decide (a5 = a5)))), [], [], []⟩),
    (76, .spec ⟨.tup [], [], [(10, none)], []⟩), (78, .dec true), (80, .spec ⟨.t (.c (.nm 12)), [(true, .own 3 1 a6.length (ivs a6))], [], []⟩), (82, .spec ⟨.t (.c (.nm 13)), [(true, .own 3 1 a6.length (ivs a6))], [], []⟩), (83, .spec ⟨.t (.c (.b (decide (a6 = a6)))), [], [], []⟩), (85, .dec true),
    (87, .spec ⟨.t (.c (.nm 14)), [(true, .own 3 1 a7.length (ivs a7))], [], []⟩), (89, .spec ⟨.t (.c (.nm 15)), [(true, .own 3 1 a7.length (ivs a7))], [], []⟩), (90, .spec ⟨.t (.c (.b (decide (a7 = a7)))), [], [], []⟩), (92, .dec true), (94, .spec ⟨.t (.c (iT (a8 : Nat))), [], [], []⟩), (96, .spec ⟨.t (.c (iT (a8 : Nat))), [], [], []⟩), (99, .dec true),
    (103, .dec true), (104, .spec ⟨.t (.c (iT (a9 : Nat))), [], [], []⟩), (107, .dec true), (108, .spec ⟨.t (.c (iT (a9 : Nat))), [], [], []⟩)] rfl
    (by (repeat' (first | exact trivial | exact rfl | exact trivial | exact fun _ => trivial | first | exact hft | exact p1 _ _ rfl rfl rfl | exact p2 _ _ rfl rfl rfl | exact p3 _ _ rfl rfl | exact p4 _ _ rfl rfl rfl | exact p5 _ _ rfl rfl rfl | exact p6 _ _ rfl rfl rfl | exact p7 _ _ rfl rfl | exact p8 _ _ rfl rfl rfl | exact p9 _ _ rfl rfl rfl | exact pa _ _ rfl rfl rfl | exact pb _ _ rfl rfl | exact pc _ _ rfl rfl rfl | exact pd _ _ rfl rfl rfl | exact pe _ _ rfl rfl rfl rfl | exact spoilI_h rfl (by omega) | exact sameInts_h (SlR.own rfl) (SlR.own rfl) (by omega) | exact x1 | exact x2 | exact x3 | exact x4 | exact x8 | exact x9 | exact g5 | exact g6 | exact g7 | (rw [g5]; rfl) | (rw [g6]; rfl) | (rw [g7]; rfl) | rfl | decide | refine And.intro ?_ ?_))) ?_
  exact ret0 tysOk rfl (by (repeat' (first | exact trivial | exact rfl | exact x9 | exact fun _ => x9 | rfl | refine And.intro ?_ ?_))) rfl
end
end Cw
