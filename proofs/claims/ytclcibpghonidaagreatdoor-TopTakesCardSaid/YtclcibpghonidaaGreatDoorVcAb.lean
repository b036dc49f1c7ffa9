/- A walk by reckoning: things of a package told by one name (abstract things): opened, shut, changed by a call. No program in sight. -/
import Derived.Test.YtclcibpghonidaaGreatDoorVcRun
namespace Vc
open Go Go.RowKit

def CV.re (f : Nat → Nat) : CV → CV
  | .p n o => .p (f n) o
  | .sl n o l c => .sl (f n) o l c
  | .nm n => .nm (f n)
  | .el n j => .el (f n) j
  | .sub n o k l => .sub (f n) o k l
  | .mp n => .mp (f n)
  | .fn g caps => .fn g (caps.map fun x => (f x.1, x.2))
  | .i k x => .i k x
  | .b x => .b x
  | .s x => .s x
  | .np => .np
  | .nsl => .nsl
  | .nmp => .nmp
  | .raw v => .raw v
def reC (f : Nat → Nat) : List CV → List CV
  | [] => []
  | c :: l => c.re f :: reC f l
def TV.re (f : Nat → Nat) : TV → TV
  | .c x => .c (x.re f)
  | .agg cs => .agg (reC f cs)
def reT (f : Nat → Nat) : List TV → List TV
  | [] => []
  | c :: l => c.re f :: reT f l
def SV.re (f : Nat → Nat) : SV → SV
  | .t x => .t (x.re f)
  | .tup vs => .tup (reT f vs)
  | .gd cs x => .gd cs (x.re f)
def Ob.re (f : Nat → Nat) : Ob → Ob
  | .cells cs t => .cells (reC f cs) t
  | .pin m x => .pin (f m) x
  | .row xs t => .row xs t
  | .rd s n xs => .rd s n xs
  | .own t s n xs => .own t s n xs
  | .ab φ => .ab φ
  | .mp m => .mp m
def reN (f : Nat → Nat) : List (Bool × Ob) → List (Bool × Ob)
  | [] => []
  | (b, o) :: l => (b, o.re f) :: reN f l
theorem reC_eq (f : Nat → Nat) : ∀ l : List CV, reC f l = l.map (CV.re f)
  | [] => rfl
  | c :: l => by rw [reC, reC_eq f l]; rfl
theorem reT_eq (f : Nat → Nat) : ∀ l : List TV, reT f l = l.map (TV.re f)
  | [] => rfl
  | c :: l => by rw [reT, reT_eq f l]; rfl
theorem reN_get (f : Nat → Nat) : ∀ (l : List (Bool × Ob)) (k : Nat), (reN f l)[k]? = (l[k]?).map fun x => (x.1, x.2.re f)
  | [], k => by simp [reN]
  | (b, o) :: l, 0 => rfl
  | (b, o) :: l, k + 1 => by rw [reN, List.getElem?_cons_succ, reN_get f l k, List.getElem?_cons_succ]
theorem reN_length (f : Nat → Nat) : ∀ l : List (Bool × Ob), (reN f l).length = l.length
  | [] => rfl
  | (b, o) :: l => by rw [reN, List.length_cons, reN_length f l, List.length_cons]
/-- A name of one reading is another name of another reading. -/
def Env.as (e e' : Env) (n n' : Nat) : Prop := e'.blk n' = e.blk n ∧ e'.val n' = e.val n
theorem CV.re_den {e e' : Env} {f : Nat → Nat} {v : CV} (h : ∀ n ∈ v.ns, e.as e' n (f n)) : (v.re f).den e' = v.den e := by
  cases v with
  | p n o => simp [CV.re, CV.den, (h n (by simp [CV.ns])).1]
  | sl n o l c => simp [CV.re, CV.den, (h n (by simp [CV.ns])).1]
  | nm n => simp [CV.re, CV.den, (h n (by simp [CV.ns])).2]
  | el n j => simp [CV.re, CV.den, (h n (by simp [CV.ns])).2]
  | sub n o k l => simp [CV.re, CV.den, (h n (by simp [CV.ns])).2]
  | mp n => simp [CV.re, CV.den, (h n (by simp [CV.ns])).1]
  | fn g caps =>
    have : caps.map ((fun (x : Nat × Nat) => Value.pointer (some ⟨e'.blk x.1, x.2, none⟩)) ∘ fun x => (f x.1, x.2)) = caps.map (fun (x : Nat × Nat) => Value.pointer (some ⟨e.blk x.1, x.2, none⟩)) :=
      List.map_congr_left fun x hx => by simp [(h x.1 (by simpa [CV.ns] using ⟨x.2, hx⟩)).1]
    simp only [CV.re, CV.den, List.map_map]
    rw [this]
  | _ => rfl
theorem reC_den {e e' : Env} {f : Nat → Nat} {cs : List CV} (h : ∀ n ∈ flatN (cs.map CV.ns), e.as e' n (f n)) : (reC f cs).map (CV.den e') = cs.map (CV.den e) := by
  rw [reC_eq, List.map_map]
  exact List.map_congr_left fun c hc => CV.re_den fun n hn => h n (mem_flatN.2 ⟨_, List.mem_map.2 ⟨c, hc, rfl⟩, hn⟩)
theorem TV.re_den {e e' : Env} {f : Nat → Nat} {v : TV} (h : ∀ n ∈ v.ns, e.as e' n (f n)) : (v.re f).den e' = v.den e := by
  cases v with
  | c x => exact CV.re_den h
  | agg cs => simp only [TV.re, TV.den, reC_den h]
theorem SV.re_den {e e' : Env} {f : Nat → Nat} {v : SV} (h : ∀ n ∈ v.ns, e.as e' n (f n)) : (v.re f).den e' = v.den e := by
  cases v with
  | t x => exact TV.re_den h
  | tup vs =>
    have : (reT f vs).map (TV.den e') = vs.map (TV.den e) := by
      rw [reT_eq, List.map_map]
      exact List.map_congr_left fun c hc => TV.re_den fun n hn => h n (mem_flatN.2 ⟨_, List.mem_map.2 ⟨c, hc, rfl⟩, hn⟩)
    simp only [SV.re, SV.den, this]
  | gd cs x => simp only [SV.re, SV.den, TV.re_den (v := x) h]
theorem Ob.re_holds {e e' : Env} {f : Nat → Nat} {n n' : Nat} {w : World} {o : Ob} (hn : e.as e' n n') (hf : e'.fp n' = e.fp n) (hm : ∀ m ∈ o.ns, e.as e' m (f m)) (h : o.holds e n w) : (o.re f).holds e' n' w := by
  cases o with
  | cells cs t => exact ⟨by rw [hf, hn.1]; exact h.1, by rw [hn.1, reC_den hm]; exact h.2⟩
  | row xs t => exact ⟨by rw [hf, hn.1]; exact h.1, by rw [hn.1]; exact h.2⟩
  | rd s l xs => obtain ⟨A, c, h1, h2, h3⟩ := h; exact ⟨A, c, hn.2.trans h1, h2, by rw [hf]; exact h3⟩
  | own t s l xs => exact ⟨by rw [hn.2]; exact h.1, by rw [hn.2, hf]; exact h.2⟩
  | ab φ => exact ⟨by rw [hn.2, hf]; exact h.1, h.2⟩
  | mp m => exact ⟨by rw [hf, hn.1]; exact h.1, by rw [hn.1]; exact h.2⟩
  | pin m x => exact ⟨by rw [hf]; exact h.1, (hm m (by simp [Ob.ns])).1.trans h.2⟩

abbrev AbP := Value → (Nat → Prop) → World → Prop
/-- A thing that is made of these, told by this value. -/
def absP (O : List (Bool × Ob)) (x : CV) : AbP := fun v F w =>
  ∃ e : Env, v = x.den e ∧ (∀ k b o, O[k]? = some (b, o) → o.holds e k w ∧ (b = false → ∀ g, ¬ e.fp k g)) ∧ (∀ j k, j < O.length → k < O.length → j ≠ k → ∀ g, e.fp j g → ¬ e.fp k g) ∧ (∀ g, F g ↔ ∃ k, k < O.length ∧ e.fp k g) ∧ ∀ g, F g → g < w.heap.size
theorem absP_stable (O : List (Bool × Ob)) (x : CV) : stable (absP O x) := by
  rintro v F w w' ⟨e, h1, h2, h3, h4, h5⟩ hk
  refine ⟨e, h1, fun k b o hko => ⟨Ob.stays (h2 k b o hko).1 fun g hg => ?_, (h2 k b o hko).2⟩, h3, h4, fun g hg => ?_⟩
  · have hlt : k < O.length := by
      rcases Nat.lt_or_ge k O.length with h | h
      · exact h
      · rw [List.getElem?_eq_none h] at hko; cases hko
    exact hk g ((h4 g).2 ⟨k, hlt, hg⟩)
  · have h6 := hk g hg
    rw [Array.getElem?_eq_getElem (h5 g hg)] at h6
    exact (Array.getElem?_eq_some_iff.1 h6).1
def Pins (φ : AbP) (v0 : Value) : Prop := ∀ v F w, φ v F w → v = v0
def ptr (b : Nat) : Value := .pointer (some ⟨b, 0, none⟩)
theorem pins_abs {O : List (Bool × Ob)} {b k : Nat} {c : Bool} (h : O[k]? = some (c, .pin 0 b)) : Pins (absP O (.p 0 0)) (ptr b) := by
  rintro v F w ⟨e, h1, h2, _⟩
  rw [h1]
  have := (h2 k c _ h).1.2
  simp only [CV.den, ptr, this]
def exP {κ : Type} (φ : κ → AbP) : AbP := fun v F w => ∃ k, φ k v F w
theorem exP_stable {κ : Type} {φ : κ → AbP} (h : ∀ k, stable (φ k)) : stable (exP φ) := fun v F w w' ⟨k, hk⟩ hs => ⟨k, h k v F w w' hk hs⟩

/-- The names of what is opened. -/
def unH (f : Nat → Nat) (d : Nat) : Nat → List (Bool × Ob) → HL → HL
  | _, [], H => (d, none) :: H
  | n, (b, o) :: l, H => (n, some (b, o.re f)) :: unH f d (n + 1) l H
theorem look_unH (f : Nat → Nat) (d t : Nat) (H : HL) : ∀ (l : List (Bool × Ob)) (n : Nat), lookH (unH f d n l H) t = if n ≤ t ∧ t < n + l.length then (l[t - n]?).map (fun x => (x.1, x.2.re f)) else if t = d then none else lookH H t
  | [], n => by
    rw [unH, lookH_cons]
    have : ¬ (n ≤ t ∧ t < n + ([] : List (Bool × Ob)).length) := by simp
    rw [if_neg this]
  | (b, o) :: l, n => by
    rw [unH, lookH_cons, look_unH f d t H l (n + 1)]
    by_cases h : t = n
    · subst h; simp
    · rw [if_neg h]
      by_cases h2 : n + 1 ≤ t ∧ t < n + 1 + l.length
      · have h3 : n ≤ t ∧ t < n + ((b, o) :: l).length := by simp; omega
        rw [if_pos h2, if_pos h3, show t - n = (t - (n + 1)) + 1 by omega, List.getElem?_cons_succ]
      · have h3 : ¬ (n ≤ t ∧ t < n + ((b, o) :: l).length) := by simp; omega
        rw [if_neg h2, if_neg h3]
def unV (d : Nat) (x : CV) : SV → SV
  | .t (.c (.nm n)) => match Nat.beq n d with
    | true => .t (.c x)
    | false => .t (.c (.nm n))
  | v => v
def unL (d : Nat) (x : CV) : LL → LL
  | [] => []
  | (t, v) :: l => (t, unV d x v) :: unL d x l
theorem look_unL (d : Nat) (x : CV) : ∀ (L : LL) (t : Tmp), look t (unL d x L) = (look t L).map (unV d x)
  | [], t => rfl
  | (t', v) :: l, t => by
    rw [unL, look_cons, look_cons, look_unL d x l t]
    split <;> rfl
theorem unV_cases (d : Nat) (x : CV) (v : SV) : unV d x v = v ∨ v = .t (.c (.nm d)) ∧ unV d x v = .t (.c x) := by
  unfold unV
  split
  · rename_i n
    split
    · rename_i h
      rw [(beq_nat n d).1 h]
      exact .inr ⟨rfl, rfl⟩
    · exact .inl rfl
  · exact .inl rfl
def Env.open (e e1 : Env) (nx k : Nat) : Env := ⟨fun m => if nx ≤ m ∧ m < nx + k then e1.blk (m - nx) else e.blk m, fun m => if nx ≤ m ∧ m < nx + k then e1.val (m - nx) else e.val m, fun m => if nx ≤ m ∧ m < nx + k then e1.fp (m - nx) else e.fp m, fun m => by
  show (if nx ≤ m ∧ m < nx + k then e1.val (m - nx) else e.val m).oneCell' = true
  split
  · exact e1.one _
  · exact e.one m⟩
theorem Env.open_new (e e1 : Env) {nx k m : Nat} (h : m < k) : e1.as (e.open e1 nx k) m (nx + m) ∧ (e.open e1 nx k).fp (nx + m) = e1.fp m := by
  have hc : nx ≤ nx + m ∧ nx + m < nx + k := by omega
  refine ⟨⟨?_, ?_⟩, ?_⟩
  · show (if _ then _ else _) = _; rw [if_pos hc, Nat.add_sub_cancel_left]
  · show (if _ then _ else _) = _; rw [if_pos hc, Nat.add_sub_cancel_left]
  · show (if _ then _ else _) = _; rw [if_pos hc, Nat.add_sub_cancel_left]
theorem Env.open_old (e e1 : Env) {nx k m : Nat} (h : m < nx) : e.same (e.open e1 nx k) m := by
  have hc : ¬ (nx ≤ m ∧ m < nx + k) := by omega
  refine ⟨?_, ?_, ?_⟩
  · show (if _ then _ else _) = _; rw [if_neg hc]
  · show (if _ then _ else _) = _; rw [if_neg hc]
  · show (if _ then _ else _) = _; rw [if_neg hc]
/-- A thing is opened. -/
theorem Sat.unfold {F : Frm} {L : LL} {H : HL} {nx d : Nat} {O : List (Bool × Ob)} {x : CV} {e : Env} {a : Act} {w : World} (S : Sat F (fun t => look t L) (lookH H) e a w) (hW : WF L H nx) (hd : lookH H d = some (true, .ab (absP O x))) (hx : inR 0 O.length x.ns = true) (hO : newsR 0 O.length O = true) :
    WF (unL d (x.re (nx + ·)) L) (unH (nx + ·) d nx O H) (nx + O.length) ∧ ∃ e', Sat F (fun t => look t (unL d (x.re (nx + ·)) L)) (lookH (unH (nx + ·) d nx O H)) e' a w := by
  obtain ⟨⟨⟨e1, h1, h2, h3, h4, h5⟩, _⟩, hd2⟩ := S.ob d true _ hd
  have hdn := (hW.h d _ hd).1
  have ren_ns : ∀ (l : List Nat), (∀ q ∈ l, 0 ≤ q ∧ q < O.length) → ∀ n ∈ l, e1.as (e.open e1 nx O.length) n (nx + n) := fun l hl n hn => (Env.open_new e e1 (hl n hn).2).1
  have cns : ∀ (c : CV), (∀ q ∈ c.ns, 0 ≤ q ∧ q < O.length) → ∀ m ∈ (c.re (nx + ·)).ns, m < nx + O.length := by
    intro c hc m hm
    cases c with
    | p n o => simp [CV.re, CV.ns] at hm; have := hc n (by simp [CV.ns]); omega
    | sl n o l c => simp [CV.re, CV.ns] at hm; have := hc n (by simp [CV.ns]); omega
    | nm n => simp [CV.re, CV.ns] at hm; have := hc n (by simp [CV.ns]); omega
    | el n j => simp [CV.re, CV.ns] at hm; have := hc n (by simp [CV.ns]); omega
    | sub n o k l => simp [CV.re, CV.ns] at hm; have := hc n (by simp [CV.ns]); omega
    | mp n => simp [CV.re, CV.ns] at hm; have := hc n (by simp [CV.ns]); omega
    | fn g caps =>
      simp only [CV.re, CV.ns, List.map_map, List.mem_map] at hm
      obtain ⟨y, hy, rfl⟩ := hm
      have := hc y.1 (by simp only [CV.ns, List.mem_map]; exact ⟨y, hy, rfl⟩)
      show nx + y.1 < _
      omega
    | _ => simp [CV.re, CV.ns] at hm
  have ons : ∀ (o : Ob), (∀ q ∈ o.ns, 0 ≤ q ∧ q < O.length) → ∀ m ∈ (o.re (nx + ·)).ns, m < nx + O.length := by
    intro o ho m hm
    cases o with
    | cells cs t =>
      simp only [Ob.re, Ob.ns, reC_eq, List.map_map] at hm
      obtain ⟨l, hl, hm⟩ := mem_flatN.1 hm
      obtain ⟨c, hc, rfl⟩ := List.mem_map.1 hl
      exact cns c (fun q hq => ho q (by simp only [Ob.ns]; exact mem_flatN.2 ⟨_, List.mem_map.2 ⟨c, hc, rfl⟩, hq⟩)) m hm
    | pin q x => simp [Ob.re, Ob.ns] at hm; have := ho q (by simp [Ob.ns]); omega
    | _ => simp [Ob.re, Ob.ns] at hm
  have hlt : ∀ {k : Nat} {z : Bool × Ob}, O[k]? = some z → k < O.length := by
    intro k z hk
    rcases Nat.lt_or_ge k O.length with h | h
    · exact h
    · rw [List.getElem?_eq_none h] at hk; cases hk
  refine ⟨⟨fun t v hv n hn => ?_, fun n z hz => ?_⟩, e.open e1 nx O.length, S.fr, S.sz, S.df, fun t v hv => ?_, fun n b o hz => ?_, fun n o m c q hn hm hne g hg hg' => ?_⟩
  · rw [look_unL] at hv
    cases hl : look t L with
    | none => rw [hl] at hv; cases hv
    | some v0 =>
      rw [hl] at hv
      cases hv
      rcases unV_cases d (x.re (nx + ·)) v0 with h | ⟨h, h'⟩
      · rw [h] at hn
        have := hW.l t v0 hl n hn
        omega
      · rw [h'] at hn
        exact cns x (fun q hq => inR_ok hx q hq) n hn
  · rw [look_unH] at hz
    split at hz
    · rename_i hc
      refine ⟨hc.2, ?_⟩
      cases hk : O[n - nx]? with
      | none => rw [hk] at hz; cases hz
      | some y =>
        rw [hk] at hz
        cases hz
        obtain ⟨b, o⟩ := y
        exact ons o (fun q hq => newsR_ok hO _ b o hk q hq)
    · split at hz
      · cases hz
      · obtain ⟨g1, g2⟩ := hW.h n z hz
        exact ⟨by omega, fun m hm => by have := g2 m hm; omega⟩
  · simp only [look_unL] at hv
    cases hl : look t L with
    | none => rw [hl] at hv; cases hv
    | some v0 =>
      rw [hl] at hv
      cases hv
      have hs := S.sl t v0 hl
      rcases unV_cases d (x.re (nx + ·)) v0 with h | ⟨h, h'⟩
      · rw [hs, h]
        exact (SV.den_same fun n hn => Env.open_old e e1 (hW.l t v0 hl n hn)).symm
      · rw [hs, h', h]
        simp only [SV.den, TV.den]
        rw [CV.re_den (e := e1) fun n hn => ren_ns _ (fun q hq => inR_ok hx q hq) n hn, ← h1]
        rfl
  · rw [look_unH] at hz
    split at hz
    · rename_i hc
      cases hk : O[n - nx]? with
      | none => rw [hk] at hz; cases hz
      | some y =>
        rw [hk] at hz
        cases hz
        obtain ⟨b, o⟩ := y
        obtain ⟨k1, k2⟩ := h2 _ b o hk
        have hkl := hlt hk
        obtain ⟨q1, q2⟩ := Env.open_new e e1 (nx := nx) hkl
        rw [show nx + (n - nx) = n by omega] at q1 q2
        refine ⟨Ob.re_holds q1 q2 (fun m hm => ren_ns _ (fun q hq => newsR_ok hO _ b o hk q hq) m hm) k1, fun g hg => ?_⟩
        rw [q2] at hg
        have hF := (h4 g).2 ⟨_, hkl, hg⟩
        exact ⟨h5 g hF, fun _ => (hd2 g hF).2 rfl⟩
    · split at hz
      · cases hz
      · obtain ⟨g1, g2⟩ := hW.h n _ hz
        obtain ⟨g3, g4⟩ := S.ob n b o hz
        have hs := Env.open_old e e1 (k := O.length) g1
        refine ⟨Ob.same hs g3 fun m hm => (Env.open_old e e1 (g2 m hm)).v, fun g hg => ?_⟩
        rw [hs.2.2] at hg
        exact g4 g hg
  · rw [look_unH] at hn hm
    have hnew : ∀ {n : Nat}, nx ≤ n ∧ n < nx + O.length → ∀ g, (e.open e1 nx O.length).fp n g → e1.fp (n - nx) g ∧ e.fp d g := by
      intro n hc g hg
      obtain ⟨_, q2⟩ := Env.open_new e e1 (nx := nx) (k := O.length) (m := n - nx) (by omega)
      rw [show nx + (n - nx) = n by omega] at q2
      rw [q2] at hg
      exact ⟨hg, (h4 g).2 ⟨_, by omega, hg⟩⟩
    split at hn
    · rename_i hc
      obtain ⟨p1, p2⟩ := hnew hc g hg
      split at hm
      · rename_i hc'
        obtain ⟨p3, _⟩ := hnew hc' g hg'
        exact h3 _ _ (by omega) (by omega) (by omega) g p1 p3
      · split at hm
        · cases hm
        · rename_i hmd
          have hs := Env.open_old e e1 (k := O.length) (hW.h m _ hm).1
          rw [hs.2.2] at hg'
          exact S.dj d _ m c q hd hm (fun h => hmd h.symm) g p2 hg'
    · split at hn
      · cases hn
      · rename_i hnd
        have hs := Env.open_old e e1 (k := O.length) (hW.h n _ hn).1
        rw [hs.2.2] at hg
        split at hm
        · rename_i hc'
          obtain ⟨_, p4⟩ := hnew hc' g hg'
          exact S.dj n _ d _ _ hn hd hnd g hg p4
        · split at hm
          · cases hm
          · have hs' := Env.open_old e e1 (k := O.length) (hW.h m _ hm).1
            rw [hs'.2.2] at hg'
            exact S.dj n o m c q hn hm hne g hg hg'
theorem At.unfold {P : Program} {F : Frm} {Q : Exit → Act → World → Prop} {c : Code} {ks : List KI} {L : LL} {H : HL} {nx : Nat} {O : List (Bool × Ob)} {x : CV} (d : Nat) (hd : lookH H d = some (true, .ab (absP O x))) (hx : inR 0 O.length x.ns = true) (hO : newsR 0 O.length O = true)
    (h : At P F Q c ks (unL d (x.re (nx + ·)) L) (unH (nx + ·) d nx O H) (nx + O.length)) : At P F Q c ks L H nx :=
  ⟨fun hW e a w S => let ⟨hW', e', S'⟩ := S.unfold hW hd hx hO; h.h hW' e' a w S'⟩

theorem At.unfoldTo {P : Program} {F : Frm} {Q : Exit → Act → World → Prop} {c : Code} {ks : List KI} {L L1 : LL} {H H1 : HL} {nx nx1 : Nat} {O : List (Bool × Ob)} {x : CV} (d : Nat) (hd : lookH H d = some (true, .ab (absP O x))) (hx : inR 0 O.length x.ns = true) (hO : newsR 0 O.length O = true)
    (hL : unL d (x.re (nx + ·)) L = L1) (hH : unH (nx + ·) d nx O H = H1) (hn : nx + O.length = nx1) (h : At P F Q c ks L1 H1 nx1) : At P F Q c ks L H nx := by
  subst hL hH hn
  exact At.unfold d hd hx hO h
/-- The names that are shut away. -/
def killH (ρ : List (Nat × Nat)) : Nat → Nat → HL → HL
  | _, 0, H => H
  | k, n + 1, H => (Vc.ren ρ k, none) :: killH ρ (k + 1) n H
theorem look_killH (ρ : List (Nat × Nat)) (H : HL) (t : Nat) : ∀ (n k : Nat) {z : Bool × Ob}, lookH (killH ρ k n H) t = some z → lookH H t = some z ∧ ∀ j, k ≤ j → j < k + n → t ≠ Vc.ren ρ j
  | 0, k, z, h => ⟨h, fun j h1 h2 => by omega⟩
  | n + 1, k, z, h => by
    rw [killH, lookH_cons] at h
    split at h
    · cases h
    · rename_i hne
      obtain ⟨h1, h2⟩ := look_killH ρ H t n (k + 1) h
      refine ⟨h1, fun j hj1 hj2 => ?_⟩
      rcases Nat.eq_or_lt_of_le hj1 with e | e
      · rw [← e]; exact hne
      · exact h2 j (by omega) (by omega)
def okF : List (Bool × Ob) → Bool
  | [] => true
  | (true, _) :: l => okF l
  | (false, .pin _ _) :: l => okF l
  | _ => false
theorem okF_ok : ∀ {l : List (Bool × Ob)}, okF l = true → ∀ (k : Nat) (b : Bool) (o : Ob), l[k]? = some (b, o) → b = true ∨ ∃ m x, o = Ob.pin m x
  | [], _, k, b, o, h => by cases h
  | (b', o') :: l, h, k, b, o, hk => by
    unfold okF at h
    split at h
    · rename_i e; cases e
    · rename_i e
      cases e
      cases k with
      | zero => cases hk; exact .inl rfl
      | succ k => exact okF_ok h k b o hk
    · rename_i e
      cases e
      cases k with
      | zero => cases hk; exact .inr ⟨_, _, rfl⟩
      | succ k => exact okF_ok h k b o hk
    · cases h
def Env.shut (e : Env) (ρ : List (Nat × Nat)) (nx k : Nat) (v : Value) : Env := ⟨e.blk, fun m => if m = nx then (if v.oneCell' = true then v else uv) else e.val m, fun m => if m = nx then (fun g => ∃ j, j < k ∧ e.fp (Vc.ren ρ j) g) else e.fp m, fun m => by
  show (if m = nx then (if v.oneCell' = true then v else uv) else e.val m).oneCell' = true
  split
  · split
    · assumption
    · rfl
  · exact e.one m⟩
theorem Env.shut_same (e : Env) {ρ : List (Nat × Nat)} {nx k m : Nat} {v : Value} (h : m ≠ nx) : e.same (e.shut ρ nx k v) m := ⟨rfl, by simp [Env.shut, h], by simp [Env.shut, h]⟩
theorem Sat.foldV {F : Frm} {L : LL} {H : HL} {nx : Nat} {O : List (Bool × Ob)} {x : CV} {ρ : List (Nat × Nat)} {e : Env} {a : Act} {w : World} (S : Sat F (fun t => look t L) (lookH H) e a w) (hW : WF L H nx) (hH : allP (subH ρ H (newsH 0 O))) (hi : injK ρ (keysH (newsH 0 O)) [] = true) (hf : okF O = true) (hone : ∀ e : Env, (x.den e).oneCell' = true) :
    WF L ((nx, some (true, .ab (absP O x))) :: killH ρ 0 O.length H) (nx + 1) ∧ ∃ e', Sat F (fun t => look t L) (lookH ((nx, some (true, .ab (absP O x))) :: killH ρ 0 O.length H)) e' a w ∧ e'.val nx = x.den (e.ren ρ) := by
  have S' := S.sub (L' := []) ρ trivial hH hi
  have hlk : ∀ {k : Nat}, k < O.length → ∃ b o, O[k]? = some (b, o) ∧ lookH (newsH 0 O) k = some (b, o) ∧ ∃ b' o', lookH H (Vc.ren ρ k) = some (b', o') ∧ (b = true → b' = true) := by
    intro k hk
    have h1 : O[k]? = some (O[k].1, O[k].2) := by rw [List.getElem?_eq_getElem hk]
    have h2 : lookH (newsH 0 O) k = some (O[k].1, O[k].2) := by rw [lookH_newsH, if_pos (by omega), Nat.sub_zero]; exact h1
    obtain ⟨b', o', q1, q2, _⟩ := subH_ok (e := e) (w := w) hH k _ _ h2
    exact ⟨_, _, h1, h2, b', o', q1, q2⟩
  have hemp : ∀ {k : Nat} {b : Bool} {o : Ob}, O[k]? = some (b, o) → b = false → ∀ g, ¬ (e.ren ρ).fp k g := by
    intro k b o hk hb g
    have hlt : k < O.length := by
      rcases Nat.lt_or_ge k O.length with h | h
      · exact h
      · rw [List.getElem?_eq_none h] at hk; cases hk
    have h2 : lookH (newsH 0 O) k = some (b, o) := by rw [lookH_newsH, if_pos (by omega), Nat.sub_zero]; exact hk
    rcases okF_ok hf k b o hk with h | ⟨m, y, h⟩
    · rw [hb] at h; cases h
    · subst h
      exact (S'.ob k _ _ h2).1.1 g
  have hfull : ∀ {k : Nat} {g : Nat}, k < O.length → e.fp (Vc.ren ρ k) g → ∃ o o', lookH (newsH 0 O) k = some (true, o) ∧ lookH H (Vc.ren ρ k) = some (true, o') := by
    intro k g hk hg
    obtain ⟨b, o, h1, h2, b', o', h3, h4⟩ := hlk hk
    cases b with
    | true => rw [h4 rfl] at h3; exact ⟨o, o', h2, h3⟩
    | false => exact (hemp h1 rfl g hg).elim
  have hv1 : (e.shut ρ nx O.length (x.den (e.ren ρ))).val nx = x.den (e.ren ρ) := by
    show (if nx = nx then (if _ then _ else uv) else _) = _
    rw [if_pos rfl, if_pos (hone _)]
  have hf1 : (e.shut ρ nx O.length (x.den (e.ren ρ))).fp nx = fun g => ∃ j, j < O.length ∧ e.fp (Vc.ren ρ j) g := by
    show (if nx = nx then _ else _) = _
    rw [if_pos rfl]
  refine ⟨⟨fun t v hv n hn => by have := hW.l t v hv n hn; omega, fun n z hz => ?_⟩, e.shut ρ nx O.length (x.den (e.ren ρ)), ⟨S.fr, S.sz, S.df, fun t v hv => ?_, fun n b o hz => ?_, fun n o m c q hn hm hne g hg hg' => ?_⟩, hv1⟩
  · rw [lookH_cons] at hz
    split at hz
    · rename_i hn
      cases hz
      exact ⟨by omega, fun m hm => by simp [Ob.ns] at hm⟩
    · obtain ⟨h1, _⟩ := look_killH ρ H n _ _ hz
      obtain ⟨g1, g2⟩ := hW.h n z h1
      exact ⟨by omega, fun m hm => by have := g2 m hm; omega⟩
  · rw [S.sl t v hv]
    exact (SV.den_same fun n hn => Env.shut_same e (by have := hW.l t v hv n hn; omega)).symm
  · rw [lookH_cons] at hz
    split at hz
    · rename_i hn
      cases hz
      subst hn
      refine ⟨⟨?_, absP_stable O x⟩, fun g hg => ?_⟩
      · rw [hv1, hf1]
        refine ⟨e.ren ρ, rfl, fun k b o hk => ?_, fun j k hj hk hne g h1 h2 => ?_, fun g => Iff.rfl, fun g ⟨j, hj, hg⟩ => ?_⟩
        · have hlt : k < O.length := by
            rcases Nat.lt_or_ge k O.length with h | h
            · exact h
            · rw [List.getElem?_eq_none h] at hk; cases hk
          have h2 : lookH (newsH 0 O) k = some (b, o) := by rw [lookH_newsH, if_pos (by omega), Nat.sub_zero]; exact hk
          exact ⟨(S'.ob k _ _ h2).1, hemp hk⟩
        · obtain ⟨o, _, q1, _⟩ := hfull hj h1
          obtain ⟨o', _, q2, _⟩ := hfull hk h2
          exact S'.dj _ _ _ _ _ q1 q2 hne g h1 h2
        · obtain ⟨o, _, q1, _⟩ := hfull hj hg
          exact ((S'.ob _ _ _ q1).2 g hg).1
      · rw [hf1] at hg
        obtain ⟨j, hj, hg⟩ := hg
        obtain ⟨o, _, q1, _⟩ := hfull hj hg
        obtain ⟨p1, p2⟩ := (S'.ob _ _ _ q1).2 g hg
        exact ⟨p1, fun _ => p2 rfl⟩
    · rename_i hn
      obtain ⟨h1, _⟩ := look_killH ρ H n _ _ hz
      obtain ⟨h3, h4⟩ := S.ob n b o h1
      have hs := Env.shut_same (ρ := ρ) (k := O.length) (v := x.den (e.ren ρ)) e hn
      refine ⟨Ob.same hs h3 fun m hm => (Env.shut_same e (by have := (hW.h n _ h1).2 m hm; omega)).v, fun g hg => ?_⟩
      rw [hs.2.2] at hg
      exact h4 g hg
  · rw [lookH_cons] at hn hm
    split at hn
    · rename_i h1
      subst h1
      rw [if_neg (fun h => hne h.symm)] at hm
      obtain ⟨k1, k2⟩ := look_killH ρ H m _ _ hm
      rw [hf1] at hg
      obtain ⟨j, hj, hg⟩ := hg
      rw [(Env.shut_same (ρ := ρ) (k := O.length) (v := x.den (e.ren ρ)) e (fun h => hne h.symm)).2.2] at hg'
      obtain ⟨_, o', _, q2⟩ := hfull hj hg
      exact S.dj _ _ m c q q2 k1 (fun h => k2 j (by omega) (by omega) h.symm) g hg hg'
    · rename_i hnn
      obtain ⟨k1, k2⟩ := look_killH ρ H n _ _ hn
      rw [(Env.shut_same (ρ := ρ) (k := O.length) (v := x.den (e.ren ρ)) e hnn).2.2] at hg
      split at hm
      · rename_i h1
        subst h1
        rw [hf1] at hg'
        obtain ⟨j, hj, hg'⟩ := hg'
        obtain ⟨_, o', _, q2⟩ := hfull hj hg'
        exact S.dj n o _ _ _ k1 q2 (fun h => k2 j (by omega) (by omega) h) g hg hg'
      · rename_i hmn
        obtain ⟨k3, _⟩ := look_killH ρ H m _ _ hm
        rw [(Env.shut_same (ρ := ρ) (k := O.length) (v := x.den (e.ren ρ)) e hmn).2.2] at hg'
        exact S.dj n o m c q k1 k3 hne g hg hg'
theorem Sat.fold {F : Frm} {L : LL} {H : HL} {nx : Nat} {O : List (Bool × Ob)} {x : CV} {ρ : List (Nat × Nat)} {e : Env} {a : Act} {w : World} (S : Sat F (fun t => look t L) (lookH H) e a w) (hW : WF L H nx) (hH : allP (subH ρ H (newsH 0 O))) (hi : injK ρ (keysH (newsH 0 O)) [] = true) (hf : okF O = true) (hone : ∀ e : Env, (x.den e).oneCell' = true) :
    WF L ((nx, some (true, .ab (absP O x))) :: killH ρ 0 O.length H) (nx + 1) ∧ ∃ e', Sat F (fun t => look t L) (lookH ((nx, some (true, .ab (absP O x))) :: killH ρ 0 O.length H)) e' a w :=
  let ⟨h1, e', h2, _⟩ := S.foldV hW hH hi hf hone
  ⟨h1, e', h2⟩
/-- The same; a slot that holds the thing's value is told by the new name. -/
theorem Sat.foldR {F : Frm} {L : LL} {H : HL} {nx : Nat} {O : List (Bool × Ob)} {x y : CV} {ρ : List (Nat × Nat)} {e : Env} {a : Act} {w : World} {t : Tmp} (S : Sat F (fun t => look t L) (lookH H) e a w) (hW : WF L H nx) (hH : allP (subH ρ H (newsH 0 O))) (hi : injK ρ (keysH (newsH 0 O)) [] = true) (hf : okF O = true) (hone : ∀ e : Env, (x.den e).oneCell' = true)
    (hl : look t L = some (.t (.c y))) (hy : allP (y.eqs ρ x)) :
    WF ((t, .t (.c (.nm nx))) :: L) ((nx, some (true, .ab (absP O x))) :: killH ρ 0 O.length H) (nx + 1) ∧ ∃ e', Sat F (fun t' => look t' ((t, .t (.c (.nm nx))) :: L)) (lookH ((nx, some (true, .ab (absP O x))) :: killH ρ 0 O.length H)) e' a w := by
  obtain ⟨hW', e', S', hv⟩ := S.foldV hW hH hi hf hone
  refine ⟨⟨fun t' v h n hn => ?_, hW'.h⟩, e', S'.fr, S'.sz, S'.df, fun t' v h => ?_, S'.ob, S'.dj⟩
  · rw [look_cons] at h
    split at h
    · cases h
      have : n = nx := by simpa [SV.ns, TV.ns, CV.ns] using hn
      omega
    · exact hW'.l t' v h n hn
  · simp only [look_cons] at h
    split at h
    · rename_i ht
      cases h
      subst ht
      rw [S.sl _ _ hl]
      show y.den e = e'.val _
      rw [hv]
      exact CV.eqs_ok (e := e) hy
    · exact S'.sl t' v h
section
variable {P : Program} {F : Frm} {Q : Exit → Act → World → Prop} {c : Code} {ks : List KI} {L : LL} {H : HL} {nx : Nat} {O : List (Bool × Ob)} {x : CV}
theorem At.fold (ρ : List (Nat × Nat)) (O : List (Bool × Ob)) (x : CV) (hH : allP (subH ρ H (newsH 0 O))) (hi : injK ρ (keysH (newsH 0 O)) [] = true) (hf : okF O = true) (hone : ∀ e : Env, (x.den e).oneCell' = true)
    (h : At P F Q c ks L ((nx, some (true, .ab (absP O x))) :: killH ρ 0 O.length H) (nx + 1)) : At P F Q c ks L H nx :=
  ⟨fun hW e a w S => let ⟨hW', e', S'⟩ := S.fold hW hH hi hf hone; h.h hW' e' a w S'⟩
theorem Done.fold {Q : Act → World → Prop} (ρ : List (Nat × Nat)) (O : List (Bool × Ob)) (x : CV) (hH : allP (subH ρ H (newsH 0 O))) (hi : injK ρ (keysH (newsH 0 O)) [] = true) (hf : okF O = true) (hone : ∀ e : Env, (x.den e).oneCell' = true)
    (h : Done F Q L ((nx, some (true, .ab (absP O x))) :: killH ρ 0 O.length H) (nx + 1)) : Done F Q L H nx :=
  ⟨fun hW e a w S => let ⟨hW', e', S'⟩ := S.fold hW hH hi hf hone; h.h hW' e' a w S'⟩
theorem Done.foldR {Q : Act → World → Prop} (t : Tmp) (y : CV) (ρ : List (Nat × Nat)) (O : List (Bool × Ob)) (x : CV) (hl : look t L = some (.t (.c y))) (hy : allP (y.eqs ρ x)) (hH : allP (subH ρ H (newsH 0 O))) (hi : injK ρ (keysH (newsH 0 O)) [] = true) (hf : okF O = true) (hone : ∀ e : Env, (x.den e).oneCell' = true)
    (h : Done F Q ((t, .t (.c (.nm nx))) :: L) ((nx, some (true, .ab (absP O x))) :: killH ρ 0 O.length H) (nx + 1)) : Done F Q L H nx :=
  ⟨fun hW e a w S => let ⟨hW', e', S'⟩ := S.foldR hW hH hi hf hone hl hy; h.h hW' e' a w S'⟩
theorem Aft.fold (ρ : List (Nat × Nat)) (O : List (Bool × Ob)) (x : CV) (hH : allP (subH ρ H (newsH 0 O))) (hi : injK ρ (keysH (newsH 0 O)) [] = true) (hf : okF O = true) (hone : ∀ e : Env, (x.den e).oneCell' = true)
    (h : Aft P F Q ks L ((nx, some (true, .ab (absP O x))) :: killH ρ 0 O.length H) (nx + 1)) : Aft P F Q ks L H nx :=
  ⟨fun hW e a w S => let ⟨hW', e', S'⟩ := S.fold hW hH hi hf hone; h.h hW' e' a w S'⟩
theorem Aft.unfold (d : Nat) (hd : lookH H d = some (true, .ab (absP O x))) (hx : inR 0 O.length x.ns = true) (hO : newsR 0 O.length O = true)
    (h : Aft P F Q ks (unL d (x.re (nx + ·)) L) (unH (nx + ·) d nx O H) (nx + O.length)) : Aft P F Q ks L H nx :=
  ⟨fun hW e a w S => let ⟨hW', e', S'⟩ := S.unfold hW hd hx hO; h.h hW' e' a w S'⟩
/-- What is told of a thing, told anew: weaker. -/
theorem Sat.weakAb {L' : LF} {d : Nat} {φ φ' : AbP} {b : Bool} {e : Env} {a : Act} {w : World} (S : Sat F L' (lookH H) e a w) (hd : lookH H d = some (b, .ab φ)) (hs : stable φ') (h1 : φ (e.val d) (e.fp d) w → φ' (e.val d) (e.fp d) w) : Sat F L' (lookH ((d, some (b, .ab φ')) :: H)) e a w := by
  refine ⟨S.fr, S.sz, S.df, S.sl, fun n c o hz => ?_, fun n o m c q hn hm hne g hg hg' => ?_⟩
  · rw [lookH_cons] at hz
    split at hz
    · rename_i hn
      cases hz
      subst hn
      obtain ⟨h3, h4⟩ := S.ob n b _ hd
      exact ⟨⟨h1 h3.1, hs⟩, h4⟩
    · exact S.ob n c o hz
  · rw [lookH_cons] at hn hm
    split at hn
    · rename_i h2
      cases hn
      subst h2
      rw [if_neg (fun h => hne h.symm)] at hm
      exact S.dj _ _ m c q hd hm hne g hg hg'
    · split at hm
      · rename_i h2
        cases hm
        subst h2
        exact S.dj n o _ _ _ hn hd hne g hg hg'
      · exact S.dj n o m c q hn hm hne g hg hg'
theorem wf_ab {d : Nat} {φ φ' : AbP} {b : Bool} (hW : WF L H nx) (hd : lookH H d = some (b, .ab φ)) : WF L ((d, some (b, .ab φ')) :: H) nx :=
  ⟨hW.l, fun n z hz => by
    rw [lookH_cons] at hz
    split at hz
    · rename_i hn
      cases hz
      subst hn
      exact ⟨(hW.h n _ hd).1, fun m hm => by simp [Ob.ns] at hm⟩
    · exact hW.h n z hz⟩
/-- A thing of which something is there. -/
theorem At.ex {κ : Type} {φ : κ → AbP} {b : Bool} (d : Nat) (hd : lookH H d = some (b, .ab (exP φ))) (hs : ∀ k, stable (φ k)) (h : ∀ k, At P F Q c ks L ((d, some (b, .ab (φ k))) :: H) nx) : At P F Q c ks L H nx :=
  ⟨fun hW e a w S => by
    obtain ⟨k, hk⟩ := (S.ob d b _ hd).1.1
    exact (h k).h (wf_ab hW hd) e a w (S.weakAb hd (hs k) fun _ => hk)⟩
theorem Aft.ex {κ : Type} {φ : κ → AbP} {b : Bool} (d : Nat) (hd : lookH H d = some (b, .ab (exP φ))) (hs : ∀ k, stable (φ k)) (h : ∀ k, Aft P F Q ks L ((d, some (b, .ab (φ k))) :: H) nx) : Aft P F Q ks L H nx :=
  ⟨fun hW e a w S => by
    obtain ⟨k, hk⟩ := (S.ob d b _ hd).1.1
    exact (h k).h (wf_ab hW hd) e a w (S.weakAb hd (hs k) fun _ => hk)⟩
theorem Done.weak {Q : Act → World → Prop} {φ φ' : AbP} {b : Bool} (d : Nat) (hd : lookH H d = some (b, .ab φ)) (hs : stable φ') (hp : ∀ v F w, φ v F w → φ' v F w) (h : Done F Q L ((d, some (b, .ab φ')) :: H) nx) : Done F Q L H nx :=
  ⟨fun hW e a w S => h.h (wf_ab hW hd) e a w (S.weakAb hd hs (hp _ _ _))⟩
/-- A name's block gets a number. -/
theorem Sat.pinB {L : LL} {m b : Nat} {e : Env} {a : Act} {w : World} (S : Sat F (fun t => look t L) (lookH H) e a w) (hW : WF L H nx) (hm : m < nx) (hb : e.blk m = b) : WF L ((nx, some (false, .pin m b)) :: H) (nx + 1) ∧ ∃ e', Sat F (fun t => look t L) (lookH ((nx, some (false, .pin m b)) :: H)) e' a w := by
  have hsame : ∀ n, n < nx → e.same (e.shut [] nx 0 uv) n := fun n hn => Env.shut_same e (by omega)
  have hno : ∀ g, ¬ (e.shut [] nx 0 uv).fp nx g := by
    intro g hg
    have : (e.shut [] nx 0 uv).fp nx = fun g => ∃ j, j < 0 ∧ e.fp (Vc.ren [] j) g := by
      show (if nx = nx then _ else _) = _
      rw [if_pos rfl]
    rw [this] at hg
    obtain ⟨j, hj, _⟩ := hg
    omega
  refine ⟨⟨fun t v hv n hn => by have := hW.l t v hv n hn; omega, fun n z hz => ?_⟩, e.shut [] nx 0 uv, S.fr, S.sz, S.df, fun t v hv => ?_, fun n c o hz => ?_, fun n o k c q hn hk hne g hg hg' => ?_⟩
  · rw [lookH_cons] at hz
    split at hz
    · cases hz
      exact ⟨by omega, fun k hk => by simp [Ob.ns] at hk; omega⟩
    · obtain ⟨g1, g2⟩ := hW.h n z hz
      exact ⟨by omega, fun k hk => by have := g2 k hk; omega⟩
  · rw [S.sl t v hv]
    exact (SV.den_same fun n hn => hsame n (hW.l t v hv n hn)).symm
  · rw [lookH_cons] at hz
    split at hz
    · rename_i hn
      cases hz
      subst hn
      exact ⟨⟨hno, hb⟩, fun g hg => (hno g hg).elim⟩
    · obtain ⟨h1, h2⟩ := hW.h n _ hz
      obtain ⟨h3, h4⟩ := S.ob n c o hz
      refine ⟨Ob.same (hsame n h1) h3 fun k hk => (hsame k (h2 k hk)).v, fun g hg => ?_⟩
      rw [(hsame n h1).2.2] at hg
      exact h4 g hg
  · rw [lookH_cons] at hn hk
    split at hn
    · cases hn
    · split at hk
      · rename_i h2
        subst h2
        exact hno g hg'
      · rw [(hsame n (hW.h n _ hn).1).2.2] at hg
        rw [(hsame k (hW.h k _ hk).1).2.2] at hg'
        exact S.dj n o k c q hn hk hne g hg hg'
theorem Done.pin {Q : Act → World → Prop} (m : Nat) (hm : Nat.blt m nx = true) (h : ∀ b, Done F Q L ((nx, some (false, .pin m b)) :: H) (nx + 1)) : Done F Q L H nx :=
  ⟨fun hW e a w S => let ⟨hW', e', S'⟩ := S.pinB (m := m) (b := e.blk m) hW (by simpa [Nat.blt_eq] using hm) rfl; (h (e.blk m)).h hW' e' a w S'⟩
theorem At.pin (m : Nat) (hm : Nat.blt m nx = true) (h : ∀ b, At P F Q c ks L ((nx, some (false, .pin m b)) :: H) (nx + 1)) : At P F Q c ks L H nx :=
  ⟨fun hW e a w S => let ⟨hW', e', S'⟩ := S.pinB (m := m) (b := e.blk m) hW (by simpa [Nat.blt_eq] using hm) rfl; (h (e.blk m)).h hW' e' a w S'⟩
theorem Aft.pin (m : Nat) (hm : Nat.blt m nx = true) (h : ∀ b, Aft P F Q ks L ((nx, some (false, .pin m b)) :: H) (nx + 1)) : Aft P F Q ks L H nx :=
  ⟨fun hW e a w S => let ⟨hW', e', S'⟩ := S.pinB (m := m) (b := e.blk m) hW (by simpa [Nat.blt_eq] using hm) rfl; (h (e.blk m)).h hW' e' a w S'⟩
end

/-- A nil slice in a cell gets a name, as a row of its own without elements. -/
theorem At.nilCell {P : Program} {F : Frm} {Q : Exit → Act → World → Prop} {c : Code} {ks : List KI} {L : LL} {H : HL} {nx : Nat} {b : Bool} {cs cs' : List CV} {U : TypeId} (k i : Nat) (T : TypeId) (s : Nat) (hk : lookH H k = some (b, .cells cs U)) (hi : cs[i]? = some .nsl) (hs : cs.set i (.nm nx) = cs')
    (h : At P F Q c ks L ((k, some (b, .cells cs' U)) :: (nx, some (true, .own T s 0 [])) :: H) (nx + 1)) : At P F Q c ks L H nx := by
  subst hs
  refine ⟨fun hW e a w S => h.h ⟨fun t' v hv n hn => ?_, fun n x hx => ?_⟩ (e.newV nx (.slice none 0 0)) a w ?_⟩
  · have := hW.l t' v hv n hn
    omega
  · obtain ⟨g1, g2⟩ := hW.h k _ hk
    rw [lookH_cons] at hx
    split at hx
    · rename_i hn
      cases hx
      refine ⟨by omega, fun m hm => ?_⟩
      simp only [Ob.ns] at hm
      obtain ⟨l, hl, hm⟩ := mem_flatN.1 hm
      obtain ⟨c', hc', rfl⟩ := List.mem_map.1 hl
      rcases List.mem_or_eq_of_mem_set hc' with h1 | h1
      · have := g2 m (by simp only [Ob.ns]; exact mem_flatN.2 ⟨_, List.mem_map.2 ⟨c', h1, rfl⟩, hm⟩)
        omega
      · subst h1
        simp [CV.ns] at hm
        omega
    · rw [lookH_cons] at hx
      split at hx
      · cases hx
        exact ⟨by omega, fun m hm => by simp [Ob.ns] at hm⟩
      · obtain ⟨h1, h2⟩ := hW.h n x hx
        exact ⟨by omega, fun m hm => by have := h2 m hm; omega⟩
  · have hkl := (hW.h k _ hk).1
    have hsame : ∀ n, n < nx → e.same (e.newV nx (.slice none 0 0)) n := fun n hn => Env.newV_same e (by omega)
    have hno : ∀ g, ¬ (e.newV nx (.slice none 0 0)).fp nx g := fun g hg => by
      have := (Env.newV_fp e nx (.slice none 0 0) g).1 hg
      cases this
    have hval : (e.newV nx (.slice none 0 0)).val nx = .slice none 0 0 := Env.newV_val (v := .slice none 0 0) e nx rfl
    have cut : ∀ {n : Nat} {z : Bool × Ob}, lookH ((k, some (b, .cells (cs.set i (.nm nx)) U)) :: (nx, some (true, .own T s 0 [])) :: H) n = some z → n = k ∧ z = (b, .cells (cs.set i (.nm nx)) U) ∨ n = nx ∧ z = (true, .own T s 0 []) ∨ n ≠ k ∧ n ≠ nx ∧ lookH H n = some z := by
      intro n z hz
      rw [lookH_cons] at hz
      split at hz
      · rename_i hn; cases hz; exact .inl ⟨hn, rfl⟩
      · rename_i hn
        rw [lookH_cons] at hz
        split at hz
        · rename_i hn'; cases hz; exact .inr (.inl ⟨hn', rfl⟩)
        · rename_i hn'; exact .inr (.inr ⟨hn, hn', hz⟩)
    have old : ∀ {n : Nat} {z : Bool × Ob}, lookH ((k, some (b, .cells (cs.set i (.nm nx)) U)) :: (nx, some (true, .own T s 0 [])) :: H) n = some z → n ≠ nx → ∃ q, lookH H n = some (z.1, q) := by
      intro n z hz hne
      rcases cut hz with ⟨rfl, rfl⟩ | ⟨h1, _⟩ | ⟨_, _, h1⟩
      · exact ⟨_, hk⟩
      · exact absurd h1 hne
      · exact ⟨_, h1⟩
    refine ⟨S.fr, S.sz, S.df, fun t' v hv => ?_, fun n b' o hx => ?_, fun n o m c' q hn hm hne g hg hg' => ?_⟩
    · rw [S.sl t' v hv]
      exact (SV.den_same fun n hn => hsame n (hW.l t' v hv n hn)).symm
    · rcases cut hx with ⟨rfl, hz⟩ | ⟨rfl, hz⟩ | ⟨h1, h2, hz⟩
      · cases hz
        obtain ⟨⟨q1, q2⟩, q3⟩ := S.ob _ _ _ hk
        have hs := hsame n hkl
        refine ⟨⟨by rw [hs.2.2, hs.1]; exact q1, ?_⟩, fun g hg => by rw [hs.2.2] at hg; exact q3 g hg⟩
        rw [hs.1, q2]
        have hcs : (cs.set i (.nm nx)).map (CV.den (e.newV nx (.slice none 0 0))) = cs.map (CV.den e) := by
          have hold := cells_samev (e := e) (e' := e.newV nx (.slice none 0 0)) (cs := cs) fun m hm => (hsame m ((hW.h n _ hk).2 m hm)).v
          rw [List.map_set, hold]
          apply List.ext_getElem?
          intro j
          rw [List.getElem?_set]
          split
          · rename_i hj
            subst hj
            have : i < cs.length := (List.getElem?_eq_some_iff.1 hi).1
            rw [if_pos (by simpa using this), List.getElem?_map, hi]
            simp [CV.den, hval]
          · rfl
        rw [hcs]
      · cases hz
        exact ⟨⟨⟨by simp, .inl ⟨hval, rfl⟩⟩, fun g => by rw [Env.newV_fp, hval]⟩, fun g hg => (hno g hg).elim⟩
      · obtain ⟨g1, g2⟩ := hW.h n _ hz
        obtain ⟨h3, h4⟩ := S.ob n b' o hz
        have hs := hsame n g1
        refine ⟨Ob.same hs h3 fun m hm => (hsame m (g2 m hm)).v, fun g hg => ?_⟩
        rw [hs.2.2] at hg
        exact h4 g hg
    · have hnn : n ≠ nx := fun h => by subst h; exact hno g hg
      have hmm : m ≠ nx := fun h => by subst h; exact hno g hg'
      obtain ⟨q1, h1⟩ := old hn hnn
      obtain ⟨q2, h2⟩ := old hm hmm
      rw [(hsame n (hW.h n _ h1).1).2.2] at hg
      rw [(hsame m (hW.h m _ h2).1).2.2] at hg'
      exact S.dj n q1 m c' q2 h1 h2 hne g hg hg'

/-- What a call leaves that changes things: the value, and these things, by names from 0 on. -/
def MPost (w : World) (W : Nat → Prop) (v : SV) (all : List (Bool × Ob)) (en : Ending) (w' : World) : Prop :=
  ∃ e, en = .returned (v.den e) ∧ Keeps ⟨w, W, 0⟩ w' ∧ (∀ (k : Nat) (b : Bool) (o : Ob), all[k]? = some (b, o) → o.holds e k w' ∧ ∀ g, e.fp k g → g < w'.heap.size ∧ (w.heap.size ≤ g ∨ W g)) ∧
    ∀ j k, j < all.length → k < all.length → j ≠ k → ∀ g, e.fp j g → ¬ e.fp k g
theorem mpost_of {F : Frm} {L : LL} {H : HL} {ρ : List (Nat × Nat)} {e : Env} {a : Act} {w : World} {w0 : World} {W : Nat → Prop} {N : Nat} {v v' : SV} {all : List (Bool × Ob)} (hF : F = ⟨w0, W, N⟩) (S : Sat F (fun t => look t L) (lookH H) e a w) (hv : allP (v'.eqs ρ v)) (hH : allP (subH ρ H (newsH 0 all))) (hi : injK ρ (keysH (newsH 0 all)) [] = true) (hb : allNew all = true) : MPost w0 W v all (.returned (v'.den e)) w := by
  subst hF
  have S' := S.sub (L' := []) ρ trivial hH hi
  refine ⟨e.ren ρ, by rw [SV.eqs_ok (e := e) hv], ⟨S.fr.os, S.fr.tape, S.fr.out, S.fr.size, S.fr.block⟩, fun k b o hk => ?_, fun j k hj hk hne g hg hg' => ?_⟩
  · have hl : lookH (newsH 0 all) k = some (b, o) := by rw [lookH_newsH, if_pos (by omega), Nat.sub_zero]; exact hk
    obtain ⟨h1, h2⟩ := S'.ob k b o hl
    exact ⟨h1, fun g hg => ⟨(h2 g hg).1, (h2 g hg).2 (allNew_ok hb k b o hk)⟩⟩
  · have e1 : all[j]? = some (all[j].1, all[j].2) := by rw [List.getElem?_eq_getElem hj]
    have e2 : all[k]? = some (all[k].1, all[k].2) := by rw [List.getElem?_eq_getElem hk]
    have l1 : lookH (newsH 0 all) j = some (all[j].1, all[j].2) := by rw [lookH_newsH, if_pos (by omega), Nat.sub_zero]; exact e1
    have l2 : lookH (newsH 0 all) k = some (all[k].1, all[k].2) := by rw [lookH_newsH, if_pos (by omega), Nat.sub_zero]; exact e2
    rw [allNew_ok hb j _ _ e1] at l1
    exact S'.dj _ _ _ _ _ l1 l2 hne g hg hg'
theorem retM {P : Program} {w0 : World} {W : Nat → Prop} {N : Nat} {L : LL} {H : HL} {nx : Nat} {tys : List (Nat × Ty)} (hty : TysOk P tys) {fn : Func} {v : SV} {all : List (Bool × Ob)} {vs : List TV} (ρ : List (Nat × Nat)) (h : outV (fun t => look t tys) L H fn.results.toList = some vs)
    (hv : allP ((retS vs).eqs ρ v)) (hH : allP (subH ρ H (newsH 0 all))) (hi : injK ρ (keysH (newsH 0 all)) [] = true) (hb : allNew all = true) : Done ⟨w0, W, N⟩ (bodyPost P fn (MPost w0 W v all) .ret) L H nx :=
  ⟨fun _ _ _ _ S => ⟨S.df, _, run_results hty S h, mpost_of rfl S hv hH hi hb⟩⟩
def ixOf (m : Nat) : List (Nat × AbP) → Option Nat
  | [] => none
  | u :: l => if u.1 = m then some 0 else (ixOf m l).map (· + 1)
theorem ixOf_some {m : Nat} : ∀ {l : List (Nat × AbP)} {i : Nat}, ixOf m l = some i → ∃ φ, l[i]? = some (m, φ)
  | [], i, h => by cases h
  | u :: l, i, h => by
    unfold ixOf at h
    split at h
    · rename_i hu
      cases h
      exact ⟨u.2, by rw [← hu]; rfl⟩
    · cases hl : ixOf m l with
      | none => rw [hl] at h; cases h
      | some j =>
        rw [hl] at h
        cases h
        obtain ⟨φ, hφ⟩ := ixOf_some hl
        exact ⟨φ, hφ⟩
theorem ixOf_mem {m : Nat} {φ : AbP} : ∀ {l : List (Nat × AbP)}, (l.map (·.1)).Nodup → (m, φ) ∈ l → ∃ i, ixOf m l = some i ∧ l[i]? = some (m, φ)
  | [], _, h => by cases h
  | u :: l, hn, h => by
    rw [List.map_cons, List.nodup_cons] at hn
    rcases List.mem_cons.1 h with h | h
    · subst h
      exact ⟨0, by simp [ixOf], rfl⟩
    · have hne : u.1 ≠ m := fun e => hn.1 (by rw [e]; exact List.mem_map.2 ⟨_, h, rfl⟩)
      obtain ⟨i, h1, h2⟩ := ixOf_mem hn.2 h
      exact ⟨i + 1, by simp [ixOf, hne, h1], h2⟩
def Env.upd (e e1 : Env) (nx k M : Nat) (us : List (Nat × AbP)) : Env :=
  ⟨fun m => if nx ≤ m ∧ m < nx + k then e1.blk (M + (m - nx)) else e.blk m, fun m => if nx ≤ m ∧ m < nx + k then e1.val (M + (m - nx)) else e.val m, fun m => if nx ≤ m ∧ m < nx + k then e1.fp (M + (m - nx)) else match ixOf m us with
    | some i => e1.fp i
    | none => e.fp m, fun m => by
    show (if nx ≤ m ∧ m < nx + k then e1.val (M + (m - nx)) else e.val m).oneCell' = true
    split
    · exact e1.one _
    · exact e.one m⟩
/-- A function that changes things told by names, and makes some. -/
theorem fnM {P : Program} {f : FuncId} {fn : Func} {c : Code} (N : Nat) (hf : P.funcs[f]? = some fn) (hb : fn.body = some c) (hN : fn.ntmps = N) {args args' : List TV} {H H' : HL} {nx nx' : Nat} {v v' : SV} {news news' : List (Bool × Ob)} {upd : List (Nat × Option Ob)} (us : List (Nat × AbP))
    (hM : ∀ e w, MemOk H e w → ∃ e', Mem (fun g => ∃ u ∈ us, e.fp u.1 g) H' e' w ∧ args.map (TV.den e) = args'.map (TV.den e')) (hl : Nat.ble args'.length N = true) (hW : wfL nx' (argsL 0 (args'.map .t)) = true) (hW2 : wfH nx' H' = true)
    (hp : ∀ e w, MemOk H e w → ∀ u ∈ us, ∀ v F w', u.2 v F w' → v = e.val u.1) (hd : ∀ u ∈ us, ∃ x, lookH H u.1 = some x) (hnd : (us.map (·.1)).Nodup)
    (hv : v'.re (fun n => nx + (n - us.length)) = v) (hnw : reN (fun n => nx + (n - us.length)) news' = news) (hu : us.map (fun u => (u.1, some (.ab u.2))) = upd)
    (hvr : inR us.length (us.length + news'.length) v'.ns = true) (hnr : newsR us.length (us.length + news'.length) news' = true)
    (hg : ∀ w W, At P ⟨w, W, N⟩ (bodyPost P fn (MPost w W v' (us.map (fun u => (true, .ab u.2)) ++ news'))) c [] (argsL 0 (args'.map .t)) H' nx') : FnH P f args H nx ⟨v, news, upd, []⟩ := by
  subst hv hnw hu
  refine ⟨fun hwf _ e w M => ?_⟩
  obtain ⟨e', M', he⟩ := hM e w M
  have := call_at N hf hb hN (args'.map .t) e' H' nx' _ (w := w) (by simpa using Nat.le_of_ble_eq_true hl) (wf hW hW2) M' (hg w _)
  rw [List.map_map] at this
  rw [he]
  refine Calls.mono this ?_
  rintro en w' ⟨e1, rfl, K, h1, h2⟩
  have hlen : (us.map (fun u => (true, Ob.ab u.2)) ++ news').length = us.length + news'.length := by simp
  rw [hlen] at h2
  have hus : ∀ {i : Nat} {m : Nat} {φ : AbP}, us[i]? = some (m, φ) → i < us.length ∧ φ (e1.val i) (e1.fp i) w' ∧ stable φ ∧ ∀ g, e1.fp i g → g < w'.heap.size ∧ (w.heap.size ≤ g ∨ ∃ u ∈ us, e.fp u.1 g) := by
    intro i m φ hi
    have hlt : i < us.length := by
      rcases Nat.lt_or_ge i us.length with h | h
      · exact h
      · rw [List.getElem?_eq_none h] at hi; cases hi
    obtain ⟨q1, q2⟩ := h1 i true (.ab φ) (by rw [List.getElem?_append_left (by simpa using hlt), List.getElem?_map, hi]; rfl)
    exact ⟨hlt, q1.1, q1.2, q2⟩
  have hnews : ∀ {k : Nat} {b : Bool} {o : Ob}, news'[k]? = some (b, o) → k < news'.length ∧ o.holds e1 (us.length + k) w' ∧ ∀ g, e1.fp (us.length + k) g → g < w'.heap.size ∧ (w.heap.size ≤ g ∨ ∃ u ∈ us, e.fp u.1 g) := by
    intro k b o hk
    have hlt : k < news'.length := by
      rcases Nat.lt_or_ge k news'.length with h | h
      · exact h
      · rw [List.getElem?_eq_none h] at hk; cases hk
    obtain ⟨q1, q2⟩ := h1 (us.length + k) b o (by rw [List.getElem?_append_right (by simp), List.length_map, Nat.add_sub_cancel_left]; exact hk)
    exact ⟨hlt, q1, q2⟩
  generalize hM2 : us.length = M2 at *
  have hlow : ∀ u ∈ us, u.1 < nx := fun u hu => let ⟨x, hx⟩ := hd u hu; (hwf u.1 x hx).1
  have as_new : ∀ {n : Nat}, M2 ≤ n → n < M2 + news'.length → e1.as (e.upd e1 nx news'.length M2 us) n (nx + (n - M2)) ∧ (e.upd e1 nx news'.length M2 us).fp (nx + (n - M2)) = e1.fp n := by
    intro n h1 h2
    have hc : nx ≤ nx + (n - M2) ∧ nx + (n - M2) < nx + news'.length := by omega
    have hq : M2 + (nx + (n - M2) - nx) = n := by omega
    refine ⟨⟨?_, ?_⟩, ?_⟩
    · show (if _ then _ else _) = _; rw [if_pos hc, hq]
    · show (if _ then _ else _) = _; rw [if_pos hc, hq]
    · show (if _ then _ else _) = _; rw [if_pos hc, hq]
  have old_v : ∀ {n : Nat}, (n < nx ∨ nx + news'.length ≤ n) → e.samev (e.upd e1 nx news'.length M2 us) n := by
    intro n h
    have hc : ¬ (nx ≤ n ∧ n < nx + news'.length) := by omega
    refine ⟨?_, ?_⟩
    · show (if _ then _ else _) = _; rw [if_neg hc]
    · show (if _ then _ else _) = _; rw [if_neg hc]
  have old_f : ∀ {n : Nat}, (n < nx ∨ nx + news'.length ≤ n) → ixOf n us = none → (e.upd e1 nx news'.length M2 us).fp n = e.fp n := by
    intro n h hi
    have hc : ¬ (nx ≤ n ∧ n < nx + news'.length) := by omega
    show (if _ then _ else _) = _
    rw [if_neg hc, hi]
  have upd_f : ∀ {n i : Nat}, n < nx → ixOf n us = some i → (e.upd e1 nx news'.length M2 us).fp n = e1.fp i := by
    intro n i h hi
    have hc : ¬ (nx ≤ n ∧ n < nx + news'.length) := by omega
    show (if _ then _ else _) = _
    rw [if_neg hc, hi]
  have hmem : ∀ {n : Nat} {o : Option Ob}, (n, o) ∈ us.map (fun u => (u.1, some (Ob.ab u.2))) → ∃ φ i, o = some (.ab φ) ∧ (n, φ) ∈ us ∧ ixOf n us = some i ∧ us[i]? = some (n, φ) ∧ n < nx := by
    intro n o h
    obtain ⟨u, hu, he⟩ := List.mem_map.1 h
    cases he
    obtain ⟨i, q1, q2⟩ := ixOf_mem hnd hu
    exact ⟨u.2, i, rfl, hu, q1, q2, hlow u hu⟩
  have hreach : ∀ {g : Nat}, (∃ u ∈ us, e.fp u.1 g) → ∃ n o, (n, o) ∈ us.map (fun u => (u.1, some (Ob.ab u.2))) ∧ e.fp n g := fun ⟨u, hu, hg⟩ => ⟨u.1, _, List.mem_map.2 ⟨u, hu, rfl⟩, hg⟩
  refine ⟨e.upd e1 nx news'.length M2 us, ?_, .anew ⟨?_, K.os, K.tape, K.out, K.size, ?_, ?_, ?_, ?_, ?_, ?_⟩⟩
  · show Ending.returned (v'.den e1) = _
    rw [SV.re_den (e := e1) fun n hn => (as_new (inR_ok hvr n hn).1 (inR_ok hvr n hn).2).1]
  · intro n hn
    simp only [reN_length] at hn
    refine ⟨old_v hn, fun ho => old_f hn ?_⟩
    cases hi : ixOf n us with
    | none => rfl
    | some i =>
      obtain ⟨φ, hφ⟩ := ixOf_some hi
      exact (ho (some (.ab φ)) (List.mem_map.2 ⟨(n, φ), List.mem_of_getElem? hφ, rfl⟩)).elim
  · intro g hg hno
    refine K.block g hg fun ⟨u, hu, hgf⟩ => hno u.1 (some (.ab u.2)) (List.mem_map.2 ⟨u, hu, rfl⟩) hgf
  · intro k b o hk
    rw [reN_get] at hk
    cases hk' : news'[k]? with
    | none => rw [hk'] at hk; cases hk
    | some z =>
      rw [hk'] at hk
      cases hk
      obtain ⟨b, o⟩ := z
      obtain ⟨q1, q2, q3⟩ := hnews hk'
      obtain ⟨p1, p2⟩ := as_new (n := M2 + k) (by omega) (by omega)
      rw [Nat.add_sub_cancel_left] at p1 p2
      refine ⟨Ob.re_holds p1 p2 (fun m hm => (as_new (newsR_ok hnr k b o hk' m hm).1 (newsR_ok hnr k b o hk' m hm).2).1) q2, fun g hg => ?_⟩
      rw [p2] at hg
      exact ⟨(q3 g hg).1, (q3 g hg).2.imp id hreach⟩
  · intro n o ho
    obtain ⟨φ, i, h3, h4, h5, h6, h7⟩ := hmem ho
    cases h3
    obtain ⟨_, q2, q3, q4⟩ := hus h6
    have hval : e1.val i = e.val n := hp e w M (n, φ) h4 _ _ _ q2
    rw [upd_f h7 h5]
    refine ⟨⟨?_, q3⟩, fun g hg => ⟨(q4 g hg).1, (q4 g hg).2.imp id hreach⟩⟩
    rw [(old_v (.inl h7)).2, ← hval, upd_f h7 h5]
    exact q2
  · intro j k hj hk hne g hg hg'
    rw [reN_length] at hj hk
    have a1 := (as_new (n := M2 + j) (by omega) (by omega)).2
    have a2 := (as_new (n := M2 + k) (by omega) (by omega)).2
    rw [Nat.add_sub_cancel_left] at a1 a2
    rw [a1] at hg
    rw [a2] at hg'
    exact h2 _ _ (by omega) (by omega) (by omega) g hg hg'
  · intro n o m q hn hm hne g hg hg'
    obtain ⟨φ, i, _, h4, h5, h6, h7⟩ := hmem hn
    obtain ⟨φ', i', _, h4', h5', h6', h7'⟩ := hmem hm
    rw [upd_f h7 h5] at hg
    rw [upd_f h7' h5'] at hg'
    have hii : i ≠ i' := fun e => hne (by rw [e, h6'] at h6; cases h6; rfl)
    exact h2 _ _ (by have := (hus h6).1; omega) (by have := (hus h6').1; omega) hii g hg hg'
  · intro n o k hn hk g hg hg'
    obtain ⟨φ, i, _, h4, h5, h6, h7⟩ := hmem hn
    rw [reN_length] at hk
    have a2 := (as_new (n := M2 + k) (by omega) (by omega)).2
    rw [Nat.add_sub_cancel_left] at a2
    rw [upd_f h7 h5] at hg
    rw [a2] at hg'
    have := (hus h6).1
    exact h2 _ _ (by omega) (by omega) (by omega) g hg hg'
end Vc
namespace Vc
open Go Go.RowKit

def Env.comp (e : Env) (r : Nat → Nat) : Env := ⟨fun n => e.blk (r n), fun n => e.val (r n), fun n => e.fp (r n), fun n => e.one (r n)⟩
theorem CV.comp_den (e : Env) (r : Nat → Nat) (c : CV) : (c.re r).den e = c.den (e.comp r) := CV.re_den (e := e.comp r) (e' := e) fun n _ => ⟨rfl, rfl⟩
theorem TV.comp_den (e : Env) (r : Nat → Nat) (c : TV) : (c.re r).den e = c.den (e.comp r) := TV.re_den (e := e.comp r) (e' := e) fun n _ => ⟨rfl, rfl⟩
theorem reC_comp (e : Env) (r : Nat → Nat) (cs : List CV) : (reC r cs).map (CV.den e) = cs.map (CV.den (e.comp r)) := reC_den (e := e.comp r) (e' := e) fun n _ => ⟨rfl, rfl⟩
theorem Ob.re_back {e : Env} {r : Nat → Nat} {n : Nat} {w : World} {o : Ob} (h : (o.re r).holds e (r n) w) : o.holds (e.comp r) n w := by
  cases o with
  | cells cs t => exact ⟨h.1, by have := h.2; rw [reC_comp] at this; exact this⟩
  | _ => exact h
/-- A function that reads things under names of its own. -/
def rdsOk (r : Nat → Nat) (H : HL) : HL → Prop
  | [] => True
  | (n, some (false, o)) :: l => (∃ b0, lookH H (r n) = some (b0, o.re r)) ∧ rdsOk r H l
  | _ => False
theorem rdsOk_ok {r : Nat → Nat} {H : HL} : ∀ {H' : HL}, rdsOk r H H' → ∀ n b o, lookH H' n = some (b, o) → b = false ∧ ∃ b0, lookH H (r n) = some (b0, o.re r)
  | [], _, n, b, o, h => by cases h
  | (m, some (false, o')) :: l, hr, n, b, o, h => by
    rw [lookH_cons] at h
    split at h
    · rename_i hn
      cases h
      subst hn
      exact ⟨rfl, hr.1⟩
    · exact rdsOk_ok hr.2 n b o h
  | (m, some (true, o')) :: l, hr, n, b, o, h => hr.elim
  | (m, none) :: l, hr, n, b, o, h => hr.elim
theorem mem_rd (r : Nat → Nat) {H H' : HL} (h : rdsOk r H H') {e : Env} {w : World} (M : MemOk H e w) : Mem (fun _ => False) H' (e.comp r) w := by
  refine ⟨fun n b o hn => ?_, fun n o m c q hn hm hne => ?_⟩
  · obtain ⟨hb, b0, h0⟩ := rdsOk_ok h n b o hn
    obtain ⟨h1, h2⟩ := M.ob _ _ _ h0
    exact ⟨Ob.re_back h1, fun g hg => ⟨h2 g hg, fun hb' => by rw [hb] at hb'; cases hb'⟩⟩
  · have := (rdsOk_ok h n true o hn).1
    cases this
/-- A method that changes the thing it is called of. -/
theorem fnA {P : Program} {f : FuncId} {fn : Func} {c : Code} (N : Nat) (hf : P.funcs[f]? = some fn) (hb : fn.body = some c) (hN : fn.ntmps = N) {d : Nat} {bs : List TV} {H : HL} {nx : Nat} {φ φ' : AbP} {v v' : SV} {news news' : List (Bool × Ob)}
    (hd : lookH H d = some (true, .ab φ)) (v0 : Value) (hp0 : Pins φ v0) (hp1 : Pins φ' v0) (hbs : bares bs = true) (hl : Nat.ble (bs.length + 1) N = true) (hW : wfL 1 (argsL 0 ((TV.c (.nm 0) :: bs).map .t)) = true)
    (hv : v'.re (fun n => nx + (n - 1)) = v) (hnw : reN (fun n => nx + (n - 1)) news' = news) (hvr : inR 1 (1 + news'.length) v'.ns = true) (hnr : newsR 1 (1 + news'.length) news' = true)
    (hg : ∀ w W, At P ⟨w, W, N⟩ (bodyPost P fn (MPost w W v' ((true, .ab φ') :: news'))) c [] (argsL 0 ((TV.c (.nm 0) :: bs).map .t)) [(0, some (true, .ab φ))] 1) : FnH P f (.c (.nm d) :: bs) H nx ⟨v, news, [(d, some (.ab φ'))], []⟩ := by
  refine fnM N hf hb hN (args' := .c (.nm 0) :: bs) (H' := [(0, some (true, .ab φ))]) (nx' := 1) [(d, φ')] (fun e w M => ?_) hl hW rfl (fun e w M u hu v1 F w' h => ?_) (fun u hu => ?_) (by simp) hv hnw rfl hvr hnr hg
  · refine ⟨e.comp fun _ => d, ⟨fun n b o hn => ?_, fun n o m c q hn hm hne => ?_⟩, ?_⟩
    · rw [lookH_cons] at hn
      split at hn
      · cases hn
        obtain ⟨h1, h2⟩ := M.ob d true _ hd
        exact ⟨h1, fun g hg => ⟨h2 g hg, fun _ => ⟨(d, φ'), by simp, hg⟩⟩⟩
      · cases hn
    · rw [lookH_cons] at hn hm
      split at hn
      · split at hm
        · omega
        · cases hm
      · cases hn
    · rw [List.map_cons, List.map_cons, bares_den hbs e, ← bares_den hbs (e.comp fun _ => d)]
      rfl
  · simp only [List.mem_singleton] at hu
    subst hu
    rw [hp1 _ _ _ h]
    exact (hp0 _ _ _ (M.ob d true _ hd).1.1).symm
  · simp only [List.mem_singleton] at hu
    subst hu
    exact ⟨_, hd⟩
/-- A thing is not nil. -/
def NotNil (φ : AbP) : Prop := ∀ v F w, φ v F w → ∃ b, v = ptr b
theorem NotNil.pins {φ : AbP} {b : Nat} (h : Pins φ (ptr b)) : NotNil φ := fun v F w hp => ⟨b, h v F w hp⟩
theorem NotNil.ex {φ : Nat → AbP} (h : ∀ b, Pins (φ b) (ptr b)) : NotNil (exP φ) := fun v F w ⟨b, hb⟩ => ⟨b, h b v F w hb⟩
theorem spec_nil {P : Program} {L : LL} {H : HL} {nx d : Nat} {b : Bool} {φ : AbP} {tys : List (Nat × Ty)} (hty : TysOk P tys) {o : Oper} {T T' : TypeId} {x y : Operand} {I : Ty} (hop : o.op = .binOp .eql T x y T') (hx : ev L x = some (.c (.nm d))) (hy : ev L y = some (.c .np)) (hT : look T tys = some I) (hI : I.d = .ptr)
    (hd : lookH H d = some (b, .ab φ)) (hp : NotNil φ) : Spec P L H nx o ⟨.t (.c (.b false)), [], [], []⟩ := by
  refine ⟨fun F => step_pure fun e a w S => ?_⟩
  obtain ⟨dt, hd', hId⟩ := (hty _ _ hT).und
  rw [hI] at hId
  obtain ⟨el, rfl⟩ := hId
  obtain ⟨v0, hv0⟩ := hp _ _ _ (S.ob d b _ hd).1.1
  have hv : a.eval x = ptr v0 := by
    rw [ev_ok S hx]
    exact hv0
  have heq : (Op.equal T (ptr v0) (.pointer none)).run P w = .ok false w := eq_pn 9999 hd' _
  have hbin := run_eq (w := w) (op := .eql) rfl (T := T) (x := ptr v0) (y := .pointer none) (r := false) heq (by simp [ptr]) (by simp [ptr]) (by simp [ptr]) (by simp [ptr])
  have hg : (eqGuard .eql T x y (ptr v0) (.pointer none)).run P w = .ok () w := rfl
  simp only [execOp, hop, Sem.run_bind, hv, ev_ok S hy, TV.den, CV.den, hg, Result.andThen_ok, hbin, Sem.run_pure]
  rfl
end Vc
