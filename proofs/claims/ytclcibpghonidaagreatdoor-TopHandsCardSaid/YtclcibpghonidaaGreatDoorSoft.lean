/- Functions that change several things, and read others. -/
import Derived.Test.YtclcibpghonidaaGreatDoorFnAs
import Derived.Test.YtclcibpghonidaaGreatDoorDepR
import Derived.Test.YtclcibpghonidaaGreatDoorDepN
import Derived.Test.YtclcibpghonidaaGreatDoorDisk
import Derived.Test.YtclcibpghonidaaGreatDoorDepC
import Derived.Test.YtclcibpghonidaaGreatDoorBook
import Derived.Test.YtclcibpghonidaaGreatDoorDepM
namespace Cw
open Go Vc
open Go.Proofs
set_option maxRecDepth 100000
/-- A new change's slice joins the others. -/
theorem Sat.grow {F : Frm} {L : LL} {H : HL} {nx : Nat} {V : DV} {W : List (List Int × Option Addr × Nat)} {last : Int} {b : Nat} {c : Ch} (d q : Nat) (hd : lookH H d = some (true, .ab (adP V last b c))) (hq : lookH H q = some (true, .ab (frzP W))) (hdq : d ≠ q) {e : Env} {a : Act} {w : World} (hW : WF L H nx) (S : Sat F (fun t => look t L) (lookH H) e a w) :
    ∃ v e', WF L ((q, some (true, .ab (frzP (W ++ [(c.ah, v)])))) :: (d, some (true, .ab (depP (V ++ [(c, v)]) (last + 1) b))) :: H) nx ∧ Sat F (fun t => look t L) (lookH ((q, some (true, .ab (frzP (W ++ [(c.ah, v)])))) :: (d, some (true, .ab (depP (V ++ [(c, v)]) (last + 1) b))) :: H)) e' a w := by
  obtain ⟨⟨hp, _⟩, hbd⟩ := S.ob d true _ hd
  obtain ⟨⟨hfq, _⟩, hbq⟩ := S.ob q true _ hq
  obtain ⟨v, e1, h1, h2, h3, h4, h5⟩ := hp
  have hl : (adO V last b c v).length = 4 := rfl
  rw [hl] at h3 h4
  let f : Nat → Nat → Prop := fun n g => if n = d then ∃ k, k < 3 ∧ e1.fp k g else if n = q then e.fp q g ∨ e1.fp 3 g else e.fp n g
  have fd : ∀ g, f d g ↔ ∃ k, k < 3 ∧ e1.fp k g := fun g => by show (if _ then _ else _) ↔ _; rw [if_pos rfl]
  have fq : ∀ g, f q g ↔ e.fp q g ∨ e1.fp 3 g := fun g => by show (if _ then _ else _) ↔ _; rw [if_neg (fun h => hdq h.symm), if_pos rfl]
  have fo : ∀ n, n ≠ d → n ≠ q → ∀ g, f n g ↔ e.fp n g := fun n h h' g => by show (if _ then _ else _) ↔ _; rw [if_neg h, if_neg h']
  have d3 : ∀ g, e1.fp 3 g → e.fp d g := fun g hg => (h4 g).2 ⟨3, by decide, hg⟩
  have dk : ∀ g, (∃ k, k < 3 ∧ e1.fp k g) → e.fp d g := fun g ⟨k, hk, hg⟩ => (h4 g).2 ⟨k, by omega, hg⟩
  have hdv : depP (V ++ [(c, v)]) (last + 1) b (e.val d) (f d) w := by
    refine ⟨e1, h1, fun k b' o hk => ?_, fun j k hj hk => ?_, fd, fun g hg => h5 g (dk g ((fd g).1 hg))⟩
    · match k, hk with
      | 0, hk => exact h2 0 b' o hk
      | 1, hk =>
        cases hk
        have := h2 1 _ _ rfl
        rwa [show (V ++ [(c, v)]).length = V.length + 1 by simp]
      | 2, hk => exact h2 2 b' o hk
      | k + 3, hk => simp [depO] at hk
    · have : (depO (V ++ [(c, v)]) (last + 1) b).length = 3 := rfl
      exact h3 j k (by omega) (by omega)
  have hqv : frzP (W ++ [(c.ah, v)]) (e.val q) (f q) w := frzP_app hfq (h2 3 _ _ rfl).1.1 (fun g hg => (fq g).2 (.inl hg)) fun g hg => (fq g).2 (.inr hg)
  refine ⟨v, Env.fps e f, ⟨hW.l, fun n z hz => ?_⟩, ⟨S.fr, S.sz, S.df, S.sl, fun n b' o hn => ?_, fun n o m b' o' hn hm hne g hg hg' => ?_⟩⟩
  · rw [lookH_cons] at hz
    split at hz
    · rename_i h0
      cases hz; subst h0
      exact ⟨(hW.h n _ hq).1, fun m hm => by simp [Ob.ns] at hm⟩
    · rw [lookH_cons] at hz
      split at hz
      · rename_i h0
        cases hz; subst h0
        exact ⟨(hW.h n _ hd).1, fun m hm => by simp [Ob.ns] at hm⟩
      · exact hW.h n z hz
  · rw [lookH_cons] at hn
    split at hn
    · rename_i h0
      cases hn; subst h0
      exact ⟨⟨hqv, frzP_stable _⟩, fun g hg => ((fq g).1 hg).elim (hbq g) fun hg => hbd g (d3 g hg)⟩
    · rename_i hnq
      rw [lookH_cons] at hn
      split at hn
      · rename_i h0
        cases hn; subst h0
        exact ⟨⟨hdv, absP_stable _ _⟩, fun g hg => hbd g (dk g ((fd g).1 hg))⟩
      · rename_i hnd
        obtain ⟨k1, k2⟩ := S.ob n b' o hn
        have hs : ∀ g, f n g ↔ e.fp n g := fo n hnd hnq
        have hfe : (Env.fps e f).fp n = e.fp n := funext fun g => propext (hs g)
        refine ⟨Ob.same (e := e) (e' := Env.fps e f) ⟨rfl, rfl, hfe⟩ k1 fun m _ => ⟨rfl, rfl⟩, fun g hg => k2 g ((hs g).1 hg)⟩
  · -- where a name's blocks were
    have was : ∀ {n : Nat} {g : Nat}, f n g → e.fp n g ∨ n = q ∧ e.fp d g := fun {n g} hf => by
      by_cases h1 : n = d
      · subst h1; exact .inl (dk g ((fd g).1 hf))
      · by_cases h2 : n = q
        · subst h2
          exact ((fq g).1 hf).elim .inl fun h => .inr ⟨rfl, d3 g h⟩
        · exact .inl ((fo n h1 h2 g).1 hf)
    have old : ∀ {n : Nat} {z : Bool × Ob}, lookH ((q, some (true, .ab (frzP (W ++ [(c.ah, v)])))) :: (d, some (true, .ab (depP (V ++ [(c, v)]) (last + 1) b))) :: H) n = some z → ∃ o, lookH H n = some (z.1, o) := by
      intro n z hz
      rw [lookH_cons] at hz
      split at hz
      · rename_i h0; cases hz; subst h0; exact ⟨_, hq⟩
      · rw [lookH_cons] at hz
        split at hz
        · rename_i h0; cases hz; subst h0; exact ⟨_, hd⟩
        · exact ⟨z.2, hz⟩
    obtain ⟨on, hn'⟩ := old hn
    obtain ⟨om, hm'⟩ := old hm
    have hg1 : f n g := hg
    have hg2 : f m g := hg'
    by_cases c1 : n = q
    · subst c1
      rcases (fq g).1 hg1 with hx | hx
      · rcases was hg2 with hy | ⟨rfl, _⟩
        · exact S.dj n _ m _ _ hn' hm' hne g hx hy
        · exact hne rfl
      · by_cases c2 : m = d
        · subst c2
          obtain ⟨k, hk, hy⟩ := (fd g).1 hg2
          exact h3 k 3 (by omega) (by omega) (by omega) g hy hx
        · rcases was hg2 with hy | ⟨rfl, _⟩
          · exact S.dj d _ m _ _ hd hm' (fun h => c2 h.symm) g (d3 g hx) hy
          · exact hne rfl
    · rcases was hg1 with hx | ⟨h0, _⟩
      · by_cases c2 : m = q
        · subst c2
          rcases (fq g).1 hg2 with hy | hy
          · exact S.dj n _ m _ _ hn' hm' hne g hx hy
          · by_cases c3 : n = d
            · subst c3
              obtain ⟨k, hk, hx'⟩ := (fd g).1 hg1
              exact h3 k 3 (by omega) (by omega) (by omega) g hx' hy
            · exact S.dj n _ d _ _ hn' hd c3 g hx (d3 g hy)
        · rcases was hg2 with hy | ⟨h0, _⟩
          · exact S.dj n _ m _ _ hn' hm' hne g hx hy
          · exact c2 h0
      · exact c1 h0
theorem Done.growP {F : Frm} {Q : Act → World → Prop} {L : LL} {H : HL} {nx b : Nat} {V : DV} {W : List (List Int × Option Addr × Nat)} {R R' : List Ch} {at' o : Int} {t : ByteArray} {xs : List Int} (d q : Nat) (hd : lookH H d = some (true, .ab (adP V R.length b (newC (und R) R.length at' (o, t) xs)))) (hq : lookH H q = some (true, .ab (frzP W))) (hdq : d ≠ q) (hR : DR V W R)
    (he : adB R.length at' o t V.length xs = 0) (zx : xs.length + V.length ≤ 17592186044416) (zt : t.size ≤ 9223372036854775807) (zr : R.length < 100000) (hR' : R ++ [newC (und R) R.length at' (o, t) xs] = R')
    (h : ∀ V' W', DR V' W' R' → Done F Q L ((q, some (true, .ab (frzP W'))) :: (d, some (true, .ab (depP V' R'.length b))) :: H) nx) : Done F Q L H nx := by
  refine ⟨fun hW e a w S => ?_⟩
  obtain ⟨v, e', hW', S'⟩ := Sat.grow d q hd hq hdq hW S
  have h1 := hR.add he zx zt zr v
  rw [hR.eq] at h1
  subst hR'
  have := h _ _ h1
  rw [show (((R ++ [newC (und R) R.length at' (o, t) xs]).length : Nat) : Int) = (R.length : Int) + 1 by simp] at this
  exact this.h hW' e' a w S'
theorem Done.ex {κ : Type} {F : Frm} {Q : Act → World → Prop} {L : LL} {H : HL} {nx : Nat} {φ : κ → AbP} {b : Bool} (d : Nat) (hd : lookH H d = some (b, .ab (exP φ))) (hs : ∀ k, stable (φ k)) (h : ∀ k, Done F Q L ((d, some (b, .ab (φ k))) :: H) nx) : Done F Q L H nx :=
  ⟨fun hW e a w S => by
    obtain ⟨k, hk⟩ := (S.ob d b _ hd).1.1
    exact (h k).h (wf_ab hW hd) e a w (S.weakAb hd (hs k) fun _ => hk)⟩
end Cw
namespace Cw
open Go Vc
open Go.Proofs
set_option maxRecDepth 100000
theorem dk_other {p : Ch → Bool} {s k k' : Int} {R : List Ch} (hp : ∀ c ∈ R, p c = true → c.at' = k) (hk : k' ≠ k) : dkB (setF p s R) k' = dkB R k' ∧ flB (setF p s R) k' = flB R k' ∧ ofN (setF p s R) k' 2 = ofN R k' 2 := by
  have e1 := dkB_other (s := s) hp hk 0
  have e2 := dkB_other (s := s) hp hk 2
  exact ⟨by rw [dkB, e1]; rfl, by rw [flB, dkB, e1, e2]; rfl, by rw [ofN_filter, e2]; rfl⟩
theorem fly_out (R : List Ch) (k : Int) {s : Int} (hs : s ≠ 2) : (setK k s R).filter (fun c => c.at' == k && c.st == 2) = [] := by
  rw [List.filter_eq_nil_iff]
  intro x hx
  obtain ⟨c, hc, rfl⟩ := setF_mem hx
  by_cases hf : flyB k c = true
  · rw [if_pos hf]; simp [hs]
  · rw [if_neg hf]; exact hf
theorem dk_lost (R : List Ch) (k : Int) : dkB (setK k 1 R) k = dkB R k ∧ ofN (setK k 1 R) k 2 = [] := by
  have e1 : (setK k 1 R).filter (fun c => c.at' == k && c.st == 0) = R.filter (fun c => c.at' == k && c.st == 0) := setF_filter (fun c hc hf => by rw [(flyB_st hf).2]; simp) fun c hc hf => by simp
  exact ⟨by rw [dkB, e1]; rfl, by rw [ofN_filter]; exact congrArg (List.map Ch.no) (fly_out R k (by decide))⟩
theorem dk_done {R : List Ch} (hd : DepOk R) (ho : overOk R) (k : Int) : dkB (setK k 0 R) k = flB R k ∧ ofN (setK k 0 R) k 2 = [] :=
  ⟨(done_more hd ho k zB).symm, by rw [ofN_filter]; exact congrArg (List.map Ch.no) (fly_out R k (by decide))⟩
theorem dk_send {R : List Ch} (hd : DepOk R) {k : Int} (hf : ofN R k 2 = []) (hr : rdyN R k ≠ []) : dkB (setN (rdyN R k) 2 R) k = dkB R k ∧ flB (setN (rdyN R k) 2 R) k = imgB (rdyL R k) (dkB R k) ∧ ofN (setN (rdyN R k) 2 R) k 2 ≠ [] := by
  have hnd := hd.num.nodup
  have hp : ∀ c ∈ R, (rdyN R k).contains c.no = true → c.at' = k ∧ c.st = 1 := fun c hc hcn => by
    obtain ⟨x, hx, h1, h2, h3, _⟩ := rdyN_ok (List.contains_iff_mem.1 hcn)
    rw [uniq hnd hx hc h1] at h2 h3
    exact ⟨h2, h3⟩
  have e1 : (setN (rdyN R k) 2 R).filter (fun c => c.at' == k && c.st == 0) = R.filter (fun c => c.at' == k && c.st == 0) := setF_filter (fun c hc hf => by rw [(hp c hc hf).2]; simp) fun c hc hf => by simp
  have h0 : ∀ c ∈ R, c.at' = k → c.st ≠ 2 := fun c hc h1 h2 => by
    have : c.no ∈ ofN R k 2 := List.mem_map.2 ⟨c, List.mem_filter.2 ⟨hc, by simp [h1, h2]⟩, rfl⟩
    rw [hf] at this; cases this
  have e4 : dkB (setN (rdyN R k) 2 R) k = dkB R k := by rw [dkB, e1]; rfl
  refine ⟨e4, by rw [flB, e4, ← sent_fly hnd k h0 (dkB R k)], ?_⟩
  obtain ⟨n, hn⟩ := List.exists_mem_of_ne_nil _ hr
  obtain ⟨c, hc, h1, h2, h3, _⟩ := rdyN_ok hn
  intro hnil
  have hx : ({ c with st := 2 } : Ch) ∈ setN (rdyN R k) 2 R := List.mem_map.2 ⟨c, hc, by rw [if_pos (List.contains_iff_mem.2 (h1 ▸ hn))]⟩
  have : c.no ∈ ofN (setN (rdyN R k) 2 R) k 2 := List.mem_map.2 ⟨_, List.mem_filter.2 ⟨hx, by simp [h2]⟩, rfl⟩
  rw [hnil] at this; cases this
theorem rdy_only {R : List Ch} (hd : DepOk R) (k : Int) : ∀ c ∈ R, (rdyN R k).contains c.no = true → c.at' = k := fun c hc hcn => by
  obtain ⟨x, hx, h1, h2, _⟩ := rdyN_ok (List.contains_iff_mem.1 hcn)
  rw [uniq hd.num.nodup hx hc h1] at h2
  exact h2
theorem fly_only (k : Int) (R : List Ch) : ∀ c ∈ R, flyB k c = true → c.at' = k := fun c _ hf => (flyB_st hf).1
theorem dk_add {R : List Ch} {c : Ch} (hc : c.st = 1) (k : Int) : dkB (R ++ [c]) k = dkB R k ∧ flB (R ++ [c]) k = flB R k ∧ ofN (R ++ [c]) k 2 = ofN R k 2 := by
  have he : ∀ t : Int, t ≠ 1 → (R ++ [c]).filter (fun c => c.at' == k && c.st == t) = R.filter (fun c => c.at' == k && c.st == t) := fun t ht => by
    rw [List.filter_append, filt0 (fun c : Ch => c.at' == k && c.st == t) (by simp [hc]; intro _; omega), List.append_nil]
  exact ⟨by rw [dkB, he 0 (by decide)]; rfl, by rw [flB, dkB, he 0 (by decide), he 2 (by decide)]; rfl, by rw [ofN_filter, he 2 (by decide)]; rfl⟩
/-- The disk's sectors. -/
def sOf (R : List Ch) : List ByteArray := (List.range 8).map fun k => if k = 1 then wallB 0 0 else S (dkB R (k : Nat))
/-- The writes that wait. -/
def wOf (node : Int) (R : List Ch) (fly : List (Int × Int)) : List (Int × Wr) := fly.map fun p => (p.1, ⟨node, 0, p.2, S (flB R p.2)⟩)
theorem sOf_len (R : List Ch) : (sOf R).length = 8 := by simp [sOf]
theorem sOf_at (R : List Ch) {k : Nat} (h : k < (sOf R).length) : (sOf R)[k] = if k = 1 then wallB 0 0 else S (dkB R (k : Nat)) := by simp [sOf]
theorem sOf_ext {R R' : List Ch} (h : ∀ k : Nat, k ≠ 1 → dkB R' k = dkB R k) : sOf R' = sOf R := by
  refine List.map_congr_left fun k _ => ?_
  split
  · rfl
  · rename_i h1; rw [h k h1]
theorem sOf_set {R R' : List Ch} {j : Nat} (hj : 2 ≤ j) (h : ∀ k : Nat, k ≠ 1 → k ≠ j → dkB R' k = dkB R k) : sOf R' = (sOf R).set j (S (dkB R' j)) := by
  apply List.ext_getElem (by simp [sOf])
  intro i h1 h2
  rw [List.getElem_set, sOf_at]
  split
  · rename_i h3
    rw [if_neg (by omega), sOf_at, if_pos h3]
  · rename_i h3
    split
    · rename_i h4; rw [h4]
    · rename_i h4; rw [sOf_at, if_neg h3, h i h3 (fun e => h4 e.symm)]
theorem wOf_ext {node : Int} {R R' : List Ch} {fly : List (Int × Int)} (h : ∀ p ∈ fly, flB R' p.2 = flB R p.2) : wOf node R' fly = wOf node R fly := List.map_congr_left fun p hp => by rw [h p hp]
theorem sz_S {l : List UInt8} (h : l.length = 64) : (S l).size = 64 := by
  show l.toArray.size = 64
  simpa using h
def gdl (n : Int) (fly : List (Int × Int)) : List (Int × Int) := gdel n fly
theorem gdel_sub {n : Int} : ∀ {l : List (Int × Int)} {p}, p ∈ gdel n l → p ∈ l
  | [], p, h => h
  | (q, x) :: l, p, h => by
    unfold gdel at h
    split at h
    · exact List.mem_cons.2 (.inr h)
    · rcases List.mem_cons.1 h with h | h
      · rw [h]; simp
      · exact List.mem_cons.2 (.inr (gdel_sub h))
theorem gdel_sl {n : Int} : ∀ (l : List (Int × Int)), (gdel n l).Sublist l
  | [] => List.Sublist.slnil
  | (q, x) :: l => by
    unfold gdel
    split
    · exact List.sublist_cons_self _ _
    · exact (gdel_sl l).cons_cons _
theorem mem_gdel {n k : Int} : ∀ {fly : List (Int × Int)}, (fly.map Prod.fst).Pairwise (· < ·) → (n, k) ∈ fly → ∀ p, p ∈ gdel n fly ↔ p ∈ fly ∧ p ≠ (n, k)
  | [], _, h, p => by cases h
  | (q, x) :: l, hp, h, p => by
    have hp0 := hp
    rw [List.map_cons, List.pairwise_cons] at hp
    unfold gdel
    rcases List.mem_cons.1 h with h | h
    · cases h
      rw [if_pos rfl, List.mem_cons]
      constructor
      · intro h1
        refine ⟨.inr h1, fun e => ?_⟩
        subst e
        have := hp.1 n (List.mem_map.2 ⟨_, h1, rfl⟩)
        omega
      · rintro ⟨h1 | h1, h2⟩
        · exact absurd h1 h2
        · exact h1
    · have := hp.1 n (List.mem_map.2 ⟨_, h, rfl⟩)
      rw [if_neg (by omega), List.mem_cons, mem_gdel hp.2 h p, List.mem_cons]
      constructor
      · rintro (h1 | ⟨h1, h2⟩)
        · refine ⟨.inl h1, fun e => ?_⟩
          rw [h1] at e
          cases e
          omega
        · exact ⟨.inr h1, h2⟩
      · rintro ⟨h1 | h1, h2⟩
        · exact .inl h1
        · exact .inr ⟨h1, h2⟩
/-- What stays of a side. -/
structure SfOk (R : List Ch) (fly : List (Int × Int)) (last : Int) : Prop where
  dep : DepOk R
  ov : overOk R
  ok : okB R
  two : ∀ c ∈ R, 2 ≤ c.at'
  key : (fly.map Prod.fst).Pairwise (· < ·)
  le : ∀ p ∈ fly, 1 ≤ p.1 ∧ p.1 ≤ last
  l0 : 0 ≤ last
  nd : (fly.map Prod.snd).Nodup
  fl : ∀ k, k ∈ fly.map Prod.snd ↔ ofN R k 2 ≠ []
section
variable {R : List Ch} {fly : List (Int × Int)} {last node : Int}
theorem ofN_sec (h : ∀ c ∈ R, 2 ≤ c.at') (ho : okB R) {k : Int} (hk : ofN R k 2 ≠ []) : 2 ≤ k ∧ k < 8 := by
  obtain ⟨n, hn⟩ := List.exists_mem_of_ne_nil _ hk
  obtain ⟨c, hc, _⟩ := List.mem_map.1 hn
  obtain ⟨h1, h2⟩ := List.mem_filter.1 hc
  have : c.at' = k := by simp at h2; exact h2.1
  have q1 := h c h1
  have q2 := (ho c h1).1
  omega
theorem SfOk.fsec (h : SfOk R fly last) {p : Int × Int} (hp : p ∈ fly) : 2 ≤ p.2 ∧ p.2 < 8 := ofN_sec h.two h.ok ((h.fl p.2).1 (List.mem_map.2 ⟨p, hp, rfl⟩))
theorem SfOk.nil : SfOk [] [] 0 := ⟨DepOk.nil, overOk.nil, fun c hc => (by cases hc), fun c hc => (by cases hc), by simp, by simp, by omega, by simp, fun k => by simp [ofN]⟩
theorem SfOk.disk (h : SfOk R fly last) : DOk 8 (sOf R) (wOf node R fly) last := by
  refine ⟨sOf_len R, by decide, fun s hs => ?_, fun p hp => ?_, fun p hp => ?_, ?_, fun p hp => ?_, h.l0⟩
  · obtain ⟨k, _, rfl⟩ := List.mem_map.1 hs
    split
    · exact wallB_size 0 0
    · exact sz_S (dkB_len _ _)
  · obtain ⟨q, hq, rfl⟩ := List.mem_map.1 hp
    have := h.fsec hq
    exact inS_iff.2 (by show 0 ≤ q.2 ∧ q.2 < ((8 : Nat) : Int); omega)
  · obtain ⟨q, hq, rfl⟩ := List.mem_map.1 hp
    exact sz_S (flB_len _ _)
  · have : (wOf node R fly).map Prod.fst = fly.map Prod.fst := by rw [wOf, List.map_map]; rfl
    rw [this]; exact h.key
  · obtain ⟨q, hq, rfl⟩ := List.mem_map.1 hp
    exact h.le q hq
theorem SfOk.send (h : SfOk R fly last) {k : Int} (hf : ofN R k 2 = []) (hr : rdyN R k ≠ []) :
    SfOk (setN (rdyN R k) 2 R) (fly ++ [(last + 1, k)]) (last + 1) ∧ sOf (setN (rdyN R k) 2 R) = sOf R ∧ wOf node (setN (rdyN R k) 2 R) fly = wOf node R fly := by
  obtain ⟨e1, e2, e3⟩ := dk_send h.dep hf hr
  have ho := fun k' (hk : k' ≠ k) => dk_other (s := 2) (rdy_only h.dep k) hk
  have hkn : k ∉ fly.map Prod.snd := fun hk => (h.fl k).1 hk hf
  refine ⟨⟨h.dep.send k, h.ov.send h.dep k, h.ok.setF _ _, fun c hc => ?_, ?_, ?_, ?_, ?_, fun j => ?_⟩, ?_, ?_⟩
  · obtain ⟨x, hx, rfl⟩ := setF_mem hc
    split <;> exact h.two x hx
  · rw [List.map_append, List.pairwise_append]
    refine ⟨h.key, by simp, fun a ha b hb => ?_⟩
    obtain ⟨p, hp, rfl⟩ := List.mem_map.1 ha
    simp at hb
    have := h.le p hp
    omega
  · intro p hp
    have hl0 := h.l0
    rcases List.mem_append.1 hp with hp | hp
    · have := h.le p hp; omega
    · rw [List.mem_singleton.1 hp]
      show 1 ≤ last + 1 ∧ last + 1 ≤ last + 1
      omega
  · have := h.l0; omega
  · rw [List.map_append, List.nodup_append]
    refine ⟨h.nd, by simp, fun a ha b hb hab => ?_⟩
    simp at hb
    subst hab hb
    exact hkn ha
  · rw [List.map_append, List.mem_append]
    by_cases hj : j = k
    · subst hj
      exact ⟨fun _ => e3, fun _ => .inr (by simp)⟩
    · have := (ho j hj).2.2
      show _ ↔ ofN (setF (fun c => (rdyN R k).contains c.no) 2 R) j 2 ≠ []
      rw [this, ← h.fl j]
      simp [hj]
  · refine sOf_ext fun j _ => ?_
    by_cases hj : (j : Int) = k
    · rw [hj]; exact e1
    · exact (ho j hj).1
  · refine wOf_ext fun p hp => (ho p.2 fun e => hkn (e ▸ List.mem_map.2 ⟨p, hp, rfl⟩)).2.1
theorem SfOk.ended (h : SfOk R fly last) {n k : Int} (hn : (n, k) ∈ fly) {s : Int} (hs : s ≠ 2) (hd : DepOk (setK k s R)) :
    SfOk (setK k s R) (gdel n fly) last ∧ wOf node (setK k s R) (gdel n fly) = wOf node R (gdel n fly) := by
  have ho := fun k' (hk : k' ≠ k) => dk_other (s := s) (fly_only k R) hk
  have hm := mem_gdel h.key hn
  have e3 : ofN (setK k s R) k 2 = [] := by rw [ofN_filter]; exact congrArg (List.map Ch.no) (fly_out R k hs)
  have huniq : ∀ p ∈ fly, p.2 = k → p = (n, k) := fun p hp hpk => by
    have h1 := List.pairwise_iff_getElem.1 h.nd
    obtain ⟨i, hi, rfl⟩ := List.getElem_of_mem hp
    obtain ⟨j, hj, e⟩ := List.getElem_of_mem hn
    by_cases hij : i = j
    · subst hij; exact e
    · exfalso
      have h2 : (fly.map Prod.snd)[i]'(by simpa using hi) = (fly.map Prod.snd)[j]'(by simpa using hj) := by simp [hpk, e]
      exact hij ((List.getElem_inj h.nd).1 h2)
  have hkn : ∀ p ∈ gdel n fly, p.2 ≠ k := fun p hp hpk => by
    obtain ⟨h1, h2⟩ := (hm p).1 hp
    exact h2 (huniq p h1 hpk)
  refine ⟨⟨hd, h.ov.fly k s, h.ok.setF _ _, fun c hc => ?_, ?_, fun p hp => h.le p (gdel_sub hp), h.l0, ?_, fun j => ?_⟩, wOf_ext fun p hp => (ho p.2 (hkn p hp)).2.1⟩
  · obtain ⟨x, hx, rfl⟩ := setF_mem hc
    split <;> exact h.two x hx
  · exact h.key.sublist ((gdel_sl fly).map _)
  · exact h.nd.sublist ((gdel_sl fly).map _)
  · by_cases hj : j = k
    · subst hj
      constructor
      · intro hj
        obtain ⟨p, hp, e⟩ := List.mem_map.1 hj
        exact absurd e (hkn p hp)
      · intro hj; exact absurd e3 hj
    · show _ ↔ ofN (setF (flyB k) s R) j 2 ≠ []
      rw [(ho j hj).2.2, ← h.fl j, List.mem_map, List.mem_map]
      constructor
      · rintro ⟨p, hp, e⟩
        exact ⟨p, gdel_sub hp, e⟩
      · rintro ⟨p, hp, e⟩
        exact ⟨p, (hm p).2 ⟨hp, fun e' => hj (by rw [← e, e'])⟩, e⟩
theorem SfOk.done (h : SfOk R fly last) {n k : Int} (hn : (n, k) ∈ fly) :
    SfOk (setK k 0 R) (gdel n fly) last ∧ wOf node (setK k 0 R) (gdel n fly) = wOf node R (gdel n fly) ∧ sOf (setK k 0 R) = (sOf R).set k.toNat (S (flB R k)) := by
  obtain ⟨h1, h2⟩ := h.ended (node := node) hn (s := 0) (by decide) (h.dep.done k)
  have hk := h.fsec hn
  have e := (dk_done h.dep h.ov k).1
  refine ⟨h1, h2, ?_⟩
  have hj : ((k.toNat : Nat) : Int) = k := Int.toNat_of_nonneg (by have := hk.1; simp only at this; omega)
  have := sOf_set (R := R) (R' := setK k 0 R) (j := k.toNat) (by have := hk.1; simp only at this; omega) fun i _ hi => (dk_other (s := 0) (fly_only k R) (fun e => hi (by omega))).1
  rw [hj, e] at this
  exact this
theorem SfOk.lost (h : SfOk R fly last) {n k : Int} (hn : (n, k) ∈ fly) :
    SfOk (setK k 1 R) (gdel n fly) last ∧ wOf node (setK k 1 R) (gdel n fly) = wOf node R (gdel n fly) ∧ sOf (setK k 1 R) = sOf R := by
  obtain ⟨h1, h2⟩ := h.ended (node := node) hn (s := 1) (by decide) (h.dep.lost k)
  refine ⟨h1, h2, sOf_ext fun j _ => ?_⟩
  by_cases hj : (j : Int) = k
  · rw [hj]; exact (dk_lost R k).1
  · exact (dk_other (s := 1) (fly_only k R) hj).1
theorem SfOk.add (h : SfOk R fly last) {c : Ch} (hc : c.st = 1) (hd : DepOk (R ++ [c])) (ho : overOk (R ++ [c])) (hk : okB [c]) (h2 : 2 ≤ c.at') : SfOk (R ++ [c]) fly last ∧ wOf node (R ++ [c]) fly = wOf node R fly ∧ sOf (R ++ [c]) = sOf R := by
  refine ⟨⟨hd, ho, fun x hx => ?_, fun x hx => ?_, h.key, h.le, h.l0, h.nd, fun j => ?_⟩, wOf_ext fun p _ => (dk_add hc p.2).2.1, sOf_ext fun j _ => (dk_add hc j).1⟩
  · exact (List.mem_append.1 hx).elim (h.ok x) (hk x)
  · rcases List.mem_append.1 hx with hx | hx
    · exact h.two x hx
    · rw [List.mem_singleton.1 hx]; exact h2
  · rw [(dk_add hc j).2.2]; exact h.fl j
/-- What is seen of a sector: all. -/
theorem SfOk.seen (h : SfOk R fly last) (hl : R.length ≤ 1000) {k : Int} : pt (S (dkB R k)) (vwP R k) = S (alB R k) ∧ pte (S (dkB R k)) (vwP R k) = 0 := by
  have := pt_img (h.ok.filter fun c => c.at' == k && c.st != 0) (Nat.le_trans (List.length_filter_le _ _) (by omega)) (s := S (dkB R k)) (sz_S (dkB_len R k))
  refine ⟨?_, this.2⟩
  rw [vwP, this.1, S_list]
  congr 1
  exact seen_all h.dep h.ov k zB
end
end Cw
namespace Cw
open Go Vc
open Go.Proofs
set_option maxRecDepth 100000
/-- A side's state. -/
structure SS where
  R : List Ch
  fly : List (Int × Int)
  last : Int
def SOk (x : SS) : Prop := SfOk x.R x.fly x.last
def wrC (x : SS) (k : Int) : Prop := ofN x.R k 2 = [] ∧ rdyN x.R k ≠ []
instance (x : SS) (k : Int) : Decidable (wrC x k) := inferInstanceAs (Decidable (_ ∧ _))
def wr1 (x : SS) (k : Int) : SS := if wrC x k then ⟨setN (rdyN x.R k) 2 x.R, x.fly ++ [(x.last + 1, k)], x.last + 1⟩ else x
def wr1N (x : SS) (k : Int) : Int := if wrC x k then x.last + 1 else 0
theorem wr1_yes {x : SS} {k : Int} (h : wrC x k) : wr1 x k = ⟨setN (rdyN x.R k) 2 x.R, x.fly ++ [(x.last + 1, k)], x.last + 1⟩ := if_pos h
theorem wr1_no {x : SS} {k : Int} (h : ¬ wrC x k) : wr1 x k = x := if_neg h
theorem SOk.w1 {x : SS} (h : SOk x) (k : Int) : SOk (wr1 x k) := by
  by_cases hc : wrC x k
  · rw [wr1_yes hc]; exact (SfOk.send (node := 0) h hc.1 hc.2).1
  · rw [wr1_no hc]; exact h
def wrA (x : SS) (ks : List Int) : SS := ks.foldl wr1 x
def woA (x : SS) (ks : List Int) : List Int := ((wrA x ks).fly.drop x.fly.length).map Prod.fst
theorem wrA_fly : ∀ (ks : List Int) (x : SS), ∃ m, (wrA x ks).fly = x.fly ++ m ∧ m.length ≤ ks.length
  | [], x => ⟨[], (List.append_nil _).symm, Nat.le_refl _⟩
  | k :: ks, x => by
    obtain ⟨m, h1, h2⟩ := wrA_fly ks (wr1 x k)
    by_cases hc : wrC x k
    · refine ⟨(x.last + 1, k) :: m, ?_, by simp; omega⟩
      show (wrA (wr1 x k) ks).fly = _
      rw [h1, wr1_yes hc]
      simp
    · refine ⟨m, ?_, by simp; omega⟩
      show (wrA (wr1 x k) ks).fly = _
      rw [h1, wr1_no hc]
/-- A write is done. -/
def dn1 (x : SS) (n k : Int) : SS := ⟨setK k 0 x.R, gdel n x.fly, x.last⟩
theorem SOk.d1 {x : SS} (h : SOk x) {n k : Int} (hn : (n, k) ∈ x.fly) : SOk (dn1 x n k) := (SfOk.done (node := 0) h hn).1
theorem SOk.fly0 {x : SS} (h : SOk x) (hf : x.fly = []) : ∀ c ∈ x.R, c.st ≠ 2 := fun c hc h2 => by
  have : c.at' ∈ x.fly.map Prod.snd := (h.fl c.at').2 fun e => by
    have : c.no ∈ ofN x.R c.at' 2 := List.mem_map.2 ⟨c, List.mem_filter.2 ⟨hc, by simp [h2]⟩, rfl⟩
    rw [e] at this; cases this
  rw [hf] at this
  cases this
/-- Something is written as long as something is pending. -/
theorem SOk.goes {x : SS} (h : SOk x) (hf : x.fly = []) (hu : und x.R ≠ []) : (wrA x (secs (und x.R))).fly ≠ [] := by
  have hnf := h.fly0 hf
  obtain ⟨c, hc, h1, h2⟩ := h.dep.some_ready hnf hu
  have h0 : ∀ k, ofN x.R k 2 = [] := fun k => by
    rw [ofN, List.map_eq_nil_iff, List.filter_eq_nil_iff]
    intro c hc
    have := hnf c hc
    simp [this]
  have hm : c.at' ∈ secs (und x.R) := by
    rw [secs_mem, ofN_und x.R _ (by decide), h0, rdyN_und h.dep.num.nodup]
    exact ⟨⟨c, und_mem.2 ⟨hc, by rw [h1]; decide⟩, rfl⟩, rfl, fun hn => by rw [hn] at h2; cases h2⟩
  cases hs : secs (und x.R) with
  | nil => rw [hs] at hm; cases hm
  | cons k ks =>
    have hk : k ∈ secs (und x.R) := by rw [hs]; simp
    rw [secs_mem, rdyN_und h.dep.num.nodup] at hk
    have hc : wrC x k := ⟨h0 k, hk.2.2⟩
    obtain ⟨m, e, _⟩ := wrA_fly ks (wr1 x k)
    show (wrA (wr1 x k) ks).fly ≠ []
    rw [e, wr1_yes hc]
    simp
/-- One byte. -/
theorem valB_one {o : Nat} {v : UInt8} : ∀ {cs : List Ch} {d : UInt8}, (∀ c ∈ cs, c.off.toNat = o → btC c = v) → (d = v ∨ ∃ c ∈ cs, c.off.toNat = o) → valB o cs d = v
  | [], d, _, h => h.elim (fun e => e) fun ⟨c, hc, _⟩ => (by cases hc)
  | c :: cs, d, h1, h2 => by
    rw [valB_cons]
    refine valB_one (fun x hx => h1 x (by simp [hx])) ?_
    by_cases hc : c.off.toNat = o
    · left; rw [if_pos hc]; exact h1 c (by simp) hc
    · rw [if_neg hc]
      rcases h2 with h2 | ⟨x, hx, h2⟩
      · exact .inl h2
      · rcases List.mem_cons.1 hx with hx | hx
        · rw [hx] at h2; exact absurd h2 hc
        · exact .inr ⟨x, hx, h2⟩
theorem zB_get {o : Nat} (h : o < 64) : zB[o]? = some 0 := by
  rw [zB, List.getElem?_replicate, if_pos h]
end Cw
namespace Cw
open Go Vc
open Go.Proofs
set_option maxRecDepth 100000
/-- Those ahead, counted back by up to 4. -/
def b5T (n : Nat) (bs : List Int) : List Int := bs.foldl (fun acc b => if decide ((n : Int) - b % 5 ≥ 1) = true then acc ++ [(n : Int) - b % 5] else acc) []
theorem b5T_snoc (n : Nat) (bs : List Int) (b : Int) : b5T n (bs ++ [b]) = if decide ((n : Int) - b % 5 ≥ 1) = true then b5T n bs ++ [(n : Int) - b % 5] else b5T n bs := by
  rw [b5T, List.foldl_append]; rfl
theorem b5T_mem {n : Nat} {x : Int} (bs : List Int) : x ∈ b5T n bs → 1 ≤ x ∧ x ≤ (n : Int) := by
  rw [show bs = bs.reverse.reverse from (List.reverse_reverse bs).symm]
  generalize bs.reverse = m
  induction m with
  | nil => intro h; cases h
  | cons b m ih =>
    rw [List.reverse_cons, b5T_snoc]
    split
    · rename_i h
      intro hx
      rcases List.mem_append.1 hx with hx | hx
      · exact ih hx
      · have h1 := of_decide_eq_true h
        have h2 := Int.emod_nonneg b (show (5 : Int) ≠ 0 by decide)
        rw [List.mem_singleton.1 hx]
        omega
    · exact ih
/-- A change of a statement. -/
structure SC where
  at' : Int
  off : Int
  by' : Int
  back : List Int
  A : Option Addr
  m : Nat
def SC.w (a : SC) : List Int × Option Addr × Nat := (a.back, a.A, a.m)
def scv (a : SC) : List Value := [.int .i64 a.at', .int .i64 a.off, .int .u8 a.by', .slice a.A a.back.length a.m]
def scells (ls : List SC) : List Value := fcs scv ls
/-- The change that is added. -/
def sfC (R : List Ch) (k o b : Int) (xs : List Int) : Ch := newC (und R) R.length k (o, bt1 b) xs
/-- Changes each of which has a byte of its own. -/
structure BgOk (ls : List SC) (R : List Ch) : Prop where
  le : R.length ≤ ls.length ∧ R.length ≤ 30
  at' : ∀ (j : Nat) (h : j < R.length) (h' : j < ls.length), R[j].at' = 2 + ls[j].at' % 6
  off : ∀ (j : Nat) (h : j < R.length), R[j].off = (j : Int)
  by' : ∀ (j : Nat) (h : j < R.length), R[j].by' = bt1 ((j : Int) + 1)
  ah : ∀ (j : Nat) (h : j < R.length) (h' : j < ls.length), ∀ n ∈ b5T j ls[j].back, n ∈ R[j].ah
section
variable {ls : List SC} {R : List Ch}
theorem BgOk.nil : BgOk ls [] := ⟨by simp, fun j h => by simp at h, fun j h => by simp at h, fun j h => by simp at h, fun j h => by simp at h⟩
theorem setF_get' {p : Ch → Bool} {s : Int} {R : List Ch} {i : Nat} (h : i < (setF p s R).length) : ((setF p s R)[i]).at' = (R[i]'(by rw [setF_len] at h; exact h)).at' ∧ ((setF p s R)[i]).off = (R[i]'(by rw [setF_len] at h; exact h)).off ∧ ((setF p s R)[i]).by' = (R[i]'(by rw [setF_len] at h; exact h)).by' ∧ ((setF p s R)[i]).ah = (R[i]'(by rw [setF_len] at h; exact h)).ah := by
  simp only [setF, List.getElem_map]
  split <;> exact ⟨rfl, rfl, rfl, rfl⟩
theorem BgOk.set (h : BgOk ls R) (p : Ch → Bool) (s : Int) : BgOk ls (setF p s R) := by
  have hl := setF_len p s R
  refine ⟨by rw [hl]; exact h.le, fun j hj h' => ?_, fun j hj => ?_, fun j hj => ?_, fun j hj h' n hn => ?_⟩
  · rw [(setF_get' hj).1]; exact h.at' j _ h'
  · rw [(setF_get' hj).2.1]; exact h.off j _
  · rw [(setF_get' hj).2.2.1]; exact h.by' j _
  · rw [(setF_get' hj).2.2.2]; exact h.ah j _ h' n hn
theorem BgOk.add (h : BgOk ls R) (hl : R.length < ls.length) (hl' : R.length < 30) : BgOk ls (R ++ [sfC R (2 + ls[R.length].at' % 6) (R.length : Int) ((R.length : Int) + 1) (b5T R.length ls[R.length].back)]) := by
  have hah : (sfC R (2 + ls[R.length].at' % 6) (R.length : Int) ((R.length : Int) + 1) (b5T R.length ls[R.length].back)).ah = b5T R.length ls[R.length].back ++ ((und R).filter fun c => ovb (c.off, c.by') ((R.length : Int), bt1 ((R.length : Int) + 1)) && c.at' == 2 + ls[R.length].at' % 6).map Ch.no := alls_eq _ _ _ _
  have key : ∀ (j : Nat) (hj : j < (R ++ [sfC R (2 + ls[R.length].at' % 6) (R.length : Int) ((R.length : Int) + 1) (b5T R.length ls[R.length].back)]).length), (∃ h : j < R.length, (R ++ [sfC R (2 + ls[R.length].at' % 6) (R.length : Int) ((R.length : Int) + 1) (b5T R.length ls[R.length].back)])[j] = R[j]) ∨ (j = R.length ∧ (R ++ [sfC R (2 + ls[R.length].at' % 6) (R.length : Int) ((R.length : Int) + 1) (b5T R.length ls[R.length].back)])[j] = sfC R (2 + ls[R.length].at' % 6) (R.length : Int) ((R.length : Int) + 1) (b5T R.length ls[R.length].back)) := fun j hj => by
    by_cases hi : j < R.length
    · exact .inl ⟨hi, List.getElem_append_left hi⟩
    · have : j = R.length := by simp at hj; omega
      subst this
      exact .inr ⟨rfl, by simp⟩
  refine ⟨by simp; omega, fun j hj h' => ?_, fun j hj => ?_, fun j hj => ?_, fun j hj h' n hn => ?_⟩
  · rcases key j hj with ⟨hi, e⟩ | ⟨rfl, e⟩
    · rw [e]; exact h.at' j hi h'
    · rw [e]; rfl
  · rcases key j hj with ⟨hi, e⟩ | ⟨rfl, e⟩
    · rw [e]; exact h.off j hi
    · rw [e]; rfl
  · rcases key j hj with ⟨hi, e⟩ | ⟨rfl, e⟩
    · rw [e]; exact h.by' j hi
    · rw [e]; rfl
  · rcases key j hj with ⟨hi, e⟩ | ⟨rfl, e⟩
    · rw [e]; exact h.ah j hi h' n hn
    · rw [e, hah]; exact List.mem_append.2 (.inl hn)
theorem BgOk.idx (h : BgOk ls R) {c : Ch} (hc : c ∈ R) {i : Nat} (hi : i < R.length) (ho : c.off.toNat = i) : c = R[i] := by
  obtain ⟨j, hj, rfl⟩ := List.getElem_of_mem hc
  have := h.off j hj
  have : j = i := by omega
  subst this
  rfl
theorem BgOk.bt (h : BgOk ls R) {i : Nat} (hi : i < R.length) : btC R[i] = UInt8.ofNat (i + 1) := by
  rw [btC, h.by' i hi]
  show UInt8.ofNat ((i : Int) + 1).toNat = _
  congr 1
/-- The byte of a change in its sector, of those that are told. -/
theorem BgOk.byte (h : BgOk ls R) {i : Nat} (hi : i < R.length) (q : Ch → Bool) : (imgB (R.filter q) zB)[i]? = some (if q R[i] = true then UInt8.ofNat (i + 1) else 0) := by
  have h30 := h.le.2
  rw [imgB_get, zB_get (by omega)]
  show some _ = some _
  congr 1
  by_cases hq : q R[i] = true
  · rw [if_pos hq]
    refine valB_one (fun c hc ho => ?_) (.inr ⟨R[i], List.mem_filter.2 ⟨List.getElem_mem hi, hq⟩, by rw [h.off i hi]; simp⟩)
    rw [h.idx (List.mem_filter.1 hc).1 hi ho]
    exact h.bt hi
  · rw [if_neg hq]
    refine valB_none fun c hc ho => ?_
    rw [h.idx (List.mem_filter.1 hc).1 hi ho] at hc
    exact hq (List.mem_filter.1 hc).2
theorem num1b {l : List UInt8} (hl : l.length = 64) {i : Nat} {b : UInt8} (hi : l[i]? = some b) : getn (S l) (i : Int) 1 = b.toNat ∧ gete (S l).size (i : Int) 1 = 0 := by
  have hlt : i < 64 := by
    rw [← hl]
    exact (List.getElem?_eq_some_iff.1 hi).1
  have hz : (S l).size = 64 := sz_S hl
  have he : gete (S l).size (i : Int) 1 = 0 := by
    rw [hz]
    rcases gete_cases 64 (i : Int) 1 with h | h | h
    · exact h.1
    · omega
    · exfalso
      rcases h with ⟨_, _, h⟩
      have : fwide 1 = true := rfl
      simp [this, finside] at h
      omega
  refine ⟨?_, he⟩
  rw [getn, if_pos he]
  show numAt (S l) (i : Int).toNat 1 = _
  rw [Int.toNat_natCast]
  have h2 : l.drop i = l[i]'(by omega) :: l.drop (i + 1) := List.drop_eq_getElem_cons (by omega)
  have h3 := (List.getElem?_eq_some_iff.1 hi).2
  show num ((l.drop i).take 1) = _
  rw [h2, h3]
  show num [b] = _
  simp [num]
theorem small_u8 {i : Nat} (h : i < 30) : (UInt8.ofNat (i + 1)).toNat = i + 1 := by
  simp [UInt8.toNat_ofNat]
  omega
/-- What is there of a change: whether it is done. -/
theorem BgOk.there (h : BgOk ls R) {i : Nat} (hi : i < R.length) : ((getn (S (dkB R R[i].at')) (i : Int) 1 : Int) == 1 + (i : Int)) = (R[i].st == 0) ∧ gete (S (dkB R R[i].at')).size (i : Int) 1 = 0 := by
  have h30 := h.le.2
  have hb := h.byte hi fun c => c.at' == R[i].at' && c.st == 0
  obtain ⟨h1, h2⟩ := num1b (dkB_len R R[i].at') hb
  refine ⟨?_, h2⟩
  rw [h1]
  by_cases hs : R[i].st = 0
  · rw [if_pos (by simp [hs]), small_u8 (by omega), hs]
    simp
    omega
  · rw [if_neg (by simp [hs])]
    have : (R[i].st == 0) = false := by simp [hs]
    rw [this]
    simp
    omega
/-- What goes ahead of what is done is done. -/
theorem BgOk.ahead (h : BgOk ls R) (hd : DepOk R) {i : Nat} (hi : i < R.length) (h' : i < ls.length) (hs : R[i].st = 0) {n : Int} (hn : n ∈ b5T i ls[i].back) : 1 ≤ n ∧ ∃ hj : n.toNat - 1 < R.length, R[n.toNat - 1].st = 0 := by
  obtain ⟨h1, h2⟩ := b5T_mem _ hn
  have h3 := hd.cls R[i] (List.getElem_mem hi) hs n (h.ah i hi h' n hn)
  rw [hd.num.st h1 (by omega)] at h3
  exact ⟨h1, by omega, h3⟩
end
end Cw
namespace Cw
open Go Vc
open Go.Proofs
set_option maxRecDepth 100000
abbrev WW := List (List Int × Option Addr × Nat)
def iV (x : Int) : Value := .int .i64 x
/-- The disk of a side. -/
abbrev dkP (x : SS) (node : Int) (bk : Nat) : AbP := dP (sOf x.R) (wOf node x.R x.fly) x.last bk
def sfO (V : DV) (W : WW) (n : Nat) (fly : List (Int × Int)) (node : Int) (b bd bk : Nat) : List (Bool × Ob) :=
  [(true, .cells [.nm 1, .p 4 0, iT node, iT 0, .mp 3] 79), (true, .ab (depP V (n : Int) bd)), (true, .ab (frzP W)), (true, .mp (gm iV fly)), (false, .pin 4 bk), (false, .pin 0 b)]
def sfP (V : DV) (W : WW) (n : Nat) (fly : List (Int × Int)) (node : Int) (b bd bk : Nat) : AbP := absP (sfO V W n fly node b bd bk) (.p 0 0)
theorem sf_pins (V : DV) (W : WW) (n : Nat) (fly : List (Int × Int)) (node : Int) (b bd bk : Nat) : Pins (sfP V W n fly node b bd bk) (ptr b) := pins_abs (k := 5) rfl
/-- A side whose changes are R. -/
def sfB (R : List Ch) (fly : List (Int × Int)) (node : Int) (b bd bk : Nat) : AbP := exP fun x : { x : DV × WW // DR x.1 x.2 R } => sfP x.1.1 x.1.2 R.length fly node b bd bk
theorem sfB_pins (R : List Ch) (fly : List (Int × Int)) (node : Int) (b bd bk : Nat) : Pins (sfB R fly node b bd bk) (ptr b) := fun v F w ⟨x, h⟩ => sf_pins x.1.1 x.1.2 _ fly node b bd bk v F w h
theorem sfB_st (R : List Ch) (fly : List (Int × Int)) (node : Int) (b bd bk : Nat) : stable (sfB R fly node b bd bk) := exP_stable fun _ => absP_stable _ _
theorem sfB_of {V : DV} {W : WW} {R : List Ch} (h : DR V W R) {fly : List (Int × Int)} {node : Int} {b bd bk : Nat} : ∀ v F w, sfP V W R.length fly node b bd bk v F w → sfB R fly node b bd bk v F w := fun _ _ _ h' => ⟨⟨(V, W), h⟩, h'⟩
def sfX (node : Int) (bk : Nat) : AbP := exP fun p : Nat × Nat => sfB [] [] node p.1 p.2 bk
theorem nilDk {H : HL} {nx d bk : Nat} {S : List ByteArray} {Y : List (Int × Wr)} {last : Int} {b1 : Bool} (hd : lookH H d = some (b1, .ab (dP S Y last bk))) {Lc : LL} {o : Oper} {x y : Operand} (hop : o.op = .binOp .eql 42 x y 42) (hx : ev Lc x = some (.c (.nm d))) (hy : ev Lc y = some (.c .np)) : Spec Tryz.prog Lc H nx o ⟨.t (.c (.b false)), [], [], []⟩ :=
  spec_nil tysOk hop hx hy rfl rfl hd (NotNil.pins (disk_pins _ _ _ _))
section
variable {H : HL} {nx d s q b bd bk : Nat} {b1 : Bool} {V : DV} {W : WW} {R : List Ch} {fly : List (Int × Int)} {last node : Int}
end
end Cw
namespace Cw
open Go Vc
open Go.Proofs
set_option maxRecDepth 100000
/-- What the disk has of a sector, and what is seen of it. -/
def dkT (R : List Ch) (k : Int) : ByteArray := if k = 1 then wallB 0 0 else S (dkB R k)
def snT (R : List Ch) (k : Int) : ByteArray := if k = 1 then wallB 0 0 else S (alB R k)
theorem SfOk.sn {R : List Ch} {fly : List (Int × Int)} {last : Int} (h : SfOk R fly last) (hl : R.length ≤ 1000) (k : Int) : pt (dkT R k) (vwP R k) = snT R k ∧ pte (dkT R k) (vwP R k) = 0 := by
  unfold dkT snT
  by_cases h1 : k = 1
  · rw [if_pos h1, if_pos h1]
    have h0 : vwP R k = [] := by
      rw [vwP, List.map_eq_nil_iff, List.filter_eq_nil_iff]
      intro c hc
      have := h.two c hc
      simp
      omega
    have he : pte (wallB 0 0) [] = 0 := by rw [pte, if_neg (by rw [wallB_size]; decide)]; rfl
    rw [h0, pt, he]
    exact ⟨by rw [if_pos rfl]; rfl, rfl⟩
  · rw [if_neg h1, if_neg h1]; exact h.seen hl
/-- A write that is dropped. -/
def ls1 (x : SS) (n k : Int) : SS := ⟨setK k 1 x.R, gdel n x.fly, x.last⟩
theorem SOk.l1 {x : SS} (h : SOk x) {n k : Int} (hn : (n, k) ∈ x.fly) : SOk (ls1 x n k) := (SfOk.lost (node := 0) h hn).1
section
variable {H : HL} {nx d s q b bd bk : Nat} {b1 : Bool} {V : DV} {W : List (List Int × Option Addr × Nat)} {R : List Ch} {fly : List (Int × Int)} {last node : Int}
end
/-- A new disk. -/
def dkX (node : Int) : AbP := exP fun bk => dkP ⟨[], [], 0⟩ node bk
def wk1 : SS := ⟨[] ++ [sfC [] 5 0 120 []], [], 0⟩
def wk2 : SS := wr1 wk1 5
def wk3 : SS := dn1 wk2 1 5
end Cw
namespace Cw
open Go Vc
open Go.Proofs
set_option maxRecDepth 100000
/-- Something happens. -/
def mvS (x : SS) (kind n : Int) : SS :=
  if kind % 3 = 0 ∨ x.fly = [] then wr1 x (2 + n % 6)
  else if kind % 3 = 1 then dn1 x (x.fly.getD (n % x.fly.length).toNat (0, 0)).1 (x.fly.getD (n % x.fly.length).toNat (0, 0)).2
  else ls1 x (x.fly.getD (n % x.fly.length).toNat (0, 0)).1 (x.fly.getD (n % x.fly.length).toNat (0, 0)).2
theorem BgOk.w1 {ls : List SC} {x : SS} (h : BgOk ls x.R) (k : Int) : BgOk ls (wr1 x k).R := by
  by_cases hc : wrC x k
  · rw [wr1_yes hc]; exact h.set _ _
  · rw [wr1_no hc]; exact h
section
variable {H : HL} {nx d s q b bd bk x y l : Nat} {b1 b2 b3 b4 : Bool} {V : DV} {W : List (List Int × Option Addr × Nat)} {R : List Ch} {fly : List (Int × Int)} {last node : Int}
end
end Cw
