/- Functions that change several things, and read others. -/
import Derived.Test.YtclcibpghonidaaGreatDoorFnAs
import Derived.Test.YtclcibpghonidaaGreatDoorDepR
import Derived.Test.YtclcibpghonidaaGreatDoorDepN
import Derived.Test.YtclcibpghonidaaGreatDoorDisk
import Derived.Test.YtclcibpghonidaaGreatDoorDepC
import Derived.Test.YtclcibpghonidaaGreatDoorBook
namespace Cw
open Go Vc
open Go.Proofs
set_option maxRecDepth 100000
/-- A new change's slice joins the others. -/
theorem Sat.grow {F : Frm} {L : LL} {H : HL} {nx : Nat} {V : DV} {W : List (List Int × Option Addr × Nat)} {last : Int} {b : Nat} {c : Ch} (d q : Nat) (hd : lookH H d = some (true, .ab (adP V last b c))) (hq : lookH H q = some (true, .ab (frzP W))) (hdq : d ≠ q) {e : Env} {a : Act} {w : World} (hW : WF L H nx) (S : Sat F (fun t => look t L) (lookH H) e a w) :
    ∃ v e', WF L ((q, some (true, .ab (frzP (W ++ [(c.ah, v)])))) :: (d, some (true, .ab (depP (V ++ [(c, v)]) (last + 1) b))) :: H) nx ∧ Sat F (fun t => look t L) (lookH ((q, some (true, .ab (frzP (W ++ [(c.ah, v)])))) :: (d, some (true, .ab (depP (V ++ [(c, v)]) (last + 1) b))) :: H)) e' a w := by
  obtain ⟨⟨hp, _⟩, hbd⟩ := S.ob d true _ hd
  obtain ⟨⟨hfq, _⟩, hbq⟩ := S.ob q true _ hq
  obtain ⟨v, e1, h1, h2, h3, h4, h5⟩ := hp
  have hl : (adO V last b c v).length = 4 := rfl
  rw [hl] at h3 h4
  let f : Nat → Nat → Prop := fun n g => if n = d then ∃ k, k < 3 ∧ e1.fp k g else if n = q then e.fp q g ∨ e1.fp 3 g else e.fp n g
  have fd : ∀ g, f d g ↔ ∃ k, k < 3 ∧ e1.fp k g := fun g => by show (if _ then _ else _) ↔ _; rw [if_pos rfl]
  have fq : ∀ g, f q g ↔ e.fp q g ∨ e1.fp 3 g := fun g => by show (if _ then _ else _) ↔ _; rw [if_neg (fun h => hdq h.symm), if_pos rfl]
  have fo : ∀ n, n ≠ d → n ≠ q → ∀ g, f n g ↔ e.fp n g := fun n h h' g => by show (if _ then _ else _) ↔ _; rw [if_neg h, if_neg h']
  have d3 : ∀ g, e1.fp 3 g → e.fp d g := fun g hg => (h4 g).2 ⟨3, by decide, hg⟩
  have dk : ∀ g, (∃ k, k < 3 ∧ e1.fp k g) → e.fp d g := fun g ⟨k, hk, hg⟩ => (h4 g).2 ⟨k, by omega, hg⟩
  have hdv : depP (V ++ [(c, v)]) (last + 1) b (e.val d) (f d) w := by
    refine ⟨e1, h1, fun k b' o hk => ?_, fun j k hj hk => ?_, fd, fun g hg => h5 g (dk g ((fd g).1 hg))⟩
    · match k, hk with
      | 0, hk => exact h2 0 b' o hk
      | 1, hk =>
        cases hk
        have := h2 1 _ _ rfl
        rwa [show (V ++ [(c, v)]).length = V.length + 1 by simp]
      | 2, hk => exact h2 2 b' o hk
      | k + 3, hk => simp [depO] at hk
    · have : (depO (V ++ [(c, v)]) (last + 1) b).length = 3 := rfl
      exact h3 j k (by omega) (by omega)
  have hqv : frzP (W ++ [(c.ah, v)]) (e.val q) (f q) w := frzP_app hfq (h2 3 _ _ rfl).1.1 (fun g hg => (fq g).2 (.inl hg)) fun g hg => (fq g).2 (.inr hg)
  refine ⟨v, Env.fps e f, ⟨hW.l, fun n z hz => ?_⟩, ⟨S.fr, S.sz, S.df, S.sl, fun n b' o hn => ?_, fun n o m b' o' hn hm hne g hg hg' => ?_⟩⟩
  · rw [lookH_cons] at hz
    split at hz
    · rename_i h0
      cases hz; subst h0
      exact ⟨(hW.h n _ hq).1, fun m hm => by simp [Ob.ns] at hm⟩
    · rw [lookH_cons] at hz
      split at hz
      · rename_i h0
        cases hz; subst h0
        exact ⟨(hW.h n _ hd).1, fun m hm => by simp [Ob.ns] at hm⟩
      · exact hW.h n z hz
  · rw [lookH_cons] at hn
    split at hn
    · rename_i h0
      cases hn; subst h0
      exact ⟨⟨hqv, frzP_stable _⟩, fun g hg => ((fq g).1 hg).elim (hbq g) fun hg => hbd g (d3 g hg)⟩
    · rename_i hnq
      rw [lookH_cons] at hn
      split at hn
      · rename_i h0
        cases hn; subst h0
        exact ⟨⟨hdv, absP_stable _ _⟩, fun g hg => hbd g (dk g ((fd g).1 hg))⟩
      · rename_i hnd
        obtain ⟨k1, k2⟩ := S.ob n b' o hn
        have hs : ∀ g, f n g ↔ e.fp n g := fo n hnd hnq
        have hfe : (Env.fps e f).fp n = e.fp n := funext fun g => propext (hs g)
        refine ⟨Ob.same (e := e) (e' := Env.fps e f) ⟨rfl, rfl, hfe⟩ k1 fun m _ => ⟨rfl, rfl⟩, fun g hg => k2 g ((hs g).1 hg)⟩
  · -- where a name's blocks were
    have was : ∀ {n : Nat} {g : Nat}, f n g → e.fp n g ∨ n = q ∧ e.fp d g := fun {n g} hf => by
      by_cases h1 : n = d
      · subst h1; exact .inl (dk g ((fd g).1 hf))
      · by_cases h2 : n = q
        · subst h2
          exact ((fq g).1 hf).elim .inl fun h => .inr ⟨rfl, d3 g h⟩
        · exact .inl ((fo n h1 h2 g).1 hf)
    have old : ∀ {n : Nat} {z : Bool × Ob}, lookH ((q, some (true, .ab (frzP (W ++ [(c.ah, v)])))) :: (d, some (true, .ab (depP (V ++ [(c, v)]) (last + 1) b))) :: H) n = some z → ∃ o, lookH H n = some (z.1, o) := by
      intro n z hz
      rw [lookH_cons] at hz
      split at hz
      · rename_i h0; cases hz; subst h0; exact ⟨_, hq⟩
      · rw [lookH_cons] at hz
        split at hz
        · rename_i h0; cases hz; subst h0; exact ⟨_, hd⟩
        · exact ⟨z.2, hz⟩
    obtain ⟨on, hn'⟩ := old hn
    obtain ⟨om, hm'⟩ := old hm
    have hg1 : f n g := hg
    have hg2 : f m g := hg'
    by_cases c1 : n = q
    · subst c1
      rcases (fq g).1 hg1 with hx | hx
      · rcases was hg2 with hy | ⟨rfl, _⟩
        · exact S.dj n _ m _ _ hn' hm' hne g hx hy
        · exact hne rfl
      · by_cases c2 : m = d
        · subst c2
          obtain ⟨k, hk, hy⟩ := (fd g).1 hg2
          exact h3 k 3 (by omega) (by omega) (by omega) g hy hx
        · rcases was hg2 with hy | ⟨rfl, _⟩
          · exact S.dj d _ m _ _ hd hm' (fun h => c2 h.symm) g (d3 g hx) hy
          · exact hne rfl
    · rcases was hg1 with hx | ⟨h0, _⟩
      · by_cases c2 : m = q
        · subst c2
          rcases (fq g).1 hg2 with hy | hy
          · exact S.dj n _ m _ _ hn' hm' hne g hx hy
          · by_cases c3 : n = d
            · subst c3
              obtain ⟨k, hk, hx'⟩ := (fd g).1 hg1
              exact h3 k 3 (by omega) (by omega) (by omega) g hx' hy
            · exact S.dj n _ d _ _ hn' hd c3 g hx (d3 g hy)
        · rcases was hg2 with hy | ⟨h0, _⟩
          · exact S.dj n _ m _ _ hn' hm' hne g hx hy
          · exact c2 h0
      · exact c1 h0
theorem Done.growP {F : Frm} {Q : Act → World → Prop} {L : LL} {H : HL} {nx b : Nat} {V : DV} {W : List (List Int × Option Addr × Nat)} {R R' : List Ch} {at' o : Int} {t : ByteArray} {xs : List Int} (d q : Nat) (hd : lookH H d = some (true, .ab (adP V R.length b (newC (und R) R.length at' (o, t) xs)))) (hq : lookH H q = some (true, .ab (frzP W))) (hdq : d ≠ q) (hR : DR V W R)
    (he : adB R.length at' o t V.length xs = 0) (zx : xs.length + V.length ≤ 17592186044416) (zt : t.size ≤ 9223372036854775807) (zr : R.length < 100000) (hR' : R ++ [newC (und R) R.length at' (o, t) xs] = R')
    (h : ∀ V' W', DR V' W' R' → Done F Q L ((q, some (true, .ab (frzP W'))) :: (d, some (true, .ab (depP V' R'.length b))) :: H) nx) : Done F Q L H nx := by
  refine ⟨fun hW e a w S => ?_⟩
  obtain ⟨v, e', hW', S'⟩ := Sat.grow d q hd hq hdq hW S
  have h1 := hR.add he zx zt zr v
  rw [hR.eq] at h1
  subst hR'
  have := h _ _ h1
  rw [show (((R ++ [newC (und R) R.length at' (o, t) xs]).length : Nat) : Int) = (R.length : Int) + 1 by simp] at this
  exact this.h hW' e' a w S'
theorem Done.ex {κ : Type} {F : Frm} {Q : Act → World → Prop} {L : LL} {H : HL} {nx : Nat} {φ : κ → AbP} {b : Bool} (d : Nat) (hd : lookH H d = some (b, .ab (exP φ))) (hs : ∀ k, stable (φ k)) (h : ∀ k, Done F Q L ((d, some (b, .ab (φ k))) :: H) nx) : Done F Q L H nx :=
  ⟨fun hW e a w S => by
    obtain ⟨k, hk⟩ := (S.ob d b _ hd).1.1
    exact (h k).h (wf_ab hW hd) e a w (S.weakAb hd (hs k) fun _ => hk)⟩
end Cw
namespace Cw
open Go Vc
open Go.Proofs
set_option maxRecDepth 100000
theorem dk_other {p : Ch → Bool} {s k k' : Int} {R : List Ch} (hp : ∀ c ∈ R, p c = true → c.at' = k) (hk : k' ≠ k) : dkB (setF p s R) k' = dkB R k' ∧ flB (setF p s R) k' = flB R k' ∧ ofN (setF p s R) k' 2 = ofN R k' 2 := by
  have e1 := dkB_other (s := s) hp hk 0
  have e2 := dkB_other (s := s) hp hk 2
  exact ⟨by rw [dkB, e1]; rfl, by rw [flB, dkB, e1, e2]; rfl, by rw [ofN_filter, e2]; rfl⟩
theorem fly_out (R : List Ch) (k : Int) {s : Int} (hs : s ≠ 2) : (setK k s R).filter (fun c => c.at' == k && c.st == 2) = [] := by
  rw [List.filter_eq_nil_iff]
  intro x hx
  obtain ⟨c, hc, rfl⟩ := setF_mem hx
  by_cases hf : flyB k c = true
  · rw [if_pos hf]; simp [hs]
  · rw [if_neg hf]; exact hf
theorem dk_lost (R : List Ch) (k : Int) : dkB (setK k 1 R) k = dkB R k ∧ ofN (setK k 1 R) k 2 = [] := by
  have e1 : (setK k 1 R).filter (fun c => c.at' == k && c.st == 0) = R.filter (fun c => c.at' == k && c.st == 0) := setF_filter (fun c hc hf => by rw [(flyB_st hf).2]; simp) fun c hc hf => by simp
  exact ⟨by rw [dkB, e1]; rfl, by rw [ofN_filter]; exact congrArg (List.map Ch.no) (fly_out R k (by decide))⟩
theorem dk_done {R : List Ch} (hd : DepOk R) (ho : overOk R) (k : Int) : dkB (setK k 0 R) k = flB R k ∧ ofN (setK k 0 R) k 2 = [] :=
  ⟨(done_more hd ho k zB).symm, by rw [ofN_filter]; exact congrArg (List.map Ch.no) (fly_out R k (by decide))⟩
theorem dk_send {R : List Ch} (hd : DepOk R) {k : Int} (hf : ofN R k 2 = []) (hr : rdyN R k ≠ []) : dkB (setN (rdyN R k) 2 R) k = dkB R k ∧ flB (setN (rdyN R k) 2 R) k = imgB (rdyL R k) (dkB R k) ∧ ofN (setN (rdyN R k) 2 R) k 2 ≠ [] := by
  have hnd := hd.num.nodup
  have hp : ∀ c ∈ R, (rdyN R k).contains c.no = true → c.at' = k ∧ c.st = 1 := fun c hc hcn => by
    obtain ⟨x, hx, h1, h2, h3, _⟩ := rdyN_ok (List.contains_iff_mem.1 hcn)
    rw [uniq hnd hx hc h1] at h2 h3
    exact ⟨h2, h3⟩
  have e1 : (setN (rdyN R k) 2 R).filter (fun c => c.at' == k && c.st == 0) = R.filter (fun c => c.at' == k && c.st == 0) := setF_filter (fun c hc hf => by rw [(hp c hc hf).2]; simp) fun c hc hf => by simp
  have h0 : ∀ c ∈ R, c.at' = k → c.st ≠ 2 := fun c hc h1 h2 => by
    have : c.no ∈ ofN R k 2 := List.mem_map.2 ⟨c, List.mem_filter.2 ⟨hc, by simp [h1, h2]⟩, rfl⟩
    rw [hf] at this; cases this
  have e4 : dkB (setN (rdyN R k) 2 R) k = dkB R k := by rw [dkB, e1]; rfl
  refine ⟨e4, by rw [flB, e4, ← sent_fly hnd k h0 (dkB R k)], ?_⟩
  obtain ⟨n, hn⟩ := List.exists_mem_of_ne_nil _ hr
  obtain ⟨c, hc, h1, h2, h3, _⟩ := rdyN_ok hn
  intro hnil
  have hx : ({ c with st := 2 } : Ch) ∈ setN (rdyN R k) 2 R := List.mem_map.2 ⟨c, hc, by rw [if_pos (List.contains_iff_mem.2 (h1 ▸ hn))]⟩
  have : c.no ∈ ofN (setN (rdyN R k) 2 R) k 2 := List.mem_map.2 ⟨_, List.mem_filter.2 ⟨hx, by simp [h2]⟩, rfl⟩
  rw [hnil] at this; cases this
theorem rdy_only {R : List Ch} (hd : DepOk R) (k : Int) : ∀ c ∈ R, (rdyN R k).contains c.no = true → c.at' = k := fun c hc hcn => by
  obtain ⟨x, hx, h1, h2, _⟩ := rdyN_ok (List.contains_iff_mem.1 hcn)
  rw [uniq hd.num.nodup hx hc h1] at h2
  exact h2
theorem fly_only (k : Int) (R : List Ch) : ∀ c ∈ R, flyB k c = true → c.at' = k := fun c _ hf => (flyB_st hf).1
theorem dk_add {R : List Ch} {c : Ch} (hc : c.st = 1) (k : Int) : dkB (R ++ [c]) k = dkB R k ∧ flB (R ++ [c]) k = flB R k ∧ ofN (R ++ [c]) k 2 = ofN R k 2 := by
  have he : ∀ t : Int, t ≠ 1 → (R ++ [c]).filter (fun c => c.at' == k && c.st == t) = R.filter (fun c => c.at' == k && c.st == t) := fun t ht => by
    rw [List.filter_append, filt0 (fun c : Ch => c.at' == k && c.st == t) (by simp [hc]; intro _; omega), List.append_nil]
  exact ⟨by rw [dkB, he 0 (by decide)]; rfl, by rw [flB, dkB, he 0 (by decide), he 2 (by decide)]; rfl, by rw [ofN_filter, he 2 (by decide)]; rfl⟩
/-- The disk's sectors. -/
def sOf (R : List Ch) : List ByteArray := (List.range 8).map fun k => if k = 1 then wallB 0 0 else S (dkB R (k : Nat))
/-- The writes that wait. -/
def wOf (node : Int) (R : List Ch) (fly : List (Int × Int)) : List (Int × Wr) := fly.map fun p => (p.1, ⟨node, 0, p.2, S (flB R p.2)⟩)
theorem sOf_len (R : List Ch) : (sOf R).length = 8 := by simp [sOf]
theorem sOf_at (R : List Ch) {k : Nat} (h : k < (sOf R).length) : (sOf R)[k] = if k = 1 then wallB 0 0 else S (dkB R (k : Nat)) := by simp [sOf]
theorem sOf_ext {R R' : List Ch} (h : ∀ k : Nat, k ≠ 1 → dkB R' k = dkB R k) : sOf R' = sOf R := by
  refine List.map_congr_left fun k _ => ?_
  split
  · rfl
  · rename_i h1; rw [h k h1]
theorem sOf_set {R R' : List Ch} {j : Nat} (hj : 2 ≤ j) (h : ∀ k : Nat, k ≠ 1 → k ≠ j → dkB R' k = dkB R k) : sOf R' = (sOf R).set j (S (dkB R' j)) := by
  apply List.ext_getElem (by simp [sOf])
  intro i h1 h2
  rw [List.getElem_set, sOf_at]
  split
  · rename_i h3
    rw [if_neg (by omega), sOf_at, if_pos h3]
  · rename_i h3
    split
    · rename_i h4; rw [h4]
    · rename_i h4; rw [sOf_at, if_neg h3, h i h3 (fun e => h4 e.symm)]
theorem wOf_ext {node : Int} {R R' : List Ch} {fly : List (Int × Int)} (h : ∀ p ∈ fly, flB R' p.2 = flB R p.2) : wOf node R' fly = wOf node R fly := List.map_congr_left fun p hp => by rw [h p hp]
theorem sz_S {l : List UInt8} (h : l.length = 64) : (S l).size = 64 := by
  show l.toArray.size = 64
  simpa using h
def gdl (n : Int) (fly : List (Int × Int)) : List (Int × Int) := gdel n fly
theorem gdel_sub {n : Int} : ∀ {l : List (Int × Int)} {p}, p ∈ gdel n l → p ∈ l
  | [], p, h => h
  | (q, x) :: l, p, h => by
    unfold gdel at h
    split at h
    · exact List.mem_cons.2 (.inr h)
    · rcases List.mem_cons.1 h with h | h
      · rw [h]; simp
      · exact List.mem_cons.2 (.inr (gdel_sub h))
theorem gdel_sl {n : Int} : ∀ (l : List (Int × Int)), (gdel n l).Sublist l
  | [] => List.Sublist.slnil
  | (q, x) :: l => by
    unfold gdel
    split
    · exact List.sublist_cons_self _ _
    · exact (gdel_sl l).cons_cons _
theorem wdel_of {node n : Int} {R : List Ch} : ∀ (fly : List (Int × Int)), wdel n (wOf node R fly) = wOf node R (gdel n fly)
  | [] => rfl
  | (q, x) :: l => by
    show wdel n ((q, _) :: wOf node R l) = _
    unfold wdel gdel
    split
    · rfl
    · rw [wdel_of l]; rfl
theorem wget_of {node n k : Int} {R : List Ch} : ∀ {fly : List (Int × Int)}, gget n fly = some k → wget n (wOf node R fly) = some ⟨node, 0, k, S (flB R k)⟩
  | [], h => by cases h
  | (q, x) :: l, h => by
    unfold gget at h
    show wget n ((q, _) :: wOf node R l) = _
    unfold wget
    split at h
    · rename_i h1; cases h; rw [if_pos h1]
    · rename_i h1; rw [if_neg h1]; exact wget_of h
theorem gget_of {n k : Int} : ∀ {fly : List (Int × Int)}, (fly.map Prod.fst).Pairwise (· < ·) → (n, k) ∈ fly → gget n fly = some k
  | [], _, h => by cases h
  | (q, x) :: l, hp, h => by
    rw [List.map_cons, List.pairwise_cons] at hp
    unfold gget
    rcases List.mem_cons.1 h with h | h
    · cases h; rw [if_pos rfl]
    · have := hp.1 n (List.mem_map.2 ⟨_, h, rfl⟩)
      rw [if_neg (by omega)]
      exact gget_of hp.2 h
theorem mem_gdel {n k : Int} : ∀ {fly : List (Int × Int)}, (fly.map Prod.fst).Pairwise (· < ·) → (n, k) ∈ fly → ∀ p, p ∈ gdel n fly ↔ p ∈ fly ∧ p ≠ (n, k)
  | [], _, h, p => by cases h
  | (q, x) :: l, hp, h, p => by
    have hp0 := hp
    rw [List.map_cons, List.pairwise_cons] at hp
    unfold gdel
    rcases List.mem_cons.1 h with h | h
    · cases h
      rw [if_pos rfl, List.mem_cons]
      constructor
      · intro h1
        refine ⟨.inr h1, fun e => ?_⟩
        subst e
        have := hp.1 n (List.mem_map.2 ⟨_, h1, rfl⟩)
        omega
      · rintro ⟨h1 | h1, h2⟩
        · exact absurd h1 h2
        · exact h1
    · have := hp.1 n (List.mem_map.2 ⟨_, h, rfl⟩)
      rw [if_neg (by omega), List.mem_cons, mem_gdel hp.2 h p, List.mem_cons]
      constructor
      · rintro (h1 | ⟨h1, h2⟩)
        · refine ⟨.inl h1, fun e => ?_⟩
          rw [h1] at e
          cases e
          omega
        · exact ⟨.inr h1, h2⟩
      · rintro ⟨h1 | h1, h2⟩
        · exact .inl h1
        · exact .inr ⟨h1, h2⟩
/-- What stays of a side. -/
structure SfOk (R : List Ch) (fly : List (Int × Int)) (last : Int) : Prop where
  dep : DepOk R
  ov : overOk R
  ok : okB R
  two : ∀ c ∈ R, 2 ≤ c.at'
  key : (fly.map Prod.fst).Pairwise (· < ·)
  le : ∀ p ∈ fly, 1 ≤ p.1 ∧ p.1 ≤ last
  l0 : 0 ≤ last
  nd : (fly.map Prod.snd).Nodup
  fl : ∀ k, k ∈ fly.map Prod.snd ↔ ofN R k 2 ≠ []
section
variable {R : List Ch} {fly : List (Int × Int)} {last node : Int}
theorem ofN_sec (h : ∀ c ∈ R, 2 ≤ c.at') (ho : okB R) {k : Int} (hk : ofN R k 2 ≠ []) : 2 ≤ k ∧ k < 8 := by
  obtain ⟨n, hn⟩ := List.exists_mem_of_ne_nil _ hk
  obtain ⟨c, hc, _⟩ := List.mem_map.1 hn
  obtain ⟨h1, h2⟩ := List.mem_filter.1 hc
  have : c.at' = k := by simp at h2; exact h2.1
  have q1 := h c h1
  have q2 := (ho c h1).1
  omega
theorem SfOk.fsec (h : SfOk R fly last) {p : Int × Int} (hp : p ∈ fly) : 2 ≤ p.2 ∧ p.2 < 8 := ofN_sec h.two h.ok ((h.fl p.2).1 (List.mem_map.2 ⟨p, hp, rfl⟩))
theorem SfOk.nil : SfOk [] [] 0 := ⟨DepOk.nil, overOk.nil, fun c hc => (by cases hc), fun c hc => (by cases hc), by simp, by simp, by omega, by simp, fun k => by simp [ofN]⟩
theorem SfOk.disk (h : SfOk R fly last) : DOk 8 (sOf R) (wOf node R fly) last := by
  refine ⟨sOf_len R, by decide, fun s hs => ?_, fun p hp => ?_, fun p hp => ?_, ?_, fun p hp => ?_, h.l0⟩
  · obtain ⟨k, _, rfl⟩ := List.mem_map.1 hs
    split
    · exact wallB_size 0 0
    · exact sz_S (dkB_len _ _)
  · obtain ⟨q, hq, rfl⟩ := List.mem_map.1 hp
    have := h.fsec hq
    exact inS_iff.2 (by show 0 ≤ q.2 ∧ q.2 < ((8 : Nat) : Int); omega)
  · obtain ⟨q, hq, rfl⟩ := List.mem_map.1 hp
    exact sz_S (flB_len _ _)
  · have : (wOf node R fly).map Prod.fst = fly.map Prod.fst := by rw [wOf, List.map_map]; rfl
    rw [this]; exact h.key
  · obtain ⟨q, hq, rfl⟩ := List.mem_map.1 hp
    exact h.le q hq
theorem nodup_le : ∀ (a b : List Int), a.Nodup → (∀ x ∈ a, x ∈ b) → a.length ≤ b.length
  | [], _, _, _ => Nat.zero_le _
  | x :: a, b, hn, h => by
    rw [List.nodup_cons] at hn
    have h1 := nodup_le a (b.erase x) hn.2 fun y hy => by
      have hne : y ≠ x := fun e => hn.1 (e ▸ hy)
      exact (List.mem_erase_of_ne hne).2 (h y (by simp [hy]))
    have h2 := h x (by simp)
    rw [List.length_erase_of_mem h2] at h1
    have h3 := List.length_pos_of_mem h2
    simp; omega
theorem SfOk.flen (h : SfOk R fly last) : fly.length ≤ 8 := by
  have h1 : (fly.map Prod.snd).length ≤ ((List.range 8).map fun k : Nat => (k : Int)).length := by
    refine nodup_le _ _ h.nd fun k hk => ?_
    obtain ⟨p, hp, rfl⟩ := List.mem_map.1 hk
    have := h.fsec hp
    exact List.mem_map.2 ⟨p.2.toNat, List.mem_range.2 (by omega), by show ((p.2.toNat : Nat) : Int) = p.2; omega⟩
  simpa using h1
theorem SfOk.send (h : SfOk R fly last) {k : Int} (hf : ofN R k 2 = []) (hr : rdyN R k ≠ []) :
    SfOk (setN (rdyN R k) 2 R) (fly ++ [(last + 1, k)]) (last + 1) ∧ sOf (setN (rdyN R k) 2 R) = sOf R ∧ wOf node (setN (rdyN R k) 2 R) fly = wOf node R fly := by
  obtain ⟨e1, e2, e3⟩ := dk_send h.dep hf hr
  have ho := fun k' (hk : k' ≠ k) => dk_other (s := 2) (rdy_only h.dep k) hk
  have hkn : k ∉ fly.map Prod.snd := fun hk => (h.fl k).1 hk hf
  refine ⟨⟨h.dep.send k, h.ov.send h.dep k, h.ok.setF _ _, fun c hc => ?_, ?_, ?_, ?_, ?_, fun j => ?_⟩, ?_, ?_⟩
  · obtain ⟨x, hx, rfl⟩ := setF_mem hc
    split <;> exact h.two x hx
  · rw [List.map_append, List.pairwise_append]
    refine ⟨h.key, by simp, fun a ha b hb => ?_⟩
    obtain ⟨p, hp, rfl⟩ := List.mem_map.1 ha
    simp at hb
    have := h.le p hp
    omega
  · intro p hp
    have hl0 := h.l0
    rcases List.mem_append.1 hp with hp | hp
    · have := h.le p hp; omega
    · rw [List.mem_singleton.1 hp]
      show 1 ≤ last + 1 ∧ last + 1 ≤ last + 1
      omega
  · have := h.l0; omega
  · rw [List.map_append, List.nodup_append]
    refine ⟨h.nd, by simp, fun a ha b hb hab => ?_⟩
    simp at hb
    subst hab hb
    exact hkn ha
  · rw [List.map_append, List.mem_append]
    by_cases hj : j = k
    · subst hj
      exact ⟨fun _ => e3, fun _ => .inr (by simp)⟩
    · have := (ho j hj).2.2
      show _ ↔ ofN (setF (fun c => (rdyN R k).contains c.no) 2 R) j 2 ≠ []
      rw [this, ← h.fl j]
      simp [hj]
  · refine sOf_ext fun j _ => ?_
    by_cases hj : (j : Int) = k
    · rw [hj]; exact e1
    · exact (ho j hj).1
  · refine wOf_ext fun p hp => (ho p.2 fun e => hkn (e ▸ List.mem_map.2 ⟨p, hp, rfl⟩)).2.1
theorem SfOk.ended (h : SfOk R fly last) {n k : Int} (hn : (n, k) ∈ fly) {s : Int} (hs : s ≠ 2) (hd : DepOk (setK k s R)) :
    SfOk (setK k s R) (gdel n fly) last ∧ wOf node (setK k s R) (gdel n fly) = wOf node R (gdel n fly) := by
  have ho := fun k' (hk : k' ≠ k) => dk_other (s := s) (fly_only k R) hk
  have hm := mem_gdel h.key hn
  have e3 : ofN (setK k s R) k 2 = [] := by rw [ofN_filter]; exact congrArg (List.map Ch.no) (fly_out R k hs)
  have huniq : ∀ p ∈ fly, p.2 = k → p = (n, k) := fun p hp hpk => by
    have h1 := List.pairwise_iff_getElem.1 h.nd
    obtain ⟨i, hi, rfl⟩ := List.getElem_of_mem hp
    obtain ⟨j, hj, e⟩ := List.getElem_of_mem hn
    by_cases hij : i = j
    · subst hij; exact e
    · exfalso
      have h2 : (fly.map Prod.snd)[i]'(by simpa using hi) = (fly.map Prod.snd)[j]'(by simpa using hj) := by simp [hpk, e]
      exact hij ((List.getElem_inj h.nd).1 h2)
  have hkn : ∀ p ∈ gdel n fly, p.2 ≠ k := fun p hp hpk => by
    obtain ⟨h1, h2⟩ := (hm p).1 hp
    exact h2 (huniq p h1 hpk)
  refine ⟨⟨hd, h.ov.fly k s, h.ok.setF _ _, fun c hc => ?_, ?_, fun p hp => h.le p (gdel_sub hp), h.l0, ?_, fun j => ?_⟩, wOf_ext fun p hp => (ho p.2 (hkn p hp)).2.1⟩
  · obtain ⟨x, hx, rfl⟩ := setF_mem hc
    split <;> exact h.two x hx
  · exact h.key.sublist ((gdel_sl fly).map _)
  · exact h.nd.sublist ((gdel_sl fly).map _)
  · by_cases hj : j = k
    · subst hj
      constructor
      · intro hj
        obtain ⟨p, hp, e⟩ := List.mem_map.1 hj
        exact absurd e (hkn p hp)
      · intro hj; exact absurd e3 hj
    · show _ ↔ ofN (setF (flyB k) s R) j 2 ≠ []
      rw [(ho j hj).2.2, ← h.fl j, List.mem_map, List.mem_map]
      constructor
      · rintro ⟨p, hp, e⟩
        exact ⟨p, gdel_sub hp, e⟩
      · rintro ⟨p, hp, e⟩
        exact ⟨p, (hm p).2 ⟨hp, fun e' => hj (by rw [← e, e'])⟩, e⟩
theorem SfOk.done (h : SfOk R fly last) {n k : Int} (hn : (n, k) ∈ fly) :
    SfOk (setK k 0 R) (gdel n fly) last ∧ wOf node (setK k 0 R) (gdel n fly) = wOf node R (gdel n fly) ∧ sOf (setK k 0 R) = (sOf R).set k.toNat (S (flB R k)) := by
  obtain ⟨h1, h2⟩ := h.ended (node := node) hn (s := 0) (by decide) (h.dep.done k)
  have hk := h.fsec hn
  have e := (dk_done h.dep h.ov k).1
  refine ⟨h1, h2, ?_⟩
  have hj : ((k.toNat : Nat) : Int) = k := Int.toNat_of_nonneg (by have := hk.1; simp only at this; omega)
  have := sOf_set (R := R) (R' := setK k 0 R) (j := k.toNat) (by have := hk.1; simp only at this; omega) fun i _ hi => (dk_other (s := 0) (fly_only k R) (fun e => hi (by omega))).1
  rw [hj, e] at this
  exact this
theorem SfOk.lost (h : SfOk R fly last) {n k : Int} (hn : (n, k) ∈ fly) :
    SfOk (setK k 1 R) (gdel n fly) last ∧ wOf node (setK k 1 R) (gdel n fly) = wOf node R (gdel n fly) ∧ sOf (setK k 1 R) = sOf R := by
  obtain ⟨h1, h2⟩ := h.ended (node := node) hn (s := 1) (by decide) (h.dep.lost k)
  refine ⟨h1, h2, sOf_ext fun j _ => ?_⟩
  by_cases hj : (j : Int) = k
  · rw [hj]; exact (dk_lost R k).1
  · exact (dk_other (s := 1) (fly_only k R) hj).1
theorem SfOk.add (h : SfOk R fly last) {c : Ch} (hc : c.st = 1) (hd : DepOk (R ++ [c])) (ho : overOk (R ++ [c])) (hk : okB [c]) (h2 : 2 ≤ c.at') : SfOk (R ++ [c]) fly last ∧ wOf node (R ++ [c]) fly = wOf node R fly ∧ sOf (R ++ [c]) = sOf R := by
  refine ⟨⟨hd, ho, fun x hx => ?_, fun x hx => ?_, h.key, h.le, h.l0, h.nd, fun j => ?_⟩, wOf_ext fun p _ => (dk_add hc p.2).2.1, sOf_ext fun j _ => (dk_add hc j).1⟩
  · exact (List.mem_append.1 hx).elim (h.ok x) (hk x)
  · rcases List.mem_append.1 hx with hx | hx
    · exact h.two x hx
    · rw [List.mem_singleton.1 hx]; exact h2
  · rw [(dk_add hc j).2.2]; exact h.fl j
/-- What is seen of a sector: all. -/
theorem SfOk.seen (h : SfOk R fly last) (hl : R.length ≤ 1000) {k : Int} : pt (S (dkB R k)) (vwP R k) = S (alB R k) ∧ pte (S (dkB R k)) (vwP R k) = 0 := by
  have := pt_img (h.ok.filter fun c => c.at' == k && c.st != 0) (Nat.le_trans (List.length_filter_le _ _) (by omega)) (s := S (dkB R k)) (sz_S (dkB_len R k))
  refine ⟨?_, this.2⟩
  rw [vwP, this.1, S_list]
  congr 1
  exact seen_all h.dep h.ov k zB
theorem SfOk.image (h : SfOk R fly last) (hl : R.length ≤ 1000) {k : Int} : pt (S (dkB R k)) (rdyP R k) = S (imgB (rdyL R k) (dkB R k)) ∧ pte (S (dkB R k)) (rdyP R k) = 0 := by
  have := pt_img (h.ok.rdyL h.dep.num.nodup k) (by have := rdyT_le R k R.length; simp [rdyL]; omega) (s := S (dkB R k)) (sz_S (dkB_len R k))
  exact ⟨by rw [rdyP, this.1, S_list], this.2⟩
end
end Cw
namespace Cw
open Go Vc
open Go.Proofs
set_option maxRecDepth 100000
/-- A side's state. -/
structure SS where
  R : List Ch
  fly : List (Int × Int)
  last : Int
def SOk (x : SS) : Prop := SfOk x.R x.fly x.last
def wrCn (x : SS) (k : Int) : Prop := ofN x.R k 2 = [] ∧ rdyN x.R k ≠ []
instance (x : SS) (k : Int) : Decidable (wrCn x k) := inferInstanceAs (Decidable (_ ∧ _))
def wr1 (x : SS) (k : Int) : SS := if wrCn x k then ⟨setN (rdyN x.R k) 2 x.R, x.fly ++ [(x.last + 1, k)], x.last + 1⟩ else x
def wr1N (x : SS) (k : Int) : Int := if wrCn x k then x.last + 1 else 0
theorem wr1_yes {x : SS} {k : Int} (h : wrCn x k) : wr1 x k = ⟨setN (rdyN x.R k) 2 x.R, x.fly ++ [(x.last + 1, k)], x.last + 1⟩ := if_pos h
theorem wr1_no {x : SS} {k : Int} (h : ¬ wrCn x k) : wr1 x k = x := if_neg h
theorem sdE_yes {x : SS} {k : Int} (h : wrCn x k) : sdE' x.R k = 0 := by
  rw [sdE', if_pos (by rw [h.1]; rfl), if_neg fun e => h.2 (List.length_eq_zero_iff.1 e)]
theorem sdE_no {x : SS} {k : Int} (h : ¬ wrCn x k) : sdE' x.R k = 5 ∨ sdE' x.R k = 120 := by
  unfold sdE'
  by_cases h1 : (ofN x.R k 2).length = 0
  · by_cases h2 : (rdyN x.R k).length = 0
    · left; rw [if_pos h1, if_pos h2]
    · exact absurd ⟨List.length_eq_zero_iff.1 h1, fun e => h2 (by rw [e]; rfl)⟩ h
  · right; rw [if_neg h1]
theorem SOk.w1 {x : SS} (h : SOk x) (k : Int) : SOk (wr1 x k) := by
  by_cases hc : wrCn x k
  · rw [wr1_yes hc]; exact (SfOk.send (node := 0) h hc.1 hc.2).1
  · rw [wr1_no hc]; exact h
theorem wr1_len (x : SS) (k : Int) : (wr1 x k).R.length = x.R.length := by
  by_cases hc : wrCn x k
  · rw [wr1_yes hc]; exact setN_len _ _ _
  · rw [wr1_no hc]
theorem wr1_last (x : SS) (k : Int) : x.last ≤ (wr1 x k).last ∧ (wr1 x k).last ≤ x.last + 1 := by
  by_cases hc : wrCn x k
  · rw [wr1_yes hc]; show x.last ≤ x.last + 1 ∧ x.last + 1 ≤ x.last + 1; omega
  · rw [wr1_no hc]; omega
def wrA (x : SS) (ks : List Int) : SS := ks.foldl wr1 x
theorem wrA_snoc (x : SS) (ks : List Int) (k : Int) : wrA x (ks ++ [k]) = wr1 (wrA x ks) k := by rw [wrA, List.foldl_append]; rfl
def woA (x : SS) (ks : List Int) : List Int := ((wrA x ks).fly.drop x.fly.length).map Prod.fst
theorem SOk.wA {x : SS} (h : SOk x) : ∀ ks, SOk (wrA x ks)
  | [] => h
  | k :: ks => (h.w1 k).wA ks
theorem wrA_len : ∀ (ks : List Int) (x : SS), (wrA x ks).R.length = x.R.length
  | [], _ => rfl
  | k :: ks, x => (wrA_len ks (wr1 x k)).trans (wr1_len x k)
theorem wrA_last : ∀ (ks : List Int) (x : SS), x.last ≤ (wrA x ks).last ∧ (wrA x ks).last ≤ x.last + ks.length
  | [], x => by show x.last ≤ x.last ∧ x.last ≤ x.last + ((0 : Nat) : Int); omega
  | k :: ks, x => by
    have h1 := wrA_last ks (wr1 x k)
    have h2 := wr1_last x k
    show x.last ≤ (wrA (wr1 x k) ks).last ∧ (wrA (wr1 x k) ks).last ≤ x.last + ((ks.length + 1 : Nat) : Int)
    omega
theorem wrA_fly : ∀ (ks : List Int) (x : SS), ∃ m, (wrA x ks).fly = x.fly ++ m ∧ m.length ≤ ks.length
  | [], x => ⟨[], (List.append_nil _).symm, Nat.le_refl _⟩
  | k :: ks, x => by
    obtain ⟨m, h1, h2⟩ := wrA_fly ks (wr1 x k)
    by_cases hc : wrCn x k
    · refine ⟨(x.last + 1, k) :: m, ?_, by simp; omega⟩
      show (wrA (wr1 x k) ks).fly = _
      rw [h1, wr1_yes hc]
      simp
    · refine ⟨m, ?_, by simp; omega⟩
      show (wrA (wr1 x k) ks).fly = _
      rw [h1, wr1_no hc]
theorem woA_le (x : SS) (ks : List Int) : (woA x ks).length ≤ ks.length := by
  obtain ⟨m, h1, h2⟩ := wrA_fly ks x
  rw [woA, h1]
  simp; omega
theorem woA_snoc (x : SS) (ks : List Int) (k : Int) : woA x (ks ++ [k]) = if wrCn (wrA x ks) k then woA x ks ++ [(wrA x ks).last + 1] else woA x ks := by
  unfold woA
  rw [wrA_snoc]
  obtain ⟨m, h1, _⟩ := wrA_fly ks x
  by_cases hc : wrCn (wrA x ks) k
  · rw [if_pos hc, wr1_yes hc, h1]
    simp
  · rw [if_neg hc, wr1_no hc]
theorem wr1_und {x : SS} (h : SOk x) (k : Int) : (und (wr1 x k).R).length = (und x.R).length := by
  by_cases hc : wrCn x k
  · rw [wr1_yes hc]; show (und (setN (rdyN x.R k) 2 x.R)).length = _; rw [und_send h.dep.num.nodup, setN_len]
  · rw [wr1_no hc]
theorem wrA_und : ∀ (ks : List Int) {x : SS}, SOk x → (und (wrA x ks).R).length = (und x.R).length
  | [], _, _ => rfl
  | k :: ks, x, h => (wrA_und ks (h.w1 k)).trans (wr1_und h k)
/-- A write is done. -/
def dn1 (x : SS) (n k : Int) : SS := ⟨setK k 0 x.R, gdel n x.fly, x.last⟩
theorem SOk.d1 {x : SS} (h : SOk x) {n k : Int} (hn : (n, k) ∈ x.fly) : SOk (dn1 x n k) := (SfOk.done (node := 0) h hn).1
theorem dn1_und {x : SS} (h : SOk x) {n k : Int} (hn : (n, k) ∈ x.fly) : (und (dn1 x n k).R).length < (und x.R).length := by
  have h1 : und (setK k 0 x.R) = delK k (und x.R) := und_delK x.R
  have h2 : ofN x.R k 2 ≠ [] := (h.fl k).1 (List.mem_map.2 ⟨_, hn, rfl⟩)
  obtain ⟨m, hm⟩ := List.exists_mem_of_ne_nil _ h2
  obtain ⟨c, hc, _⟩ := List.mem_map.1 hm
  obtain ⟨hc1, hc2⟩ := List.mem_filter.1 hc
  show (und (setK k 0 x.R)).length < _
  rw [h1, delK]
  refine Nat.lt_of_le_of_ne (List.length_filter_le _ _) fun he => ?_
  have h3 : c ∈ und x.R := und_mem.2 ⟨hc1, by simp at hc2; rw [hc2.2]; decide⟩
  have := List.length_filter_eq_length_iff.1 he c h3
  have hf : flyB k c = true := hc2
  rw [hf] at this
  cases this
theorem SOk.fly0 {x : SS} (h : SOk x) (hf : x.fly = []) : ∀ c ∈ x.R, c.st ≠ 2 := fun c hc h2 => by
  have : c.at' ∈ x.fly.map Prod.snd := (h.fl c.at').2 fun e => by
    have : c.no ∈ ofN x.R c.at' 2 := List.mem_map.2 ⟨c, List.mem_filter.2 ⟨hc, by simp [h2]⟩, rfl⟩
    rw [e] at this; cases this
  rw [hf] at this
  cases this
/-- Something is written as long as something is pending. -/
theorem SOk.goes {x : SS} (h : SOk x) (hf : x.fly = []) (hu : und x.R ≠ []) : (wrA x (secs (und x.R))).fly ≠ [] := by
  have hnf := h.fly0 hf
  obtain ⟨c, hc, h1, h2⟩ := h.dep.some_ready hnf hu
  have h0 : ∀ k, ofN x.R k 2 = [] := fun k => by
    rw [ofN, List.map_eq_nil_iff, List.filter_eq_nil_iff]
    intro c hc
    have := hnf c hc
    simp [this]
  have hm : c.at' ∈ secs (und x.R) := by
    rw [secs_mem, ofN_und x.R _ (by decide), h0, rdyN_und h.dep.num.nodup]
    exact ⟨⟨c, und_mem.2 ⟨hc, by rw [h1]; decide⟩, rfl⟩, rfl, fun hn => by rw [hn] at h2; cases h2⟩
  cases hs : secs (und x.R) with
  | nil => rw [hs] at hm; cases hm
  | cons k ks =>
    have hk : k ∈ secs (und x.R) := by rw [hs]; simp
    rw [secs_mem, rdyN_und h.dep.num.nodup] at hk
    have hc : wrCn x k := ⟨h0 k, hk.2.2⟩
    obtain ⟨m, e, _⟩ := wrA_fly ks (wr1 x k)
    show (wrA (wr1 x k) ks).fly ≠ []
    rw [e, wr1_yes hc]
    simp
theorem secs_le {x : SS} : (secs (und x.R)).length ≤ x.R.length := by
  have h1 : (secs (und x.R)).length ≤ (srtI (atK (und x.R))).length := List.length_filter_le _ _
  rw [srtI_length] at h1
  have h2 := atK_le (und x.R)
  have h3 := List.length_filter_le (fun c : Ch => c.st != 0) x.R
  have h4 : (und x.R).length ≤ x.R.length := h3
  omega
/-- What is written of a sector does not hang on what is done. -/
theorem imgB_map {f : Ch → Ch} (hf : ∀ c, (f c).off = c.off ∧ (f c).by' = c.by') : ∀ (cs : List Ch) (s : List UInt8), imgB (cs.map f) s = imgB cs s
  | [], _ => rfl
  | c :: cs, s => by
    show imgB (cs.map f) (s.set (f c).off.toNat (btC (f c))) = imgB cs (s.set c.off.toNat (btC c))
    rw [imgB_map hf cs, btC, btC, (hf c).1, (hf c).2]
theorem alB_setF (p : Ch → Bool) (s : Int) (R : List Ch) (k : Int) : alB (setF p s R) k = alB R k := by
  have hf : ∀ c : Ch, (if p c then { c with st := s } else c).off = c.off ∧ (if p c then { c with st := s } else c).by' = c.by' := fun c => by split <;> exact ⟨rfl, rfl⟩
  rw [alB, alB, setF, List.filter_map]
  have : (R.filter ((fun c : Ch => c.at' == k) ∘ fun c => if p c then { c with st := s } else c)) = R.filter fun c => c.at' == k := List.filter_congr fun c _ => by
    show ((if p c then { c with st := s } else c).at' == k) = _
    split <;> rfl
  rw [this, imgB_map hf]
theorem wr1_al (x : SS) (k j : Int) : alB (wr1 x k).R j = alB x.R j := by
  by_cases hc : wrCn x k
  · rw [wr1_yes hc]; exact alB_setF _ _ _ _
  · rw [wr1_no hc]
theorem wrA_al (j : Int) : ∀ (ks : List Int) (x : SS), alB (wrA x ks).R j = alB x.R j
  | [], _ => rfl
  | k :: ks, x => (wrA_al j ks (wr1 x k)).trans (wr1_al x k j)
theorem all_done {R : List Ch} (h : und R = []) (k : Int) : dkB R k = alB R k := by
  have h0 : ∀ c ∈ R, c.st = 0 := fun c hc => Classical.byContradiction fun hne => by
    have := und_mem.2 ⟨hc, hne⟩
    rw [h] at this; cases this
  rw [dkB, alB]
  congr 1
  exact List.filter_congr fun c hc => by simp [h0 c hc]
end Cw
namespace Cw
open Go Vc
open Go.Proofs
set_option maxRecDepth 100000
/-- Those ahead, counted back by up to 4. -/
def b5T (n : Nat) (bs : List Int) : List Int := bs.foldl (fun acc b => if decide ((n : Int) - b % 5 ≥ 1) = true then acc ++ [(n : Int) - b % 5] else acc) []
theorem b5T_snoc (n : Nat) (bs : List Int) (b : Int) : b5T n (bs ++ [b]) = if decide ((n : Int) - b % 5 ≥ 1) = true then b5T n bs ++ [(n : Int) - b % 5] else b5T n bs := by
  rw [b5T, List.foldl_append]; rfl
theorem b5T_mem {n : Nat} {x : Int} (bs : List Int) : x ∈ b5T n bs → 1 ≤ x ∧ x ≤ (n : Int) := by
  rw [show bs = bs.reverse.reverse from (List.reverse_reverse bs).symm]
  generalize bs.reverse = m
  induction m with
  | nil => intro h; cases h
  | cons b m ih =>
    rw [List.reverse_cons, b5T_snoc]
    split
    · rename_i h
      intro hx
      rcases List.mem_append.1 hx with hx | hx
      · exact ih hx
      · have h1 := of_decide_eq_true h
        have h2 := Int.emod_nonneg b (show (5 : Int) ≠ 0 by decide)
        rw [List.mem_singleton.1 hx]
        omega
    · exact ih
/-- A change of a statement. -/
structure SC where
  at' : Int
  off : Int
  by' : Int
  back : List Int
  A : Option Addr
  m : Nat
def SC.w (a : SC) : List Int × Option Addr × Nat := (a.back, a.A, a.m)
def scv (a : SC) : List Value := [.int .i64 a.at', .int .i64 a.off, .int .u8 a.by', .slice a.A a.back.length a.m]
def scells (ls : List SC) : List Value := fcs scv ls
/-- The change that is added. -/
def sfC (R : List Ch) (k o b : Int) (xs : List Int) : Ch := newC (und R) R.length k (o, bt1 b) xs
theorem SfOk.plus {R : List Ch} {fly : List (Int × Int)} {last node : Int} (h : SfOk R fly last) {k o b : Int} {xs : List Int} (hk : 2 ≤ k ∧ k < 8) (ho : 0 ≤ o ∧ o < 64) (hx : ∀ n ∈ xs, 1 ≤ n ∧ n ≤ (R.length : Int)) :
    SfOk (R ++ [sfC R k o b xs]) fly last ∧ wOf node (R ++ [sfC R k o b xs]) fly = wOf node R fly ∧ sOf (R ++ [sfC R k o b xs]) = sOf R := by
  have hah : (sfC R k o b xs).ah = xs ++ ((und R).filter fun c => ovb (c.off, c.by') (o, bt1 b) && c.at' == k).map Ch.no := alls_eq _ _ _ _
  refine h.add rfl ?_ ?_ (fun c hc => ?_) hk.1
  · refine h.dep.add rfl rfl fun n hn => ?_
    rw [hah] at hn
    rcases List.mem_append.1 hn with hn | hn
    · exact hx n hn
    · obtain ⟨c, hc, rfl⟩ := List.mem_map.1 hn
      have := h.dep.num.le (und_mem.1 (List.mem_filter.1 hc).1).1
      omega
  · refine h.ov.add h.dep rfl fun c hc h1 h2 h3 => ?_
    obtain ⟨q1, q2, b', q3⟩ := h.ok c hc
    rw [hah]
    refine List.mem_append.2 (.inr (List.mem_map.2 ⟨c, List.mem_filter.2 ⟨und_mem.2 ⟨hc, h3⟩, ?_⟩, rfl⟩))
    have h1' : c.at' = k := h1
    have h2' : c.off = o := by
      have : c.off.toNat = o.toNat := h2
      omega
    rw [q3, bt1_ovb _ _ q2 ho, h1', h2']
    simp
  · rw [List.mem_singleton.1 hc]
    exact ⟨by show 0 ≤ k ∧ k < 8; omega, ho, b, rfl⟩
/-- Changes each of which has a byte of its own. -/
structure BgOk (ls : List SC) (R : List Ch) : Prop where
  le : R.length ≤ ls.length ∧ R.length ≤ 30
  at' : ∀ (j : Nat) (h : j < R.length) (h' : j < ls.length), R[j].at' = 2 + ls[j].at' % 6
  off : ∀ (j : Nat) (h : j < R.length), R[j].off = (j : Int)
  by' : ∀ (j : Nat) (h : j < R.length), R[j].by' = bt1 ((j : Int) + 1)
  ah : ∀ (j : Nat) (h : j < R.length) (h' : j < ls.length), ∀ n ∈ b5T j ls[j].back, n ∈ R[j].ah
section
variable {ls : List SC} {R : List Ch}
theorem BgOk.nil : BgOk ls [] := ⟨by simp, fun j h => by simp at h, fun j h => by simp at h, fun j h => by simp at h, fun j h => by simp at h⟩
theorem setF_get' {p : Ch → Bool} {s : Int} {R : List Ch} {i : Nat} (h : i < (setF p s R).length) : ((setF p s R)[i]).at' = (R[i]'(by rw [setF_len] at h; exact h)).at' ∧ ((setF p s R)[i]).off = (R[i]'(by rw [setF_len] at h; exact h)).off ∧ ((setF p s R)[i]).by' = (R[i]'(by rw [setF_len] at h; exact h)).by' ∧ ((setF p s R)[i]).ah = (R[i]'(by rw [setF_len] at h; exact h)).ah := by
  simp only [setF, List.getElem_map]
  split <;> exact ⟨rfl, rfl, rfl, rfl⟩
theorem BgOk.set (h : BgOk ls R) (p : Ch → Bool) (s : Int) : BgOk ls (setF p s R) := by
  have hl := setF_len p s R
  refine ⟨by rw [hl]; exact h.le, fun j hj h' => ?_, fun j hj => ?_, fun j hj => ?_, fun j hj h' n hn => ?_⟩
  · rw [(setF_get' hj).1]; exact h.at' j _ h'
  · rw [(setF_get' hj).2.1]; exact h.off j _
  · rw [(setF_get' hj).2.2.1]; exact h.by' j _
  · rw [(setF_get' hj).2.2.2]; exact h.ah j _ h' n hn
theorem BgOk.add (h : BgOk ls R) (hl : R.length < ls.length) (hl' : R.length < 30) : BgOk ls (R ++ [sfC R (2 + ls[R.length].at' % 6) (R.length : Int) ((R.length : Int) + 1) (b5T R.length ls[R.length].back)]) := by
  have hah : (sfC R (2 + ls[R.length].at' % 6) (R.length : Int) ((R.length : Int) + 1) (b5T R.length ls[R.length].back)).ah = b5T R.length ls[R.length].back ++ ((und R).filter fun c => ovb (c.off, c.by') ((R.length : Int), bt1 ((R.length : Int) + 1)) && c.at' == 2 + ls[R.length].at' % 6).map Ch.no := alls_eq _ _ _ _
  have key : ∀ (j : Nat) (hj : j < (R ++ [sfC R (2 + ls[R.length].at' % 6) (R.length : Int) ((R.length : Int) + 1) (b5T R.length ls[R.length].back)]).length), (∃ h : j < R.length, (R ++ [sfC R (2 + ls[R.length].at' % 6) (R.length : Int) ((R.length : Int) + 1) (b5T R.length ls[R.length].back)])[j] = R[j]) ∨ (j = R.length ∧ (R ++ [sfC R (2 + ls[R.length].at' % 6) (R.length : Int) ((R.length : Int) + 1) (b5T R.length ls[R.length].back)])[j] = sfC R (2 + ls[R.length].at' % 6) (R.length : Int) ((R.length : Int) + 1) (b5T R.length ls[R.length].back)) := fun j hj => by
    by_cases hi : j < R.length
    · exact .inl ⟨hi, List.getElem_append_left hi⟩
    · have : j = R.length := by simp at hj; omega
      subst this
      exact .inr ⟨rfl, by simp⟩
  refine ⟨by simp; omega, fun j hj h' => ?_, fun j hj => ?_, fun j hj => ?_, fun j hj h' n hn => ?_⟩
  · rcases key j hj with ⟨hi, e⟩ | ⟨rfl, e⟩
    · rw [e]; exact h.at' j hi h'
    · rw [e]; rfl
  · rcases key j hj with ⟨hi, e⟩ | ⟨rfl, e⟩
    · rw [e]; exact h.off j hi
    · rw [e]; rfl
  · rcases key j hj with ⟨hi, e⟩ | ⟨rfl, e⟩
    · rw [e]; exact h.by' j hi
    · rw [e]; rfl
  · rcases key j hj with ⟨hi, e⟩ | ⟨rfl, e⟩
    · rw [e]; exact h.ah j hi h' n hn
    · rw [e, hah]; exact List.mem_append.2 (.inl hn)
/-- What goes ahead of what is done is done. -/
theorem BgOk.ahead (h : BgOk ls R) (hd : DepOk R) {i : Nat} (hi : i < R.length) (h' : i < ls.length) (hs : R[i].st = 0) {n : Int} (hn : n ∈ b5T i ls[i].back) : 1 ≤ n ∧ ∃ hj : n.toNat - 1 < R.length, R[n.toNat - 1].st = 0 := by
  obtain ⟨h1, h2⟩ := b5T_mem _ hn
  have h3 := hd.cls R[i] (List.getElem_mem hi) hs n (h.ah i hi h' n hn)
  rw [hd.num.st h1 (by omega)] at h3
  exact ⟨h1, by omega, h3⟩
end
end Cw
namespace Cw
open Go Vc
open Go.Proofs
set_option maxRecDepth 100000
abbrev WW := List (List Int × Option Addr × Nat)
def iV (x : Int) : Value := .int .i64 x
theorem setN_nil' (s : Int) (R : List Ch) : setN [] s R = R := by
  rw [setN, setF]
  exact List.map_id' R
/-- The disk of a side. -/
abbrev dkP (x : SS) (node : Int) (bk : Nat) : AbP := dP (sOf x.R) (wOf node x.R x.fly) x.last bk
def sfO (V : DV) (W : WW) (n : Nat) (fly : List (Int × Int)) (node : Int) (b bd bk : Nat) : List (Bool × Ob) :=
  [(true, .cells [.nm 1, .p 4 0, iT node, iT 0, .mp 3] 79), (true, .ab (depP V (n : Int) bd)), (true, .ab (frzP W)), (true, .mp (gm iV fly)), (false, .pin 4 bk), (false, .pin 0 b)]
def sfP (V : DV) (W : WW) (n : Nat) (fly : List (Int × Int)) (node : Int) (b bd bk : Nat) : AbP := absP (sfO V W n fly node b bd bk) (.p 0 0)
theorem sf_pins (V : DV) (W : WW) (n : Nat) (fly : List (Int × Int)) (node : Int) (b bd bk : Nat) : Pins (sfP V W n fly node b bd bk) (ptr b) := pins_abs (k := 5) rfl
/-- A side whose changes are R. -/
def sfB (R : List Ch) (fly : List (Int × Int)) (node : Int) (b bd bk : Nat) : AbP := exP fun x : { x : DV × WW // DR x.1 x.2 R } => sfP x.1.1 x.1.2 R.length fly node b bd bk
theorem sfB_pins (R : List Ch) (fly : List (Int × Int)) (node : Int) (b bd bk : Nat) : Pins (sfB R fly node b bd bk) (ptr b) := fun v F w ⟨x, h⟩ => sf_pins x.1.1 x.1.2 _ fly node b bd bk v F w h
theorem sfB_st (R : List Ch) (fly : List (Int × Int)) (node : Int) (b bd bk : Nat) : stable (sfB R fly node b bd bk) := exP_stable fun _ => absP_stable _ _
theorem sfB_of {V : DV} {W : WW} {R : List Ch} (h : DR V W R) {fly : List (Int × Int)} {node : Int} {b bd bk : Nat} : ∀ v F w, sfP V W R.length fly node b bd bk v F w → sfB R fly node b bd bk v F w := fun _ _ _ h' => ⟨⟨(V, W), h⟩, h'⟩
theorem lkS (k : Int) (fly : List (Int × Int)) : lkV (gm iV fly) k (.int .i64 0) true = .tuple #[iV ((gget k fly).getD 0), .bool (gget k fly).isSome] := lk_gm k fly 0
def sfX (node : Int) (bk : Nat) : AbP := exP fun p : Nat × Nat => sfB [] [] node p.1 p.2 bk
theorem nilDk {H : HL} {nx d bk : Nat} {S : List ByteArray} {Y : List (Int × Wr)} {last : Int} {b1 : Bool} (hd : lookH H d = some (b1, .ab (dP S Y last bk))) {Lc : LL} {o : Oper} {x y : Operand} (hop : o.op = .binOp .eql 42 x y 42) (hx : ev Lc x = some (.c (.nm d))) (hy : ev Lc y = some (.c .np)) : Spec Tryz.prog Lc H nx o ⟨.t (.c (.b false)), [], [], []⟩ :=
  spec_nil tysOk hop hx hy rfl rfl hd (NotNil.pins (disk_pins _ _ _ _))
section
variable {H : HL} {nx d s q b bd bk : Nat} {b1 : Bool} {V : DV} {W : WW} {R : List Ch} {fly : List (Int × Int)} {last node : Int}
set_option maxRecDepth 100000 in
set_option maxHeartbeats 4000000 in
/-- A write that has ended. -/
theorem softDone0 (hs : lookH H s = some (true, .ab (sfP V W R.length fly node b bd bk))) (h : DR V W R) {n k : Int} (hg : gget n fly = some k) (hf : ofN R k 2 ≠ []) :
    FnH Tryz.prog 26 [.c (.nm s), .c (iT n), .c (.b true)] H nx ⟨.tup [.c (iT k), .c (iT 0)], [], [(s, some (.ab (sfB (setK k 0 R) (gdel n fly) node b bd bk)))], []⟩ := by
  refine fnAs (fn := Tryz.f26) 43 rfl rfl rfl (args' := [.c (.nm 0), .c (iT n), .c (.b true)]) [(s, sfP V W R.length fly node b bd bk, sfB (setK k 0 R) (gdel n fly) node b bd bk)] [] ⟨⟨hs, ptr b, sf_pins _ _ _ _ _ _ _ _, sfB_pins _ _ _ _ _ _⟩, trivial⟩ trivial (by simp) rfl rfl rfl rfl (v' := .tup [.c (iT k), .c (iT 0)]) (news' := []) rfl rfl rfl rfl rfl fun w Wh => ?_
  refine At.unfoldTo 0 (L1 := (0, .t (.c (.p 1 0))) :: [(1, .t (.c (iT n))), (2, .t (.c (.b true)))]) (H1 := [(1, some (true, .cells [.nm 2, .p 5 0, iT node, iT 0, .mp 4] 79)), (2, some (true, .ab (depP V (R.length : Nat) bd))), (3, some (true, .ab (frzP W))), (4, some (true, .mp (gm iV fly))), (5, some (false, .pin 5 bk)), (6, some (false, .pin 1 b)), (0, none), (0, some (true, .ab (sfP V W R.length fly node b bd bk)))]) (nx1 := 7) rfl rfl rfl rfl rfl rfl ?_
  have hlk := lkS n fly
  rw [hg] at hlk
  have hlk' : lkV (gm iV fly) n (.int .i64 0) true = (SV.tup [.c (iT k), .c (.b true)]).den e0 := hlk
  have hdn := fun (H : HL) (nx : Nat) (h2 : lookH H 2 = some (true, .ab (depP V R.length bd))) => doneP (nx := nx) h2 h k
  have e4 : dnE' R k = 0 := by rw [dnE', if_neg (fun e => hf (List.length_eq_zero_iff.1 e))]
  have hdr' := h.done k
  rw [e4] at hdn
  have hlen : (setK k 0 R).length = R.length := setK_len _ _ _
  have hdl := gm_del (vv := iV) n fly
  generalize dnV V k = V' at *
  refine rn [(15, .ret (.tup [.c (iT k), .c (.b true)])), (19, .dec false), (25, .dec true), (32, .spec ⟨.tup [.c (.nm 7), .c (iT 0)], [(true, .own 3 1 (ofN R k 2).length (ivs (ofN R k 2)))], [(2, some (.ab (depP V' R.length bd)))], []⟩)] rfl (by (repeat' (first | exact trivial | exact rfl | exact trivial | exact fun _ => trivial | first | exact hlk' | exact hdn _ _ rfl | rfl | decide | refine And.intro ?_ ?_))) ?_
  refine Done.fold [(0, 1), (1, 2), (2, 3), (3, 4), (4, 5), (5, 6)] (sfO V' W R.length (gdel n fly) node b bd bk) (.p 0 0) (by (repeat' (first | exact trivial | exact rfl | exact hdl | exact fun _ => hdl | refine And.intro ?_ ?_))) rfl rfl (fun _ => rfl) ?_
  refine Done.weak 8 (φ' := sfB (setK k 0 R) (gdel n fly) node b bd bk) rfl (sfB_st _ _ _ _ _ _) (fun v F w hh => sfB_of hdr' v F w (by rw [hlen]; exact hh)) ?_
  exact retM tysOk [(0, 8)] rfl (by repeat' (first | exact trivial | exact rfl | refine And.intro ?_ ?_)) (by repeat' (first | exact trivial | exact rfl | refine And.intro ?_ ?_)) rfl rfl
set_option maxRecDepth 100000 in
set_option maxHeartbeats 4000000 in
theorem softLost0 (hs : lookH H s = some (true, .ab (sfP V W R.length fly node b bd bk))) (h : DR V W R) {n k : Int} (hg : gget n fly = some k) (hf : ofN R k 2 ≠ []) :
    FnH Tryz.prog 26 [.c (.nm s), .c (iT n), .c (.b false)] H nx ⟨.tup [.c (iT k), .c (iT 0)], [], [(s, some (.ab (sfB (setK k 1 R) (gdel n fly) node b bd bk)))], []⟩ := by
  refine fnAs (fn := Tryz.f26) 43 rfl rfl rfl (args' := [.c (.nm 0), .c (iT n), .c (.b false)]) [(s, sfP V W R.length fly node b bd bk, sfB (setK k 1 R) (gdel n fly) node b bd bk)] [] ⟨⟨hs, ptr b, sf_pins _ _ _ _ _ _ _ _, sfB_pins _ _ _ _ _ _⟩, trivial⟩ trivial (by simp) rfl rfl rfl rfl (v' := .tup [.c (iT k), .c (iT 0)]) (news' := []) rfl rfl rfl rfl rfl fun w Wh => ?_
  refine At.unfoldTo 0 (L1 := (0, .t (.c (.p 1 0))) :: [(1, .t (.c (iT n))), (2, .t (.c (.b false)))]) (H1 := [(1, some (true, .cells [.nm 2, .p 5 0, iT node, iT 0, .mp 4] 79)), (2, some (true, .ab (depP V (R.length : Nat) bd))), (3, some (true, .ab (frzP W))), (4, some (true, .mp (gm iV fly))), (5, some (false, .pin 5 bk)), (6, some (false, .pin 1 b)), (0, none), (0, some (true, .ab (sfP V W R.length fly node b bd bk)))]) (nx1 := 7) rfl rfl rfl rfl rfl rfl ?_
  have hlk := lkS n fly
  rw [hg] at hlk
  have hlk' : lkV (gm iV fly) n (.int .i64 0) true = (SV.tup [.c (iT k), .c (.b true)]).den e0 := hlk
  have hdn := fun (H : HL) (nx : Nat) (h2 : lookH H 2 = some (true, .ab (depP V R.length bd))) => lostP (nx := nx) h2 h k
  have e4 : dnE' R k = 0 := by rw [dnE', if_neg (fun e => hf (List.length_eq_zero_iff.1 e))]
  have hdr' := h.lost k
  rw [e4] at hdn
  have hlen : (setK k 1 R).length = R.length := setK_len _ _ _
  have hdl := gm_del (vv := iV) n fly
  generalize setP V (ofI (chs V) k 2) 1 = V' at *
  refine rn [(15, .ret (.tup [.c (iT k), .c (.b true)])), (19, .dec false), (25, .dec false), (40, .spec ⟨.t (.c (iT 0)), [], [(2, some (.ab (depP V' R.length bd)))], []⟩)] rfl (by (repeat' (first | exact trivial | exact rfl | exact trivial | exact fun _ => trivial | first | exact hlk' | exact hdn _ _ rfl | rfl | decide | refine And.intro ?_ ?_))) ?_
  refine Done.fold [(0, 1), (1, 2), (2, 3), (3, 4), (4, 5), (5, 6)] (sfO V' W R.length (gdel n fly) node b bd bk) (.p 0 0) (by (repeat' (first | exact trivial | exact rfl | exact hdl | exact fun _ => hdl | refine And.intro ?_ ?_))) rfl rfl (fun _ => rfl) ?_
  refine Done.weak 7 (φ' := sfB (setK k 1 R) (gdel n fly) node b bd bk) rfl (sfB_st _ _ _ _ _ _) (fun v F w hh => sfB_of hdr' v F w (by rw [hlen]; exact hh)) ?_
  exact retM tysOk [(0, 7)] rfl (by repeat' (first | exact trivial | exact rfl | refine And.intro ?_ ?_)) (by repeat' (first | exact trivial | exact rfl | refine And.intro ?_ ?_)) rfl rfl
end
end Cw
namespace Cw
open Go Vc
open Go.Proofs
set_option maxRecDepth 100000
/-- What the disk has of a sector, and what is seen of it. -/
def dkT (R : List Ch) (k : Int) : ByteArray := if k = 1 then wallB 0 0 else S (dkB R k)
def snT (R : List Ch) (k : Int) : ByteArray := if k = 1 then wallB 0 0 else S (alB R k)
/-- A write that is dropped. -/
def ls1 (x : SS) (n k : Int) : SS := ⟨setK k 1 x.R, gdel n x.fly, x.last⟩
theorem SOk.l1 {x : SS} (h : SOk x) {n k : Int} (hn : (n, k) ∈ x.fly) : SOk (ls1 x n k) := (SfOk.lost (node := 0) h hn).1
section
variable {H : HL} {nx d s q b bd bk : Nat} {b1 : Bool} {V : DV} {W : List (List Int × Option Addr × Nat)} {R : List Ch} {fly : List (Int × Int)} {last node : Int}
theorem softDone (hs : lookH H s = some (true, .ab (sfB R fly node b bd bk))) {n k : Int} (hg : gget n fly = some k) (hf : ofN R k 2 ≠ []) :
    FnH Tryz.prog 26 [.c (.nm s), .c (iT n), .c (.b true)] H nx ⟨.tup [.c (iT k), .c (iT 0)], [], [(s, some (.ab (sfB (setK k 0 R) (gdel n fly) node b bd bk)))], []⟩ :=
  fnh_ex2 hs (fun _ => absP_stable _ _) fun x => softDone0 look_eq x.2 hg hf
theorem softLost (hs : lookH H s = some (true, .ab (sfB R fly node b bd bk))) {n k : Int} (hg : gget n fly = some k) (hf : ofN R k 2 ≠ []) :
    FnH Tryz.prog 26 [.c (.nm s), .c (iT n), .c (.b false)] H nx ⟨.tup [.c (iT k), .c (iT 0)], [], [(s, some (.ab (sfB (setK k 1 R) (gdel n fly) node b bd bk)))], []⟩ :=
  fnh_ex2 hs (fun _ => absP_stable _ _) fun x => softLost0 look_eq x.2 hg hf
end
/-- A new disk. -/
def dkX (node : Int) : AbP := exP fun bk => dkP ⟨[], [], 0⟩ node bk
def wk1 : SS := ⟨[] ++ [sfC [] 5 0 120 []], [], 0⟩
def wk2 : SS := wr1 wk1 5
def wk3 : SS := dn1 wk2 1 5
end Cw
namespace Cw
open Go Vc
open Go.Proofs
set_option maxRecDepth 100000
/-- Something happens. -/
def mvS (x : SS) (kind n : Int) : SS :=
  if kind % 3 = 0 ∨ x.fly = [] then wr1 x (2 + n % 6)
  else if kind % 3 = 1 then dn1 x (x.fly.getD (n % x.fly.length).toNat (0, 0)).1 (x.fly.getD (n % x.fly.length).toNat (0, 0)).2
  else ls1 x (x.fly.getD (n % x.fly.length).toNat (0, 0)).1 (x.fly.getD (n % x.fly.length).toNat (0, 0)).2
theorem BgOk.w1 {ls : List SC} {x : SS} (h : BgOk ls x.R) (k : Int) : BgOk ls (wr1 x k).R := by
  by_cases hc : wrCn x k
  · rw [wr1_yes hc]; exact h.set _ _
  · rw [wr1_no hc]; exact h
/-- A reader of the disk. -/
theorem nm_ptr2 {φ : AbP} {H : HL} {d b : Nat} {b1 : Bool} {O : List (Bool × Ob)} {k : Nat} (hd : lookH H d = some (b1, .ab φ)) (hp : Pins φ (ptr b)) (hO : O[k]? = some (false, .pin 0 b)) : ∀ e e1 w, MemOk H e w → MemOk (newsH 0 O) e1 w → (TV.c (.nm d)).den e = CV.den e1 (.p 0 0) := by
  intro e e1 w M M1
  have h1 := hp _ _ _ (M.ob d b1 _ hd).1.1
  have h2 : e1.blk 0 = b := (M1.ob k false (.pin 0 b) (by rw [lookH_newsH, if_pos (Nat.zero_le _), Nat.sub_zero]; exact hO)).1.2
  show e.val d = .pointer (some ⟨e1.blk 0, 0, none⟩)
  rw [h1, h2]
  rfl
section
variable {H : HL} {nx d s q b bd bk x y l : Nat} {b1 b2 b3 b4 : Bool} {V : DV} {W : List (List Int × Option Addr × Nat)} {R : List Ch} {fly : List (Int × Int)} {last node : Int}
end
end Cw
namespace Cw
open Go Vc
open Go.Proofs
set_option maxRecDepth 100000
theorem adB_none {last at' o : Int} {t : ByteArray} {n : Nat} (h1 : 0 ≤ at' ∧ at' < 2048) (h2 : fcheck o t.size = 0) (h4 : n < 1024) : adB last at' o t n [] = 0 := by
  rw [adB, if_neg, if_neg, if_neg (by omega)]
  · simp
  · rintro (h | h | h)
    · omega
    · omega
    · exact h h2
section
variable {H : HL} {nx d s q b bd bk : Nat} {b1 : Bool} {V : DV} {W : WW} {R : List Ch} {fly : List (Int × Int)} {last node : Int} {S : List ByteArray} {Y : List (Int × Wr)}
set_option maxRecDepth 100000 in
set_option maxHeartbeats 4000000 in
/-- A new side. -/
theorem softNewG (hd : lookH H d = some (true, .ab (dP S Y last bk))) (hn : node = 0 ∨ node = 1) :
    FnH Tryz.prog 44 [.c (.nm d), .c (iT node), .c (iT 0)] H nx ⟨.tup [.c (.nm nx), .c (iT 0)], [(true, .ab (sfX node bk))], [(d, some (.ab (dP S Y last bk)))], []⟩ := by
  refine fnAs (fn := Tryz.f44) 33 rfl rfl rfl (args' := [.c (.nm 0), .c (iT node), .c (iT 0)]) [(d, dP S Y last bk, dP S Y last bk)] [] ⟨⟨hd, ptr bk, disk_pins _ _ _ _, disk_pins _ _ _ _⟩, trivial⟩ trivial (by simp) rfl rfl rfl rfl (v' := .tup [.c (.nm 1), .c (iT 0)]) (news' := [(true, .ab (sfX node bk))]) rfl rfl rfl rfl rfl fun w Wh => ?_
  refine rn [(10, .spec ⟨.t (.c (.b false)), [], [], []⟩)] rfl (by (repeat' (first | exact trivial | exact rfl | exact nilDk rfl rfl rfl rfl | exact fun _ => nilDk rfl rfl rfl rfl | refine And.intro ?_ ?_))) ?_
  refine ⟨fun h => (by cases h), fun _ => ?_⟩
  refine rn [] rfl (by repeat' (first | exact trivial | exact rfl | refine And.intro ?_ ?_)) ?_
  refine ⟨fun h => ?_, fun _ => ?_⟩
  · exfalso
    have h' : (((decide (node < 0) || decide (2 ≤ node)) || decide ((0 : Int) < 0)) || decide ((4294967295 : Int) < 0)) = true := h
    simp only [Bool.or_eq_true, decide_eq_true_eq] at h'
    omega
  · refine At.num bk ?_
    refine At.alias 0 0 1 rfl (disk_pins _ _ _ _) rfl rfl ?_
    refine rn [(26, .spec ⟨.t (.c (.nm 2)), [(true, .ab (depX [] 0))], [], []⟩)] rfl (by (repeat' (first | exact trivial | exact rfl | exact depNew | exact fun _ => depNew | refine And.intro ?_ ?_))) ?_
    refine Done.ex (φ := depP [] 0) 2 rfl (fun b => absP_stable _ _) fun bd => ?_
    refine Done.newE (frzP []) (.pointer none) (frzP_stable _) rfl (fun w p hp => by cases hp) ?_
    refine Done.pin 4 rfl fun b => ?_
    refine Done.foldR 6 (.p 4 0) [(0, 4), (1, 2), (2, 5), (3, 3), (4, 1), (5, 6)] (sfO [] [] 0 [] node b bd bk) (.p 0 0) rfl (by repeat' (first | exact trivial | exact rfl | refine And.intro ?_ ?_)) (by repeat' (first | exact trivial | exact rfl | refine And.intro ?_ ?_)) rfl rfl (fun _ => rfl) ?_
    refine Done.weak 7 (φ' := sfX node bk) rfl (exP_stable fun _ => sfB_st _ _ _ _ _ _) (fun v F w h => ⟨(b, bd), sfB_of DR.nil v F w h⟩) ?_
    exact retM tysOk [(0, 0), (1, 7)] rfl (by repeat' (first | exact trivial | exact rfl | refine And.intro ?_ ?_)) (by repeat' (first | exact trivial | exact rfl | refine And.intro ?_ ?_)) rfl rfl
set_option maxRecDepth 100000 in
set_option maxHeartbeats 4000000 in
/-- A sector is read. -/
theorem softReadG (hs : lookH H s = some (true, .ab (sfP V W R.length fly node b bd bk))) (hd : lookH H d = some (true, .ab (dP S Y last bk))) (hsd : s ≠ d) (h : DR V W R) {k : Int} {t : ByteArray} (hk : rdE S.length k = 0) (ht : rdT S k = t) (hz : t.size ≤ 9223372036854775807) {t2 : ByteArray} {e2 : Int} (hv : pt t (vwP R k) = t2 ∧ pte t (vwP R k) = e2) :
    FnH Tryz.prog 122 [.c (.nm s), .c (iT k)] H nx ⟨.tup [.c (.s t2), .c (iT e2)], [], [(s, some (.ab (sfB R fly node b bd bk))), (d, some (.ab (dP S Y last bk)))], []⟩ := by
  refine fnAs (fn := Tryz.f122) 29 rfl rfl rfl (args' := [.c (.nm 0), .c (iT k)]) [(s, sfP V W R.length fly node b bd bk, sfB R fly node b bd bk), (d, dP S Y last bk, dP S Y last bk)] [] ⟨⟨hs, ptr b, sf_pins _ _ _ _ _ _ _ _, sfB_pins _ _ _ _ _ _⟩, ⟨hd, ptr bk, disk_pins _ _ _ _, disk_pins _ _ _ _⟩, trivial⟩ trivial (by simp [hsd]) rfl rfl rfl rfl (v' := .tup [.c (.s t2), .c (iT e2)]) (news' := []) rfl rfl rfl rfl rfl fun w Wh => ?_
  refine At.unfoldTo 0 (L1 := (0, .t (.c (.p 2 0))) :: [(1, .t (.c (iT k)))]) (H1 := [(2, some (true, .cells [.nm 3, .p 6 0, iT node, iT 0, .mp 5] 79)), (3, some (true, .ab (depP V (R.length : Nat) bd))), (4, some (true, .ab (frzP W))), (5, some (true, .mp (gm iV fly))), (6, some (false, .pin 6 bk)), (7, some (false, .pin 2 b)), (0, none), (0, some (true, .ab (sfP V W R.length fly node b bd bk))), (1, some (true, .ab (dP S Y last bk)))]) (nx1 := 8) rfl rfl rfl rfl rfl rfl ?_
  have hr := fun (H : HL) (nx : Nat) (h1 : lookH H 1 = some (true, .ab (dP S Y last bk))) (h6 : lookH H 6 = some (false, .pin 6 bk)) => fnh_al1 h1 (disk_pins _ _ _ _) h6 (readA (nx := nx) h1 k)
  simp only [ht, hk] at hr
  have hw := fun (H : HL) (nx : Nat) (h3 : lookH H 3 = some (true, .ab (depP V R.length bd))) => viewP (nx := nx) h3 h k t hz
  simp only [hv.1, hv.2] at hw
  refine rn [(14, .spec ⟨.tup [.c (.s t), .c (iT 0)], [], [(1, some (.ab (dP S Y last bk)))], []⟩), (18, .dec false), (26, .spec ⟨.tup [.c (.s t2), .c (iT e2)], [], [(3, some (.ab (depP V R.length bd)))], []⟩)] rfl (by (repeat' (first | exact trivial | exact rfl | exact trivial | exact fun _ => trivial | first | exact hr _ _ rfl rfl | exact hw _ _ rfl | rfl | decide | refine And.intro ?_ ?_))) ?_
  refine Done.fold [(0, 2), (1, 3), (2, 4), (3, 5), (4, 6), (5, 7)] (sfO V W R.length fly node b bd bk) (.p 0 0) (by (repeat' (first | exact trivial | exact rfl | exact trivial | exact fun _ => trivial | refine And.intro ?_ ?_))) rfl rfl (fun _ => rfl) ?_
  refine Done.weak 8 (φ' := sfB R fly node b bd bk) rfl (sfB_st _ _ _ _ _ _) (sfB_of h) ?_
  exact retM tysOk [(0, 8), (1, 1)] rfl (by repeat' (first | exact trivial | exact rfl | refine And.intro ?_ ?_)) (by repeat' (first | exact trivial | exact rfl | refine And.intro ?_ ?_)) rfl rfl
set_option maxRecDepth 100000 in
set_option maxHeartbeats 4000000 in
/-- A change with none told ahead. -/
theorem softAddG (hs : lookH H s = some (true, .ab (sfP V W R.length fly node b bd bk))) (hd : lookH H d = some (true, .ab (dP S Y last bk))) (hsd : s ≠ d) (h : DR V W R) (hR : R.length ≤ 500) {k o : Int} {t : ByteArray} (hk : rdE S.length k = 0) (hk2 : 0 ≤ k ∧ k < 2048) (ho : fcheck o t.size = 0) (hts : t.size ≤ 9223372036854775807) :
    FnH Tryz.prog 125 [.c (.nm s), .c (iT k), .agg [iT o, .s t], .c .nsl] H nx ⟨.tup [.c (iT ((R.length : Int) + 1)), .c (iT 0)], [], [(s, some (.ab (sfB (R ++ [newC (und R) R.length k (o, t) []]) fly node b bd bk))), (d, some (.ab (dP S Y last bk)))], []⟩ := by
  refine fnAs (fn := Tryz.f125) 34 rfl rfl rfl (args' := [.c (.nm 0), .c (iT k), .agg [iT o, .s t], .c .nsl]) [(s, sfP V W R.length fly node b bd bk, sfB (R ++ [newC (und R) R.length k (o, t) []]) fly node b bd bk), (d, dP S Y last bk, dP S Y last bk)] [] ⟨⟨hs, ptr b, sf_pins _ _ _ _ _ _ _ _, sfB_pins _ _ _ _ _ _⟩, ⟨hd, ptr bk, disk_pins _ _ _ _, disk_pins _ _ _ _⟩, trivial⟩ trivial (by simp [hsd]) rfl rfl rfl rfl (v' := .tup [.c (iT ((R.length : Int) + 1)), .c (iT 0)]) (news' := []) rfl rfl rfl rfl rfl fun w Wh => ?_
  refine At.unfoldTo 0 (L1 := (0, .t (.c (.p 2 0))) :: [(1, .t (.c (iT k))), (2, .t (.agg [iT o, .s t])), (3, .t (.c .nsl))]) (H1 := [(2, some (true, .cells [.nm 3, .p 6 0, iT node, iT 0, .mp 5] 79)), (3, some (true, .ab (depP V (R.length : Nat) bd))), (4, some (true, .ab (frzP W))), (5, some (true, .mp (gm iV fly))), (6, some (false, .pin 6 bk)), (7, some (false, .pin 2 b)), (0, none), (0, some (true, .ab (sfP V W R.length fly node b bd bk))), (1, some (true, .ab (dP S Y last bk)))]) (nx1 := 8) rfl rfl rfl rfl rfl rfl ?_
  have hr := fun (H : HL) (nx : Nat) (h1 : lookH H 1 = some (true, .ab (dP S Y last bk))) (h6 : lookH H 6 = some (false, .pin 6 bk)) => fnh_al1 h1 (disk_pins _ _ _ _) h6 (readA (nx := nx) h1 k)
  simp only [hk] at hr
  have hVl := h.le
  have hab : adB R.length k o t V.length [] = 0 := adB_none hk2 ho (by omega)
  have hadd := fun (H : HL) (nx : Nat) (h3 : lookH H 3 = some (true, .ab (depP V R.length bd))) => addP (nx := nx) h3 SlQ.nil (by simp only [List.length_nil]; omega) hts h hab
  refine rn [(18, .spec ⟨.tup [.c (.s (rdT S k)), .c (iT 0)], [], [(1, some (.ab (dP S Y last bk)))], []⟩), (22, .dec false), (31, .spec ⟨.tup [.c (iT ((R.length : Int) + 1)), .c (iT 0)], [], [(3, some (.ab (adP V R.length bd (newC (und R) R.length k (o, t) []))))], []⟩)] rfl (by (repeat' (first | exact trivial | exact rfl | exact trivial | exact fun _ => trivial | first | exact hr _ _ rfl rfl | exact hadd _ _ rfl | rfl | decide | refine And.intro ?_ ?_))) ?_
  refine Done.growP 3 4 rfl rfl (by decide) h hab (by simp only [List.length_nil]; omega) hts (by omega) rfl fun V' W' hdr' => ?_
  refine Done.fold [(0, 2), (1, 3), (2, 4), (3, 5), (4, 6), (5, 7)] (sfO V' W' (R ++ [newC (und R) R.length k (o, t) []]).length fly node b bd bk) (.p 0 0) (by repeat' (first | exact trivial | exact rfl | refine And.intro ?_ ?_)) rfl rfl (fun _ => rfl) ?_
  refine Done.weak 9 (φ' := sfB (R ++ [newC (und R) R.length k (o, t) []]) fly node b bd bk) rfl (sfB_st _ _ _ _ _ _) (sfB_of hdr') ?_
  exact retM tysOk [(0, 9), (1, 1)] rfl (by repeat' (first | exact trivial | exact rfl | refine And.intro ?_ ?_)) (by repeat' (first | exact trivial | exact rfl | refine And.intro ?_ ?_)) rfl rfl
end
end Cw
