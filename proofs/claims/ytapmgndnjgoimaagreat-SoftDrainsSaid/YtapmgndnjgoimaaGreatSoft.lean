/- Functions that change several things, and read others. -/
import Derived.Test.YtapmgndnjgoimaaGreatDepR
import Derived.Test.YtapmgndnjgoimaaGreatDepN
import Derived.Test.YtapmgndnjgoimaaGreatDisk
import Derived.Test.YtapmgndnjgoimaaGreatDepC
import Derived.Test.YtapmgndnjgoimaaGreatBook
import Derived.Test.YtapmgndnjgoimaaGreatDepM
namespace Vc
open Go Go.RowKit
/-- The names of what a function changes, then of what it reads. -/
def gOf (ds : List (Nat × AbP × AbP)) (rs : List (Nat × Ob)) (n : Nat) : Nat := (((ds.map (·.1)) ++ (rs.map (·.1)))[n]?).getD 0
def obsOf (ds : List (Nat × AbP × AbP)) (rs : List (Nat × Ob)) : List (Bool × Ob) := app (ds.map fun x => (true, Ob.ab x.2.1)) (rs.map fun x => (false, x.2))
def chgOk (H : HL) : List (Nat × AbP × AbP) → Prop
  | [] => True
  | (d, φ, φ') :: l => (lookH H d = some (true, .ab φ) ∧ ∃ v0, Pins φ v0 ∧ Pins φ' v0) ∧ chgOk H l
theorem chgOk_mem {H : HL} : ∀ {ds : List (Nat × AbP × AbP)}, chgOk H ds → ∀ x ∈ ds, lookH H x.1 = some (true, .ab x.2.1) ∧ ∃ v0, Pins x.2.1 v0 ∧ Pins x.2.2 v0
  | (d, φ, φ') :: l, h, x, hx => (List.mem_cons.1 hx).elim (fun e => e ▸ h.1) fun hx => chgOk_mem h.2 x hx
def redOk (H : HL) (ds : List (Nat × AbP × AbP)) : List (Nat × Ob) → Prop
  | [] => True
  | (q, o) :: l => ((∃ b, lookH H q = some (b, o)) ∧ (∀ g : Nat → Nat, o.re g = o) ∧ inL q (ds.map (·.1)) = false) ∧ redOk H ds l
theorem redOk_mem {H : HL} {ds : List (Nat × AbP × AbP)} : ∀ {rs : List (Nat × Ob)}, redOk H ds rs → ∀ x ∈ rs, (∃ b, lookH H x.1 = some (b, x.2)) ∧ (∀ g : Nat → Nat, x.2.re g = x.2) ∧ inL x.1 (ds.map (·.1)) = false
  | (q, o) :: l, h, x, hx => (List.mem_cons.1 hx).elim (fun e => e ▸ h.1) fun hx => redOk_mem h.2 x hx
/-- A function that changes things, and reads others. -/
theorem fnAs {P : Program} {f : FuncId} {fn : Func} {c : Code} (N : Nat) (hf : P.funcs[f]? = some fn) (hb : fn.body = some c) (hN : fn.ntmps = N) {args args' : List TV} {H : HL} {nx : Nat} {v v' : SV} {news news' : List (Bool × Ob)} {upd : List (Nat × Option Ob)} (ds : List (Nat × AbP × AbP)) (rs : List (Nat × Ob))
    (hds : chgOk H ds) (hrs : redOk H ds rs) (hnd : (ds.map (·.1)).Nodup) (ha : reT (gOf ds rs) args' = args)
    (hl : Nat.ble args'.length N = true) (hW : wfL (ds.length + rs.length) (argsL 0 (args'.map .t)) = true) (hW2 : wfH (ds.length + rs.length) (newsH 0 (obsOf ds rs)) = true)
    (hv : v'.re (fun n => nx + (n - ds.length)) = v) (hnw : reN (fun n => nx + (n - ds.length)) news' = news) (hu : ds.map (fun x => (x.1, some (Ob.ab x.2.2))) = upd)
    (hvr : inR ds.length (ds.length + news'.length) v'.ns = true) (hnr : newsR ds.length (ds.length + news'.length) news' = true)
    (hg : ∀ w W, At P ⟨w, W, N⟩ (bodyPost P fn (MPost w W v' (app (ds.map fun x => (true, Ob.ab x.2.2)) news'))) c [] (argsL 0 (args'.map .t)) (newsH 0 (obsOf ds rs)) (ds.length + rs.length)) : FnH P f args H nx ⟨v, news, upd, []⟩ := by
  subst ha hu
  have hul : (ds.map fun x => (x.1, x.2.2)).length = ds.length := List.length_map _
  have hml : (ds.map fun x => (x.1, x.2.2)).map (fun u => (true, Ob.ab u.2)) = ds.map fun x => (true, Ob.ab x.2.2) := by rw [List.map_map]; rfl
  have hlook : ∀ n z, lookH (newsH 0 (obsOf ds rs)) n = some z → (∃ x ∈ ds, gOf ds rs n = x.1 ∧ z = (true, .ab x.2.1) ∧ n < ds.length ∧ (ds.map (·.1))[n]? = some x.1) ∨ (∃ x ∈ rs, gOf ds rs n = x.1 ∧ z = (false, x.2)) := by
    intro n z h
    rw [lookH_newsH, if_pos (Nat.zero_le _), Nat.sub_zero, obsOf, app_eq] at h
    by_cases hn : n < ds.length
    · rw [List.getElem?_append_left (by simpa using hn), List.getElem?_map, List.getElem?_eq_getElem hn] at h
      cases h
      refine .inl ⟨ds[n], List.getElem_mem hn, ?_, rfl, hn, ?_⟩
      · rw [gOf, List.getElem?_append_left (by simpa using hn), List.getElem?_map, List.getElem?_eq_getElem hn]; rfl
      · rw [List.getElem?_map, List.getElem?_eq_getElem hn]; rfl
    · rw [List.getElem?_append_right (by simpa using hn), List.length_map, List.getElem?_map] at h
      cases hr : rs[n - ds.length]? with
      | none => rw [hr] at h; cases h
      | some x =>
        rw [hr] at h
        cases h
        refine .inr ⟨x, List.mem_of_getElem? hr, ?_, rfl⟩
        rw [gOf, List.getElem?_append_right (by simpa using hn), List.length_map, List.getElem?_map, hr]; rfl
  refine fnM N hf hb hN (args' := args') (H' := newsH 0 (obsOf ds rs)) (nx' := ds.length + rs.length) (v' := v') (news' := news') (ds.map fun x => (x.1, x.2.2)) (fun e w M => ?_) hl hW hW2 (fun e w M u hu v1 F w' h => ?_) (fun u hu => ?_) ?_ ?_ ?_ ?_ ?_ ?_ ?_
  · refine ⟨e.comp (gOf ds rs), ⟨fun n b o hn => ?_, fun n o m c q hn hm hne g hg hg' => ?_⟩, ?_⟩
    · rcases hlook n _ hn with ⟨x, hx, hgx, hz, _⟩ | ⟨x, hx, hgx, hz⟩
      · cases hz
        obtain ⟨h1, _⟩ := chgOk_mem hds x hx
        obtain ⟨h2, h3⟩ := M.ob _ _ _ h1
        refine ⟨Ob.re_back (r := gOf ds rs) (n := n) (by rw [hgx]; exact h2), fun g hg => ?_⟩
        have hg2 : e.fp (gOf ds rs n) g := hg
        rw [hgx] at hg2
        exact ⟨h3 g hg2, fun _ => ⟨(x.1, x.2.2), List.mem_map.2 ⟨x, hx, rfl⟩, hg2⟩⟩
      · cases hz
        obtain ⟨⟨b, h1⟩, h2, _⟩ := redOk_mem hrs x hx
        obtain ⟨h3, h4⟩ := M.ob _ _ _ h1
        refine ⟨Ob.re_back (r := gOf ds rs) (n := n) (by rw [hgx, h2]; exact h3), fun g hg => ⟨h4 g ?_, fun h => by cases h⟩⟩
        have hg2 : e.fp (gOf ds rs n) g := hg
        rwa [hgx] at hg2
    · have hg1 : e.fp (gOf ds rs n) g := hg
      have hg2 : e.fp (gOf ds rs m) g := hg'
      rcases hlook n _ hn with ⟨x, hx, hgx, hz, hnl, hnx⟩ | ⟨x, hx, hgx, hz⟩
      · cases hz
        obtain ⟨h1, _⟩ := chgOk_mem hds x hx
        rw [hgx] at hg1
        rcases hlook m _ hm with ⟨y, hy, hgy, hz', hml', hmy⟩ | ⟨y, hy, hgy, hz'⟩
        · cases hz'
          obtain ⟨h2, _⟩ := chgOk_mem hds y hy
          rw [hgy] at hg2
          refine M.dj _ _ _ _ _ h1 h2 (fun hxy => hne ?_) g hg1 hg2
          rw [← hxy] at hmy
          obtain ⟨h3, h4⟩ := List.getElem?_eq_some_iff.1 hnx
          obtain ⟨h5, h6⟩ := List.getElem?_eq_some_iff.1 hmy
          exact (List.getElem_inj hnd).1 (h4.trans h6.symm)
        · cases hz'
          obtain ⟨⟨b, h2⟩, _, h3⟩ := redOk_mem hrs y hy
          rw [hgy] at hg2
          refine M.dj _ _ _ _ _ h1 h2 (fun hxy => ?_) g hg1 hg2
          rw [← hxy] at h3
          exact inL_iff h3 (List.mem_map.2 ⟨x, hx, rfl⟩)
      · cases hz
    · rw [reT_eq, List.map_map]
      exact List.map_congr_left fun a _ => TV.comp_den e (gOf ds rs) a
  · obtain ⟨x, hx, rfl⟩ := List.mem_map.1 hu
    obtain ⟨h1, v0, p0, p1⟩ := chgOk_mem hds x hx
    rw [p1 _ _ _ h]
    exact (p0 _ _ _ (M.ob _ _ _ h1).1.1).symm
  · obtain ⟨x, hx, rfl⟩ := List.mem_map.1 hu
    exact ⟨_, (chgOk_mem hds x hx).1⟩
  · rw [List.map_map]; exact hnd
  · rw [hul]; exact hv
  · rw [hul]; exact hnw
  · rw [List.map_map]; rfl
  · rw [hul]; exact hvr
  · rw [hul]; exact hnr
  · intro w W
    have := hg w W
    rw [app_eq] at this
    rwa [hml]
end Vc
namespace Cw
open Go Vc
open Go.Proofs
set_option maxRecDepth 100000
/-- A new change's slice joins the others. -/
theorem Sat.grow {F : Frm} {L : LL} {H : HL} {nx : Nat} {V : DV} {W : List (List Int × Option Addr × Nat)} {last : Int} {b : Nat} {c : Ch} (d q : Nat) (hd : lookH H d = some (true, .ab (adP V last b c))) (hq : lookH H q = some (true, .ab (frzP W))) (hdq : d ≠ q) {e : Env} {a : Act} {w : World} (hW : WF L H nx) (S : Sat F (fun t => look t L) (lookH H) e a w) :
    ∃ v e', WF L ((q, some (true, .ab (frzP (W ++ [(c.ah, v)])))) :: (d, some (true, .ab (depP (V ++ [(c, v)]) (last + 1) b))) :: H) nx ∧ Sat F (fun t => look t L) (lookH ((q, some (true, .ab (frzP (W ++ [(c.ah, v)])))) :: (d, some (true, .ab (depP (V ++ [(c, v)]) (last + 1) b))) :: H)) e' a w := by
  obtain ⟨⟨hp, _⟩, hbd⟩ := S.ob d true _ hd
  obtain ⟨⟨hfq, _⟩, hbq⟩ := S.ob q true _ hq
  obtain ⟨v, e1, h1, h2, h3, h4, h5⟩ := hp
  have hl : (adO V last b c v).length = 4 := rfl
  rw [hl] at h3 h4
  let f : Nat → Nat → Prop := fun n g => if n = d then ∃ k, k < 3 ∧ e1.fp k g else if n = q then e.fp q g ∨ e1.fp 3 g else e.fp n g
  have fd : ∀ g, f d g ↔ ∃ k, k < 3 ∧ e1.fp k g := fun g => by show (if _ then _ else _) ↔ _; rw [if_pos rfl]
  have fq : ∀ g, f q g ↔ e.fp q g ∨ e1.fp 3 g := fun g => by show (if _ then _ else _) ↔ _; rw [if_neg (fun h => hdq h.symm), if_pos rfl]
  have fo : ∀ n, n ≠ d → n ≠ q → ∀ g, f n g ↔ e.fp n g := fun n h h' g => by show (if _ then _ else _) ↔ _; rw [if_neg h, if_neg h']
  have d3 : ∀ g, e1.fp 3 g → e.fp d g := fun g hg => (h4 g).2 ⟨3, by decide, hg⟩
  have dk : ∀ g, (∃ k, k < 3 ∧ e1.fp k g) → e.fp d g := fun g ⟨k, hk, hg⟩ => (h4 g).2 ⟨k, by omega, hg⟩
  have hdv : depP (V ++ [(c, v)]) (last + 1) b (e.val d) (f d) w := by
    refine ⟨e1, h1, fun k b' o hk => ?_, fun j k hj hk => ?_, fd, fun g hg => h5 g (dk g ((fd g).1 hg))⟩
    · match k, hk with
      | 0, hk => exact h2 0 b' o hk
      | 1, hk =>
        cases hk
        have := h2 1 _ _ rfl
        rwa [show (V ++ [(c, v)]).length = V.length + 1 by simp]
      | 2, hk => exact h2 2 b' o hk
      | k + 3, hk => simp [depO] at hk
    · have : (depO (V ++ [(c, v)]) (last + 1) b).length = 3 := rfl
      exact h3 j k (by omega) (by omega)
  have hqv : frzP (W ++ [(c.ah, v)]) (e.val q) (f q) w := frzP_app hfq (h2 3 _ _ rfl).1.1 (fun g hg => (fq g).2 (.inl hg)) fun g hg => (fq g).2 (.inr hg)
  refine ⟨v, Env.fps e f, ⟨hW.l, fun n z hz => ?_⟩, ⟨S.fr, S.sz, S.df, S.sl, fun n b' o hn => ?_, fun n o m b' o' hn hm hne g hg hg' => ?_⟩⟩
  · rw [lookH_cons] at hz
    split at hz
    · rename_i h0
      cases hz; subst h0
      exact ⟨(hW.h n _ hq).1, fun m hm => by simp [Ob.ns] at hm⟩
    · rw [lookH_cons] at hz
      split at hz
      · rename_i h0
        cases hz; subst h0
        exact ⟨(hW.h n _ hd).1, fun m hm => by simp [Ob.ns] at hm⟩
      · exact hW.h n z hz
  · rw [lookH_cons] at hn
    split at hn
    · rename_i h0
      cases hn; subst h0
      exact ⟨⟨hqv, frzP_stable _⟩, fun g hg => ((fq g).1 hg).elim (hbq g) fun hg => hbd g (d3 g hg)⟩
    · rename_i hnq
      rw [lookH_cons] at hn
      split at hn
      · rename_i h0
        cases hn; subst h0
        exact ⟨⟨hdv, absP_stable _ _⟩, fun g hg => hbd g (dk g ((fd g).1 hg))⟩
      · rename_i hnd
        obtain ⟨k1, k2⟩ := S.ob n b' o hn
        have hs : ∀ g, f n g ↔ e.fp n g := fo n hnd hnq
        have hfe : (Env.fps e f).fp n = e.fp n := funext fun g => propext (hs g)
        refine ⟨Ob.same (e := e) (e' := Env.fps e f) ⟨rfl, rfl, hfe⟩ k1 fun m _ => ⟨rfl, rfl⟩, fun g hg => k2 g ((hs g).1 hg)⟩
  · -- where a name's blocks were
    have was : ∀ {n : Nat} {g : Nat}, f n g → e.fp n g ∨ n = q ∧ e.fp d g := fun {n g} hf => by
      by_cases h1 : n = d
      · subst h1; exact .inl (dk g ((fd g).1 hf))
      · by_cases h2 : n = q
        · subst h2
          exact ((fq g).1 hf).elim .inl fun h => .inr ⟨rfl, d3 g h⟩
        · exact .inl ((fo n h1 h2 g).1 hf)
    have old : ∀ {n : Nat} {z : Bool × Ob}, lookH ((q, some (true, .ab (frzP (W ++ [(c.ah, v)])))) :: (d, some (true, .ab (depP (V ++ [(c, v)]) (last + 1) b))) :: H) n = some z → ∃ o, lookH H n = some (z.1, o) := by
      intro n z hz
      rw [lookH_cons] at hz
      split at hz
      · rename_i h0; cases hz; subst h0; exact ⟨_, hq⟩
      · rw [lookH_cons] at hz
        split at hz
        · rename_i h0; cases hz; subst h0; exact ⟨_, hd⟩
        · exact ⟨z.2, hz⟩
    obtain ⟨on, hn'⟩ := old hn
    obtain ⟨om, hm'⟩ := old hm
    have hg1 : f n g := hg
    have hg2 : f m g := hg'
    by_cases c1 : n = q
    · subst c1
      rcases (fq g).1 hg1 with hx | hx
      · rcases was hg2 with hy | ⟨rfl, _⟩
        · exact S.dj n _ m _ _ hn' hm' hne g hx hy
        · exact hne rfl
      · by_cases c2 : m = d
        · subst c2
          obtain ⟨k, hk, hy⟩ := (fd g).1 hg2
          exact h3 k 3 (by omega) (by omega) (by omega) g hy hx
        · rcases was hg2 with hy | ⟨rfl, _⟩
          · exact S.dj d _ m _ _ hd hm' (fun h => c2 h.symm) g (d3 g hx) hy
          · exact hne rfl
    · rcases was hg1 with hx | ⟨h0, _⟩
      · by_cases c2 : m = q
        · subst c2
          rcases (fq g).1 hg2 with hy | hy
          · exact S.dj n _ m _ _ hn' hm' hne g hx hy
          · by_cases c3 : n = d
            · subst c3
              obtain ⟨k, hk, hx'⟩ := (fd g).1 hg1
              exact h3 k 3 (by omega) (by omega) (by omega) g hx' hy
            · exact S.dj n _ d _ _ hn' hd c3 g hx (d3 g hy)
        · rcases was hg2 with hy | ⟨h0, _⟩
          · exact S.dj n _ m _ _ hn' hm' hne g hx hy
          · exact c2 h0
      · exact c1 h0
theorem Done.growP {F : Frm} {Q : Act → World → Prop} {L : LL} {H : HL} {nx b : Nat} {V : DV} {W : List (List Int × Option Addr × Nat)} {R R' : List Ch} {at' o : Int} {t : ByteArray} {xs : List Int} (d q : Nat) (hd : lookH H d = some (true, .ab (adP V R.length b (newC (und R) R.length at' (o, t) xs)))) (hq : lookH H q = some (true, .ab (frzP W))) (hdq : d ≠ q) (hR : DR V W R)
    (he : adB R.length at' o t V.length xs = 0) (zx : xs.length + V.length ≤ 17592186044416) (zt : t.size ≤ 9223372036854775807) (zr : R.length < 100000) (hR' : R ++ [newC (und R) R.length at' (o, t) xs] = R')
    (h : ∀ V' W', DR V' W' R' → Done F Q L ((q, some (true, .ab (frzP W'))) :: (d, some (true, .ab (depP V' R'.length b))) :: H) nx) : Done F Q L H nx := by
  refine ⟨fun hW e a w S => ?_⟩
  obtain ⟨v, e', hW', S'⟩ := Sat.grow d q hd hq hdq hW S
  have h1 := hR.add he zx zt zr v
  rw [hR.eq] at h1
  subst hR'
  have := h _ _ h1
  rw [show (((R ++ [newC (und R) R.length at' (o, t) xs]).length : Nat) : Int) = (R.length : Int) + 1 by simp] at this
  exact this.h hW' e' a w S'
theorem Done.ex {κ : Type} {F : Frm} {Q : Act → World → Prop} {L : LL} {H : HL} {nx : Nat} {φ : κ → AbP} {b : Bool} (d : Nat) (hd : lookH H d = some (b, .ab (exP φ))) (hs : ∀ k, stable (φ k)) (h : ∀ k, Done F Q L ((d, some (b, .ab (φ k))) :: H) nx) : Done F Q L H nx :=
  ⟨fun hW e a w S => by
    obtain ⟨k, hk⟩ := (S.ob d b _ hd).1.1
    exact (h k).h (wf_ab hW hd) e a w (S.weakAb hd (hs k) fun _ => hk)⟩
end Cw
namespace Cw
open Go Vc
open Go.Proofs
set_option maxRecDepth 100000
theorem S_inj {a b : List UInt8} (h : S a = S b) : a = b := by
  have := congrArg (fun x : ByteArray => x.data.toList) h
  exact this
theorem dk_other {p : Ch → Bool} {s k k' : Int} {R : List Ch} (hp : ∀ c ∈ R, p c = true → c.at' = k) (hk : k' ≠ k) : dkB (setF p s R) k' = dkB R k' ∧ flB (setF p s R) k' = flB R k' ∧ ofN (setF p s R) k' 2 = ofN R k' 2 := by
  have e1 := dkB_other (s := s) hp hk 0
  have e2 := dkB_other (s := s) hp hk 2
  exact ⟨by rw [dkB, e1]; rfl, by rw [flB, dkB, e1, e2]; rfl, by rw [ofN_filter, e2]; rfl⟩
theorem fly_out (R : List Ch) (k : Int) {s : Int} (hs : s ≠ 2) : (setK k s R).filter (fun c => c.at' == k && c.st == 2) = [] := by
  rw [List.filter_eq_nil_iff]
  intro x hx
  obtain ⟨c, hc, rfl⟩ := setF_mem hx
  by_cases hf : flyB k c = true
  · rw [if_pos hf]; simp [hs]
  · rw [if_neg hf]; exact hf
theorem dk_lost (R : List Ch) (k : Int) : dkB (setK k 1 R) k = dkB R k ∧ ofN (setK k 1 R) k 2 = [] := by
  have e1 : (setK k 1 R).filter (fun c => c.at' == k && c.st == 0) = R.filter (fun c => c.at' == k && c.st == 0) := setF_filter (fun c hc hf => by rw [(flyB_st hf).2]; simp) fun c hc hf => by simp
  exact ⟨by rw [dkB, e1]; rfl, by rw [ofN_filter]; exact congrArg (List.map Ch.no) (fly_out R k (by decide))⟩
theorem dk_done {R : List Ch} (hd : DepOk R) (ho : overOk R) (k : Int) : dkB (setK k 0 R) k = flB R k ∧ ofN (setK k 0 R) k 2 = [] :=
  ⟨(done_more hd ho k zB).symm, by rw [ofN_filter]; exact congrArg (List.map Ch.no) (fly_out R k (by decide))⟩
theorem dk_send {R : List Ch} (hd : DepOk R) {k : Int} (hf : ofN R k 2 = []) (hr : rdyN R k ≠ []) : dkB (setN (rdyN R k) 2 R) k = dkB R k ∧ flB (setN (rdyN R k) 2 R) k = imgB (rdyL R k) (dkB R k) ∧ ofN (setN (rdyN R k) 2 R) k 2 ≠ [] := by
  have hnd := hd.num.nodup
  have hp : ∀ c ∈ R, (rdyN R k).contains c.no = true → c.at' = k ∧ c.st = 1 := fun c hc hcn => by
    obtain ⟨x, hx, h1, h2, h3, _⟩ := rdyN_ok (List.contains_iff_mem.1 hcn)
    rw [uniq hnd hx hc h1] at h2 h3
    exact ⟨h2, h3⟩
  have e1 : (setN (rdyN R k) 2 R).filter (fun c => c.at' == k && c.st == 0) = R.filter (fun c => c.at' == k && c.st == 0) := setF_filter (fun c hc hf => by rw [(hp c hc hf).2]; simp) fun c hc hf => by simp
  have h0 : ∀ c ∈ R, c.at' = k → c.st ≠ 2 := fun c hc h1 h2 => by
    have : c.no ∈ ofN R k 2 := List.mem_map.2 ⟨c, List.mem_filter.2 ⟨hc, by simp [h1, h2]⟩, rfl⟩
    rw [hf] at this; cases this
  have e4 : dkB (setN (rdyN R k) 2 R) k = dkB R k := by rw [dkB, e1]; rfl
  refine ⟨e4, by rw [flB, e4, ← sent_fly hnd k h0 (dkB R k)], ?_⟩
  obtain ⟨n, hn⟩ := List.exists_mem_of_ne_nil _ hr
  obtain ⟨c, hc, h1, h2, h3, _⟩ := rdyN_ok hn
  intro hnil
  have hx : ({ c with st := 2 } : Ch) ∈ setN (rdyN R k) 2 R := List.mem_map.2 ⟨c, hc, by rw [if_pos (List.contains_iff_mem.2 (h1 ▸ hn))]⟩
  have : c.no ∈ ofN (setN (rdyN R k) 2 R) k 2 := List.mem_map.2 ⟨_, List.mem_filter.2 ⟨hx, by simp [h2]⟩, rfl⟩
  rw [hnil] at this; cases this
theorem rdy_only {R : List Ch} (hd : DepOk R) (k : Int) : ∀ c ∈ R, (rdyN R k).contains c.no = true → c.at' = k := fun c hc hcn => by
  obtain ⟨x, hx, h1, h2, _⟩ := rdyN_ok (List.contains_iff_mem.1 hcn)
  rw [uniq hd.num.nodup hx hc h1] at h2
  exact h2
theorem fly_only (k : Int) (R : List Ch) : ∀ c ∈ R, flyB k c = true → c.at' = k := fun c _ hf => (flyB_st hf).1
theorem dk_add {R : List Ch} {c : Ch} (hc : c.st = 1) (k : Int) : dkB (R ++ [c]) k = dkB R k ∧ flB (R ++ [c]) k = flB R k ∧ ofN (R ++ [c]) k 2 = ofN R k 2 := by
  have he : ∀ t : Int, t ≠ 1 → (R ++ [c]).filter (fun c => c.at' == k && c.st == t) = R.filter (fun c => c.at' == k && c.st == t) := fun t ht => by
    rw [List.filter_append, filt0 (fun c : Ch => c.at' == k && c.st == t) (by simp [hc]; intro _; omega), List.append_nil]
  exact ⟨by rw [dkB, he 0 (by decide)]; rfl, by rw [flB, dkB, he 0 (by decide), he 2 (by decide)]; rfl, by rw [ofN_filter, he 2 (by decide)]; rfl⟩
/-- The disk's sectors. -/
def sOf (R : List Ch) : List ByteArray := (List.range 8).map fun k => if k = 1 then wallB 0 0 else S (dkB R (k : Nat))
/-- The writes that wait. -/
def wOf (node : Int) (R : List Ch) (fly : List (Int × Int)) : List (Int × Wr) := fly.map fun p => (p.1, ⟨node, 0, p.2, S (flB R p.2)⟩)
theorem sOf_len (R : List Ch) : (sOf R).length = 8 := by simp [sOf]
theorem sOf_at (R : List Ch) {k : Nat} (h : k < (sOf R).length) : (sOf R)[k] = if k = 1 then wallB 0 0 else S (dkB R (k : Nat)) := by simp [sOf]
theorem sOf_ext {R R' : List Ch} (h : ∀ k : Nat, k ≠ 1 → dkB R' k = dkB R k) : sOf R' = sOf R := by
  refine List.map_congr_left fun k _ => ?_
  split
  · rfl
  · rename_i h1; rw [h k h1]
theorem sOf_set {R R' : List Ch} {j : Nat} (hj : 2 ≤ j) (h : ∀ k : Nat, k ≠ 1 → k ≠ j → dkB R' k = dkB R k) : sOf R' = (sOf R).set j (S (dkB R' j)) := by
  apply List.ext_getElem (by simp [sOf])
  intro i h1 h2
  rw [List.getElem_set, sOf_at]
  split
  · rename_i h3
    rw [if_neg (by omega), sOf_at, if_pos h3]
  · rename_i h3
    split
    · rename_i h4; rw [h4]
    · rename_i h4; rw [sOf_at, if_neg h3, h i h3 (fun e => h4 e.symm)]
theorem wOf_ext {node : Int} {R R' : List Ch} {fly : List (Int × Int)} (h : ∀ p ∈ fly, flB R' p.2 = flB R p.2) : wOf node R' fly = wOf node R fly := List.map_congr_left fun p hp => by rw [h p hp]
theorem B0_S : B0 = S zB := B0_eq
theorem sz_S {l : List UInt8} (h : l.length = 64) : (S l).size = 64 := by
  show l.toArray.size = 64
  simpa using h
theorem s1_of (R : List Ch) : s1 (sOf R) = wallB 0 0 := rfl
theorem rd_of (R : List Ch) {k : Int} (h : 2 ≤ k ∧ k < 8) : rdT (sOf R) k = S (dkB R k) := by
  have h0 : inS (sOf R).length k = true := inS_iff.2 (by rw [sOf_len]; omega)
  have hl : k.toNat < (sOf R).length := by rw [sOf_len]; omega
  rw [rdT, if_pos h0, List.getD_eq_getElem?_getD, List.getElem?_eq_getElem hl, Option.getD_some, sOf_at, if_neg (by omega), Int.toNat_of_nonneg (by omega)]
theorem rdE_of (R : List Ch) {k : Int} (h : 0 ≤ k ∧ k < 8) : rdE (sOf R).length k = 0 := if_pos (inS_iff.2 (by rw [sOf_len]; omega))
theorem sOf_nil : S0 8 = sOf [] := by
  show (List.replicate 8 B0).set 1 (wallB 0 0) = _
  apply List.ext_getElem (by simp [sOf])
  intro i h1 h2
  rw [sOf_at, List.getElem_set]
  by_cases h : i = 1
  · rw [if_pos h, if_pos h.symm]
  · rw [if_neg h, if_neg (fun e => h e.symm), List.getElem_replicate]
    rfl
def gdl (n : Int) (fly : List (Int × Int)) : List (Int × Int) := gdel n fly
theorem gdel_sub {n : Int} : ∀ {l : List (Int × Int)} {p}, p ∈ gdel n l → p ∈ l
  | [], p, h => h
  | (q, x) :: l, p, h => by
    unfold gdel at h
    split at h
    · exact List.mem_cons.2 (.inr h)
    · rcases List.mem_cons.1 h with h | h
      · rw [h]; simp
      · exact List.mem_cons.2 (.inr (gdel_sub h))
theorem gdel_sl {n : Int} : ∀ (l : List (Int × Int)), (gdel n l).Sublist l
  | [] => List.Sublist.slnil
  | (q, x) :: l => by
    unfold gdel
    split
    · exact List.sublist_cons_self _ _
    · exact (gdel_sl l).cons_cons _
theorem wdel_of {node n : Int} {R : List Ch} : ∀ (fly : List (Int × Int)), wdel n (wOf node R fly) = wOf node R (gdel n fly)
  | [] => rfl
  | (q, x) :: l => by
    show wdel n ((q, _) :: wOf node R l) = _
    unfold wdel gdel
    split
    · rfl
    · rw [wdel_of l]; rfl
theorem wget_of {node n k : Int} {R : List Ch} : ∀ {fly : List (Int × Int)}, gget n fly = some k → wget n (wOf node R fly) = some ⟨node, 0, k, S (flB R k)⟩
  | [], h => by cases h
  | (q, x) :: l, h => by
    unfold gget at h
    show wget n ((q, _) :: wOf node R l) = _
    unfold wget
    split at h
    · rename_i h1; cases h; rw [if_pos h1]
    · rename_i h1; rw [if_neg h1]; exact wget_of h
theorem gget_in {n k : Int} : ∀ {fly : List (Int × Int)}, gget n fly = some k → (n, k) ∈ fly
  | [], h => by cases h
  | (q, x) :: l, h => by
    unfold gget at h
    split at h
    · rename_i h1; cases h; subst h1; simp
    · exact List.mem_cons.2 (.inr (gget_in h))
theorem gget_of {n k : Int} : ∀ {fly : List (Int × Int)}, (fly.map Prod.fst).Pairwise (· < ·) → (n, k) ∈ fly → gget n fly = some k
  | [], _, h => by cases h
  | (q, x) :: l, hp, h => by
    rw [List.map_cons, List.pairwise_cons] at hp
    unfold gget
    rcases List.mem_cons.1 h with h | h
    · cases h; rw [if_pos rfl]
    · have := hp.1 n (List.mem_map.2 ⟨_, h, rfl⟩)
      rw [if_neg (by omega)]
      exact gget_of hp.2 h
theorem mem_gdel {n k : Int} : ∀ {fly : List (Int × Int)}, (fly.map Prod.fst).Pairwise (· < ·) → (n, k) ∈ fly → ∀ p, p ∈ gdel n fly ↔ p ∈ fly ∧ p ≠ (n, k)
  | [], _, h, p => by cases h
  | (q, x) :: l, hp, h, p => by
    have hp0 := hp
    rw [List.map_cons, List.pairwise_cons] at hp
    unfold gdel
    rcases List.mem_cons.1 h with h | h
    · cases h
      rw [if_pos rfl, List.mem_cons]
      constructor
      · intro h1
        refine ⟨.inr h1, fun e => ?_⟩
        subst e
        have := hp.1 n (List.mem_map.2 ⟨_, h1, rfl⟩)
        omega
      · rintro ⟨h1 | h1, h2⟩
        · exact absurd h1 h2
        · exact h1
    · have := hp.1 n (List.mem_map.2 ⟨_, h, rfl⟩)
      rw [if_neg (by omega), List.mem_cons, mem_gdel hp.2 h p, List.mem_cons]
      constructor
      · rintro (h1 | ⟨h1, h2⟩)
        · refine ⟨.inl h1, fun e => ?_⟩
          rw [h1] at e
          cases e
          omega
        · exact ⟨.inr h1, h2⟩
      · rintro ⟨h1 | h1, h2⟩
        · exact .inl h1
        · exact .inr ⟨h1, h2⟩
/-- What stays of a side. -/
structure SfOk (R : List Ch) (fly : List (Int × Int)) (last : Int) : Prop where
  dep : DepOk R
  ov : overOk R
  ok : okB R
  two : ∀ c ∈ R, 2 ≤ c.at'
  key : (fly.map Prod.fst).Pairwise (· < ·)
  le : ∀ p ∈ fly, 1 ≤ p.1 ∧ p.1 ≤ last
  l0 : 0 ≤ last
  nd : (fly.map Prod.snd).Nodup
  fl : ∀ k, k ∈ fly.map Prod.snd ↔ ofN R k 2 ≠ []
section
variable {R : List Ch} {fly : List (Int × Int)} {last node : Int}
theorem ofN_sec (h : ∀ c ∈ R, 2 ≤ c.at') (ho : okB R) {k : Int} (hk : ofN R k 2 ≠ []) : 2 ≤ k ∧ k < 8 := by
  obtain ⟨n, hn⟩ := List.exists_mem_of_ne_nil _ hk
  obtain ⟨c, hc, _⟩ := List.mem_map.1 hn
  obtain ⟨h1, h2⟩ := List.mem_filter.1 hc
  have : c.at' = k := by simp at h2; exact h2.1
  have q1 := h c h1
  have q2 := (ho c h1).1
  omega
theorem rdy_sec (h : ∀ c ∈ R, 2 ≤ c.at') (ho : okB R) {k : Int} (hk : rdyN R k ≠ []) : 2 ≤ k ∧ k < 8 := by
  obtain ⟨n, hn⟩ := List.exists_mem_of_ne_nil _ hk
  obtain ⟨c, hc, _, h1, _⟩ := rdyN_ok hn
  have q1 := h c hc
  have q2 := (ho c hc).1
  omega
theorem SfOk.fsec (h : SfOk R fly last) {p : Int × Int} (hp : p ∈ fly) : 2 ≤ p.2 ∧ p.2 < 8 := ofN_sec h.two h.ok ((h.fl p.2).1 (List.mem_map.2 ⟨p, hp, rfl⟩))
theorem SfOk.nil : SfOk [] [] 0 := ⟨DepOk.nil, overOk.nil, fun c hc => (by cases hc), fun c hc => (by cases hc), by simp, by simp, by omega, by simp, fun k => by simp [ofN]⟩
theorem SfOk.disk (h : SfOk R fly last) : DOk 8 (sOf R) (wOf node R fly) last := by
  refine ⟨sOf_len R, by decide, fun s hs => ?_, fun p hp => ?_, fun p hp => ?_, ?_, fun p hp => ?_, h.l0⟩
  · obtain ⟨k, _, rfl⟩ := List.mem_map.1 hs
    split
    · exact wallB_size 0 0
    · exact sz_S (dkB_len _ _)
  · obtain ⟨q, hq, rfl⟩ := List.mem_map.1 hp
    have := h.fsec hq
    exact inS_iff.2 (by show 0 ≤ q.2 ∧ q.2 < ((8 : Nat) : Int); omega)
  · obtain ⟨q, hq, rfl⟩ := List.mem_map.1 hp
    exact sz_S (flB_len _ _)
  · have : (wOf node R fly).map Prod.fst = fly.map Prod.fst := by rw [wOf, List.map_map]; rfl
    rw [this]; exact h.key
  · obtain ⟨q, hq, rfl⟩ := List.mem_map.1 hp
    exact h.le q hq
theorem nodup_le : ∀ (a b : List Int), a.Nodup → (∀ x ∈ a, x ∈ b) → a.length ≤ b.length
  | [], _, _, _ => Nat.zero_le _
  | x :: a, b, hn, h => by
    rw [List.nodup_cons] at hn
    have h1 := nodup_le a (b.erase x) hn.2 fun y hy => by
      have hne : y ≠ x := fun e => hn.1 (e ▸ hy)
      exact (List.mem_erase_of_ne hne).2 (h y (by simp [hy]))
    have h2 := h x (by simp)
    rw [List.length_erase_of_mem h2] at h1
    have h3 := List.length_pos_of_mem h2
    simp; omega
theorem SfOk.flen (h : SfOk R fly last) : fly.length ≤ 8 := by
  have h1 : (fly.map Prod.snd).length ≤ ((List.range 8).map fun k : Nat => (k : Int)).length := by
    refine nodup_le _ _ h.nd fun k hk => ?_
    obtain ⟨p, hp, rfl⟩ := List.mem_map.1 hk
    have := h.fsec hp
    exact List.mem_map.2 ⟨p.2.toNat, List.mem_range.2 (by omega), by show ((p.2.toNat : Nat) : Int) = p.2; omega⟩
  simpa using h1
theorem SfOk.send (h : SfOk R fly last) {k : Int} (hf : ofN R k 2 = []) (hr : rdyN R k ≠ []) :
    SfOk (setN (rdyN R k) 2 R) (fly ++ [(last + 1, k)]) (last + 1) ∧ sOf (setN (rdyN R k) 2 R) = sOf R ∧ wOf node (setN (rdyN R k) 2 R) fly = wOf node R fly := by
  obtain ⟨e1, e2, e3⟩ := dk_send h.dep hf hr
  have ho := fun k' (hk : k' ≠ k) => dk_other (s := 2) (rdy_only h.dep k) hk
  have hkn : k ∉ fly.map Prod.snd := fun hk => (h.fl k).1 hk hf
  refine ⟨⟨h.dep.send k, h.ov.send h.dep k, h.ok.setF _ _, fun c hc => ?_, ?_, ?_, ?_, ?_, fun j => ?_⟩, ?_, ?_⟩
  · obtain ⟨x, hx, rfl⟩ := setF_mem hc
    split <;> exact h.two x hx
  · rw [List.map_append, List.pairwise_append]
    refine ⟨h.key, by simp, fun a ha b hb => ?_⟩
    obtain ⟨p, hp, rfl⟩ := List.mem_map.1 ha
    simp at hb
    have := h.le p hp
    omega
  · intro p hp
    have hl0 := h.l0
    rcases List.mem_append.1 hp with hp | hp
    · have := h.le p hp; omega
    · rw [List.mem_singleton.1 hp]
      show 1 ≤ last + 1 ∧ last + 1 ≤ last + 1
      omega
  · have := h.l0; omega
  · rw [List.map_append, List.nodup_append]
    refine ⟨h.nd, by simp, fun a ha b hb hab => ?_⟩
    simp at hb
    subst hab hb
    exact hkn ha
  · rw [List.map_append, List.mem_append]
    by_cases hj : j = k
    · subst hj
      exact ⟨fun _ => e3, fun _ => .inr (by simp)⟩
    · have := (ho j hj).2.2
      show _ ↔ ofN (setF (fun c => (rdyN R k).contains c.no) 2 R) j 2 ≠ []
      rw [this, ← h.fl j]
      simp [hj]
  · refine sOf_ext fun j _ => ?_
    by_cases hj : (j : Int) = k
    · rw [hj]; exact e1
    · exact (ho j hj).1
  · refine wOf_ext fun p hp => (ho p.2 fun e => hkn (e ▸ List.mem_map.2 ⟨p, hp, rfl⟩)).2.1
theorem SfOk.ended (h : SfOk R fly last) {n k : Int} (hn : (n, k) ∈ fly) {s : Int} (hs : s ≠ 2) (hd : DepOk (setK k s R)) :
    SfOk (setK k s R) (gdel n fly) last ∧ wOf node (setK k s R) (gdel n fly) = wOf node R (gdel n fly) := by
  have ho := fun k' (hk : k' ≠ k) => dk_other (s := s) (fly_only k R) hk
  have hm := mem_gdel h.key hn
  have e3 : ofN (setK k s R) k 2 = [] := by rw [ofN_filter]; exact congrArg (List.map Ch.no) (fly_out R k hs)
  have huniq : ∀ p ∈ fly, p.2 = k → p = (n, k) := fun p hp hpk => by
    have h1 := List.pairwise_iff_getElem.1 h.nd
    obtain ⟨i, hi, rfl⟩ := List.getElem_of_mem hp
    obtain ⟨j, hj, e⟩ := List.getElem_of_mem hn
    by_cases hij : i = j
    · subst hij; exact e
    · exfalso
      have h2 : (fly.map Prod.snd)[i]'(by simpa using hi) = (fly.map Prod.snd)[j]'(by simpa using hj) := by simp [hpk, e]
      exact hij ((List.getElem_inj h.nd).1 h2)
  have hkn : ∀ p ∈ gdel n fly, p.2 ≠ k := fun p hp hpk => by
    obtain ⟨h1, h2⟩ := (hm p).1 hp
    exact h2 (huniq p h1 hpk)
  refine ⟨⟨hd, h.ov.fly k s, h.ok.setF _ _, fun c hc => ?_, ?_, fun p hp => h.le p (gdel_sub hp), h.l0, ?_, fun j => ?_⟩, wOf_ext fun p hp => (ho p.2 (hkn p hp)).2.1⟩
  · obtain ⟨x, hx, rfl⟩ := setF_mem hc
    split <;> exact h.two x hx
  · exact h.key.sublist ((gdel_sl fly).map _)
  · exact h.nd.sublist ((gdel_sl fly).map _)
  · by_cases hj : j = k
    · subst hj
      constructor
      · intro hj
        obtain ⟨p, hp, e⟩ := List.mem_map.1 hj
        exact absurd e (hkn p hp)
      · intro hj; exact absurd e3 hj
    · show _ ↔ ofN (setF (flyB k) s R) j 2 ≠ []
      rw [(ho j hj).2.2, ← h.fl j, List.mem_map, List.mem_map]
      constructor
      · rintro ⟨p, hp, e⟩
        exact ⟨p, gdel_sub hp, e⟩
      · rintro ⟨p, hp, e⟩
        exact ⟨p, (hm p).2 ⟨hp, fun e' => hj (by rw [← e, e'])⟩, e⟩
theorem SfOk.done (h : SfOk R fly last) {n k : Int} (hn : (n, k) ∈ fly) :
    SfOk (setK k 0 R) (gdel n fly) last ∧ wOf node (setK k 0 R) (gdel n fly) = wOf node R (gdel n fly) ∧ sOf (setK k 0 R) = (sOf R).set k.toNat (S (flB R k)) := by
  obtain ⟨h1, h2⟩ := h.ended (node := node) hn (s := 0) (by decide) (h.dep.done k)
  have hk := h.fsec hn
  have e := (dk_done h.dep h.ov k).1
  refine ⟨h1, h2, ?_⟩
  have hj : ((k.toNat : Nat) : Int) = k := Int.toNat_of_nonneg (by have := hk.1; simp only at this; omega)
  have := sOf_set (R := R) (R' := setK k 0 R) (j := k.toNat) (by have := hk.1; simp only at this; omega) fun i _ hi => (dk_other (s := 0) (fly_only k R) (fun e => hi (by omega))).1
  rw [hj, e] at this
  exact this
theorem SfOk.lost (h : SfOk R fly last) {n k : Int} (hn : (n, k) ∈ fly) :
    SfOk (setK k 1 R) (gdel n fly) last ∧ wOf node (setK k 1 R) (gdel n fly) = wOf node R (gdel n fly) ∧ sOf (setK k 1 R) = sOf R := by
  obtain ⟨h1, h2⟩ := h.ended (node := node) hn (s := 1) (by decide) (h.dep.lost k)
  refine ⟨h1, h2, sOf_ext fun j _ => ?_⟩
  by_cases hj : (j : Int) = k
  · rw [hj]; exact (dk_lost R k).1
  · exact (dk_other (s := 1) (fly_only k R) hj).1
theorem SfOk.add (h : SfOk R fly last) {c : Ch} (hc : c.st = 1) (hd : DepOk (R ++ [c])) (ho : overOk (R ++ [c])) (hk : okB [c]) (h2 : 2 ≤ c.at') : SfOk (R ++ [c]) fly last ∧ wOf node (R ++ [c]) fly = wOf node R fly ∧ sOf (R ++ [c]) = sOf R := by
  refine ⟨⟨hd, ho, fun x hx => ?_, fun x hx => ?_, h.key, h.le, h.l0, h.nd, fun j => ?_⟩, wOf_ext fun p _ => (dk_add hc p.2).2.1, sOf_ext fun j _ => (dk_add hc j).1⟩
  · exact (List.mem_append.1 hx).elim (h.ok x) (hk x)
  · rcases List.mem_append.1 hx with hx | hx
    · exact h.two x hx
    · rw [List.mem_singleton.1 hx]; exact h2
  · rw [(dk_add hc j).2.2]; exact h.fl j
/-- What is seen of a sector: all. -/
theorem SfOk.seen (h : SfOk R fly last) (hl : R.length ≤ 1000) {k : Int} : pt (S (dkB R k)) (vwP R k) = S (alB R k) ∧ pte (S (dkB R k)) (vwP R k) = 0 := by
  have := pt_img (h.ok.filter fun c => c.at' == k && c.st != 0) (Nat.le_trans (List.length_filter_le _ _) (by omega)) (s := S (dkB R k)) (sz_S (dkB_len R k))
  refine ⟨?_, this.2⟩
  rw [vwP, this.1, S_list]
  congr 1
  exact seen_all h.dep h.ov k zB
theorem SfOk.image (h : SfOk R fly last) (hl : R.length ≤ 1000) {k : Int} : pt (S (dkB R k)) (rdyP R k) = S (imgB (rdyL R k) (dkB R k)) ∧ pte (S (dkB R k)) (rdyP R k) = 0 := by
  have := pt_img (h.ok.rdyL h.dep.num.nodup k) (by have := rdyT_le R k R.length; simp [rdyL]; omega) (s := S (dkB R k)) (sz_S (dkB_len R k))
  exact ⟨by rw [rdyP, this.1, S_list], this.2⟩
end
end Cw
namespace Cw
open Go Vc
open Go.Proofs
set_option maxRecDepth 100000
/-- A side's state. -/
structure SS where
  R : List Ch
  fly : List (Int × Int)
  last : Int
def SOk (x : SS) : Prop := SfOk x.R x.fly x.last
def wrC (x : SS) (k : Int) : Prop := ofN x.R k 2 = [] ∧ rdyN x.R k ≠ []
instance (x : SS) (k : Int) : Decidable (wrC x k) := inferInstanceAs (Decidable (_ ∧ _))
def wr1 (x : SS) (k : Int) : SS := if wrC x k then ⟨setN (rdyN x.R k) 2 x.R, x.fly ++ [(x.last + 1, k)], x.last + 1⟩ else x
def wr1N (x : SS) (k : Int) : Int := if wrC x k then x.last + 1 else 0
theorem wr1_yes {x : SS} {k : Int} (h : wrC x k) : wr1 x k = ⟨setN (rdyN x.R k) 2 x.R, x.fly ++ [(x.last + 1, k)], x.last + 1⟩ := if_pos h
theorem wr1_no {x : SS} {k : Int} (h : ¬ wrC x k) : wr1 x k = x := if_neg h
theorem sdE_yes {x : SS} {k : Int} (h : wrC x k) : sdE' x.R k = 0 := by
  rw [sdE', if_pos (by rw [h.1]; rfl), if_neg fun e => h.2 (List.length_eq_zero_iff.1 e)]
theorem sdE_no {x : SS} {k : Int} (h : ¬ wrC x k) : sdE' x.R k = 5 ∨ sdE' x.R k = 120 := by
  unfold sdE'
  by_cases h1 : (ofN x.R k 2).length = 0
  · by_cases h2 : (rdyN x.R k).length = 0
    · left; rw [if_pos h1, if_pos h2]
    · exact absurd ⟨List.length_eq_zero_iff.1 h1, fun e => h2 (by rw [e]; rfl)⟩ h
  · right; rw [if_neg h1]
theorem SOk.w1 {x : SS} (h : SOk x) (k : Int) : SOk (wr1 x k) := by
  by_cases hc : wrC x k
  · rw [wr1_yes hc]; exact (SfOk.send (node := 0) h hc.1 hc.2).1
  · rw [wr1_no hc]; exact h
theorem wr1_len (x : SS) (k : Int) : (wr1 x k).R.length = x.R.length := by
  by_cases hc : wrC x k
  · rw [wr1_yes hc]; exact setN_len _ _ _
  · rw [wr1_no hc]
theorem wr1_last (x : SS) (k : Int) : x.last ≤ (wr1 x k).last ∧ (wr1 x k).last ≤ x.last + 1 := by
  by_cases hc : wrC x k
  · rw [wr1_yes hc]; show x.last ≤ x.last + 1 ∧ x.last + 1 ≤ x.last + 1; omega
  · rw [wr1_no hc]; omega
def wrA (x : SS) (ks : List Int) : SS := ks.foldl wr1 x
theorem wrA_snoc (x : SS) (ks : List Int) (k : Int) : wrA x (ks ++ [k]) = wr1 (wrA x ks) k := by rw [wrA, List.foldl_append]; rfl
def woA (x : SS) (ks : List Int) : List Int := ((wrA x ks).fly.drop x.fly.length).map Prod.fst
theorem SOk.wA {x : SS} (h : SOk x) : ∀ ks, SOk (wrA x ks)
  | [] => h
  | k :: ks => (h.w1 k).wA ks
theorem wrA_len : ∀ (ks : List Int) (x : SS), (wrA x ks).R.length = x.R.length
  | [], _ => rfl
  | k :: ks, x => (wrA_len ks (wr1 x k)).trans (wr1_len x k)
theorem wrA_last : ∀ (ks : List Int) (x : SS), x.last ≤ (wrA x ks).last ∧ (wrA x ks).last ≤ x.last + ks.length
  | [], x => by show x.last ≤ x.last ∧ x.last ≤ x.last + ((0 : Nat) : Int); omega
  | k :: ks, x => by
    have h1 := wrA_last ks (wr1 x k)
    have h2 := wr1_last x k
    show x.last ≤ (wrA (wr1 x k) ks).last ∧ (wrA (wr1 x k) ks).last ≤ x.last + ((ks.length + 1 : Nat) : Int)
    omega
theorem wrA_fly : ∀ (ks : List Int) (x : SS), ∃ m, (wrA x ks).fly = x.fly ++ m ∧ m.length ≤ ks.length
  | [], x => ⟨[], (List.append_nil _).symm, Nat.le_refl _⟩
  | k :: ks, x => by
    obtain ⟨m, h1, h2⟩ := wrA_fly ks (wr1 x k)
    by_cases hc : wrC x k
    · refine ⟨(x.last + 1, k) :: m, ?_, by simp; omega⟩
      show (wrA (wr1 x k) ks).fly = _
      rw [h1, wr1_yes hc]
      simp
    · refine ⟨m, ?_, by simp; omega⟩
      show (wrA (wr1 x k) ks).fly = _
      rw [h1, wr1_no hc]
theorem woA_le (x : SS) (ks : List Int) : (woA x ks).length ≤ ks.length := by
  obtain ⟨m, h1, h2⟩ := wrA_fly ks x
  rw [woA, h1]
  simp; omega
theorem woA_snoc (x : SS) (ks : List Int) (k : Int) : woA x (ks ++ [k]) = if wrC (wrA x ks) k then woA x ks ++ [(wrA x ks).last + 1] else woA x ks := by
  unfold woA
  rw [wrA_snoc]
  obtain ⟨m, h1, _⟩ := wrA_fly ks x
  by_cases hc : wrC (wrA x ks) k
  · rw [if_pos hc, wr1_yes hc, h1]
    simp
  · rw [if_neg hc, wr1_no hc]
theorem wr1_und {x : SS} (h : SOk x) (k : Int) : (und (wr1 x k).R).length = (und x.R).length := by
  by_cases hc : wrC x k
  · rw [wr1_yes hc]; show (und (setN (rdyN x.R k) 2 x.R)).length = _; rw [und_send h.dep.num.nodup, setN_len]
  · rw [wr1_no hc]
theorem wrA_und : ∀ (ks : List Int) {x : SS}, SOk x → (und (wrA x ks).R).length = (und x.R).length
  | [], _, _ => rfl
  | k :: ks, x, h => (wrA_und ks (h.w1 k)).trans (wr1_und h k)
/-- A write is done. -/
def dn1 (x : SS) (n k : Int) : SS := ⟨setK k 0 x.R, gdel n x.fly, x.last⟩
theorem SOk.d1 {x : SS} (h : SOk x) {n k : Int} (hn : (n, k) ∈ x.fly) : SOk (dn1 x n k) := (SfOk.done (node := 0) h hn).1
theorem dn1_und {x : SS} (h : SOk x) {n k : Int} (hn : (n, k) ∈ x.fly) : (und (dn1 x n k).R).length < (und x.R).length := by
  have h1 : und (setK k 0 x.R) = delK k (und x.R) := und_delK x.R
  have h2 : ofN x.R k 2 ≠ [] := (h.fl k).1 (List.mem_map.2 ⟨_, hn, rfl⟩)
  obtain ⟨m, hm⟩ := List.exists_mem_of_ne_nil _ h2
  obtain ⟨c, hc, _⟩ := List.mem_map.1 hm
  obtain ⟨hc1, hc2⟩ := List.mem_filter.1 hc
  show (und (setK k 0 x.R)).length < _
  rw [h1, delK]
  refine Nat.lt_of_le_of_ne (List.length_filter_le _ _) fun he => ?_
  have h3 : c ∈ und x.R := und_mem.2 ⟨hc1, by simp at hc2; rw [hc2.2]; decide⟩
  have := List.length_filter_eq_length_iff.1 he c h3
  have hf : flyB k c = true := hc2
  rw [hf] at this
  cases this
theorem dn1_len (x : SS) (n k : Int) : (dn1 x n k).R.length = x.R.length := setK_len _ _ _
theorem SOk.fly0 {x : SS} (h : SOk x) (hf : x.fly = []) : ∀ c ∈ x.R, c.st ≠ 2 := fun c hc h2 => by
  have : c.at' ∈ x.fly.map Prod.snd := (h.fl c.at').2 fun e => by
    have : c.no ∈ ofN x.R c.at' 2 := List.mem_map.2 ⟨c, List.mem_filter.2 ⟨hc, by simp [h2]⟩, rfl⟩
    rw [e] at this; cases this
  rw [hf] at this
  cases this
/-- Something is written as long as something is pending. -/
theorem SOk.goes {x : SS} (h : SOk x) (hf : x.fly = []) (hu : und x.R ≠ []) : (wrA x (secs (und x.R))).fly ≠ [] := by
  have hnf := h.fly0 hf
  obtain ⟨c, hc, h1, h2⟩ := h.dep.some_ready hnf hu
  have h0 : ∀ k, ofN x.R k 2 = [] := fun k => by
    rw [ofN, List.map_eq_nil_iff, List.filter_eq_nil_iff]
    intro c hc
    have := hnf c hc
    simp [this]
  have hm : c.at' ∈ secs (und x.R) := by
    rw [secs_mem, ofN_und x.R _ (by decide), h0, rdyN_und h.dep.num.nodup]
    exact ⟨⟨c, und_mem.2 ⟨hc, by rw [h1]; decide⟩, rfl⟩, rfl, fun hn => by rw [hn] at h2; cases h2⟩
  cases hs : secs (und x.R) with
  | nil => rw [hs] at hm; cases hm
  | cons k ks =>
    have hk : k ∈ secs (und x.R) := by rw [hs]; simp
    rw [secs_mem, rdyN_und h.dep.num.nodup] at hk
    have hc : wrC x k := ⟨h0 k, hk.2.2⟩
    obtain ⟨m, e, _⟩ := wrA_fly ks (wr1 x k)
    show (wrA (wr1 x k) ks).fly ≠ []
    rw [e, wr1_yes hc]
    simp
theorem secs_le {x : SS} : (secs (und x.R)).length ≤ x.R.length := by
  have h1 : (secs (und x.R)).length ≤ (srtI (atK (und x.R))).length := List.length_filter_le _ _
  rw [srtI_length] at h1
  have h2 := atK_le (und x.R)
  have h3 := List.length_filter_le (fun c : Ch => c.st != 0) x.R
  have h4 : (und x.R).length ≤ x.R.length := h3
  omega
theorem secs_in {x : SS} (h : SOk x) : ∀ k ∈ secs (und x.R), 2 ≤ k ∧ k < 8 := fun k hk => by
  obtain ⟨⟨c, hc, rfl⟩, _⟩ := secs_mem.1 hk
  have h1 := (und_mem.1 hc).1
  have h2 := h.two c h1
  have h3 := (h.ok c h1).1
  omega
/-- What is written of a sector does not hang on what is done. -/
theorem imgB_map {f : Ch → Ch} (hf : ∀ c, (f c).off = c.off ∧ (f c).by' = c.by') : ∀ (cs : List Ch) (s : List UInt8), imgB (cs.map f) s = imgB cs s
  | [], _ => rfl
  | c :: cs, s => by
    show imgB (cs.map f) (s.set (f c).off.toNat (btC (f c))) = imgB cs (s.set c.off.toNat (btC c))
    rw [imgB_map hf cs, btC, btC, (hf c).1, (hf c).2]
theorem alB_setF (p : Ch → Bool) (s : Int) (R : List Ch) (k : Int) : alB (setF p s R) k = alB R k := by
  have hf : ∀ c : Ch, (if p c then { c with st := s } else c).off = c.off ∧ (if p c then { c with st := s } else c).by' = c.by' := fun c => by split <;> exact ⟨rfl, rfl⟩
  rw [alB, alB, setF, List.filter_map]
  have : (R.filter ((fun c : Ch => c.at' == k) ∘ fun c => if p c then { c with st := s } else c)) = R.filter fun c => c.at' == k := List.filter_congr fun c _ => by
    show ((if p c then { c with st := s } else c).at' == k) = _
    split <;> rfl
  rw [this, imgB_map hf]
theorem wr1_al (x : SS) (k j : Int) : alB (wr1 x k).R j = alB x.R j := by
  by_cases hc : wrC x k
  · rw [wr1_yes hc]; exact alB_setF _ _ _ _
  · rw [wr1_no hc]
theorem wrA_al (j : Int) : ∀ (ks : List Int) (x : SS), alB (wrA x ks).R j = alB x.R j
  | [], _ => rfl
  | k :: ks, x => (wrA_al j ks (wr1 x k)).trans (wr1_al x k j)
theorem dn1_al (x : SS) (n k j : Int) : alB (dn1 x n k).R j = alB x.R j := alB_setF _ _ _ _
theorem all_done {R : List Ch} (h : und R = []) (k : Int) : dkB R k = alB R k := by
  have h0 : ∀ c ∈ R, c.st = 0 := fun c hc => Classical.byContradiction fun hne => by
    have := und_mem.2 ⟨hc, hne⟩
    rw [h] at this; cases this
  rw [dkB, alB]
  congr 1
  exact List.filter_congr fun c hc => by simp [h0 c hc]
/-- One byte. -/
theorem valB_one {o : Nat} {v : UInt8} : ∀ {cs : List Ch} {d : UInt8}, (∀ c ∈ cs, c.off.toNat = o → btC c = v) → (d = v ∨ ∃ c ∈ cs, c.off.toNat = o) → valB o cs d = v
  | [], d, _, h => h.elim (fun e => e) fun ⟨c, hc, _⟩ => (by cases hc)
  | c :: cs, d, h1, h2 => by
    rw [valB_cons]
    refine valB_one (fun x hx => h1 x (by simp [hx])) ?_
    by_cases hc : c.off.toNat = o
    · left; rw [if_pos hc]; exact h1 c (by simp) hc
    · rw [if_neg hc]
      rcases h2 with h2 | ⟨x, hx, h2⟩
      · exact .inl h2
      · rcases List.mem_cons.1 hx with hx | hx
        · rw [hx] at h2; exact absurd h2 hc
        · exact .inr ⟨x, hx, h2⟩
theorem zB_get {o : Nat} (h : o < 64) : zB[o]? = some 0 := by
  rw [zB, List.getElem?_replicate, if_pos h]
end Cw
namespace Cw
open Go Vc
open Go.Proofs
set_option maxRecDepth 100000
/-- Those ahead, counted back by up to 4. -/
def b5T (n : Nat) (bs : List Int) : List Int := bs.foldl (fun acc b => if decide ((n : Int) - b % 5 ≥ 1) = true then acc ++ [(n : Int) - b % 5] else acc) []
theorem b5T_snoc (n : Nat) (bs : List Int) (b : Int) : b5T n (bs ++ [b]) = if decide ((n : Int) - b % 5 ≥ 1) = true then b5T n bs ++ [(n : Int) - b % 5] else b5T n bs := by
  rw [b5T, List.foldl_append]; rfl
theorem b5T_le (n : Nat) (bs : List Int) : (b5T n bs).length ≤ bs.length := by
  rw [show bs = bs.reverse.reverse from (List.reverse_reverse bs).symm]
  generalize bs.reverse = m
  induction m with
  | nil => exact Nat.le_refl _
  | cons b m ih =>
    rw [List.reverse_cons, b5T_snoc]
    split
    · simp at *; exact ih
    · simp at *; omega
theorem b5T_mem {n : Nat} {x : Int} (bs : List Int) : x ∈ b5T n bs → 1 ≤ x ∧ x ≤ (n : Int) := by
  rw [show bs = bs.reverse.reverse from (List.reverse_reverse bs).symm]
  generalize bs.reverse = m
  induction m with
  | nil => intro h; cases h
  | cons b m ih =>
    rw [List.reverse_cons, b5T_snoc]
    split
    · rename_i h
      intro hx
      rcases List.mem_append.1 hx with hx | hx
      · exact ih hx
      · have h1 := of_decide_eq_true h
        have h2 := Int.emod_nonneg b (show (5 : Int) ≠ 0 by decide)
        rw [List.mem_singleton.1 hx]
        omega
    · exact ih
/-- A change of a statement. -/
structure SC where
  at' : Int
  off : Int
  by' : Int
  back : List Int
  A : Option Addr
  m : Nat
def SC.w (a : SC) : List Int × Option Addr × Nat := (a.back, a.A, a.m)
def scv (a : SC) : List Value := [.int .i64 a.at', .int .i64 a.off, .int .u8 a.by', .slice a.A a.back.length a.m]
def scells (ls : List SC) : List Value := fcs scv ls
theorem scells_len (ls : List SC) : (scells ls).length = ls.length * 4 := fcs_length (f := scv) (c := 4) (fun _ => rfl) ls
theorem scells_at {ls : List SC} {i : Nat} (h : i < ls.length) : (scells ls)[(i : Int).toNat * 4 + 0]? = some (.int .i64 ls[i].at') ∧ (scells ls)[(i : Int).toNat * 4 + 1]? = some (.int .i64 ls[i].off) ∧ (scells ls)[(i : Int).toNat * 4 + 2]? = some (.int .u8 ls[i].by') ∧ (scells ls)[(i : Int).toNat * 4 + 3]? = some (.slice ls[i].A ls[i].back.length ls[i].m) :=
  have g := fun (j : Nat) (u : Value) (hu : (scv ls[i])[j]? = some u) => fcs_at (f := scv) (c := 4) (fun _ => rfl) h hu
  ⟨g 0 _ rfl, g 1 _ rfl, g 2 _ rfl, g 3 _ rfl⟩
/-- The change that is added. -/
def sfC (R : List Ch) (k o b : Int) (xs : List Int) : Ch := newC (und R) R.length k (o, bt1 b) xs
theorem SfOk.plus {R : List Ch} {fly : List (Int × Int)} {last node : Int} (h : SfOk R fly last) {k o b : Int} {xs : List Int} (hk : 2 ≤ k ∧ k < 8) (ho : 0 ≤ o ∧ o < 64) (hx : ∀ n ∈ xs, 1 ≤ n ∧ n ≤ (R.length : Int)) :
    SfOk (R ++ [sfC R k o b xs]) fly last ∧ wOf node (R ++ [sfC R k o b xs]) fly = wOf node R fly ∧ sOf (R ++ [sfC R k o b xs]) = sOf R := by
  have hah : (sfC R k o b xs).ah = xs ++ ((und R).filter fun c => ovb (c.off, c.by') (o, bt1 b) && c.at' == k).map Ch.no := alls_eq _ _ _ _
  refine h.add rfl ?_ ?_ (fun c hc => ?_) hk.1
  · refine h.dep.add rfl rfl fun n hn => ?_
    rw [hah] at hn
    rcases List.mem_append.1 hn with hn | hn
    · exact hx n hn
    · obtain ⟨c, hc, rfl⟩ := List.mem_map.1 hn
      have := h.dep.num.le (und_mem.1 (List.mem_filter.1 hc).1).1
      omega
  · refine h.ov.add h.dep rfl fun c hc h1 h2 h3 => ?_
    obtain ⟨q1, q2, b', q3⟩ := h.ok c hc
    rw [hah]
    refine List.mem_append.2 (.inr (List.mem_map.2 ⟨c, List.mem_filter.2 ⟨und_mem.2 ⟨hc, h3⟩, ?_⟩, rfl⟩))
    have h1' : c.at' = k := h1
    have h2' : c.off = o := by
      have : c.off.toNat = o.toNat := h2
      omega
    rw [q3, bt1_ovb _ _ q2 ho, h1', h2']
    simp
  · rw [List.mem_singleton.1 hc]
    exact ⟨by show 0 ≤ k ∧ k < 8; omega, ho, b, rfl⟩
/-- Changes each of which has a byte of its own. -/
structure BgOk (ls : List SC) (R : List Ch) : Prop where
  le : R.length ≤ ls.length ∧ R.length ≤ 30
  at' : ∀ (j : Nat) (h : j < R.length) (h' : j < ls.length), R[j].at' = 2 + ls[j].at' % 6
  off : ∀ (j : Nat) (h : j < R.length), R[j].off = (j : Int)
  by' : ∀ (j : Nat) (h : j < R.length), R[j].by' = bt1 ((j : Int) + 1)
  ah : ∀ (j : Nat) (h : j < R.length) (h' : j < ls.length), ∀ n ∈ b5T j ls[j].back, n ∈ R[j].ah
section
variable {ls : List SC} {R : List Ch}
theorem BgOk.nil : BgOk ls [] := ⟨by simp, fun j h => by simp at h, fun j h => by simp at h, fun j h => by simp at h, fun j h => by simp at h⟩
theorem setF_get' {p : Ch → Bool} {s : Int} {R : List Ch} {i : Nat} (h : i < (setF p s R).length) : ((setF p s R)[i]).at' = (R[i]'(by rw [setF_len] at h; exact h)).at' ∧ ((setF p s R)[i]).off = (R[i]'(by rw [setF_len] at h; exact h)).off ∧ ((setF p s R)[i]).by' = (R[i]'(by rw [setF_len] at h; exact h)).by' ∧ ((setF p s R)[i]).ah = (R[i]'(by rw [setF_len] at h; exact h)).ah := by
  simp only [setF, List.getElem_map]
  split <;> exact ⟨rfl, rfl, rfl, rfl⟩
theorem BgOk.set (h : BgOk ls R) (p : Ch → Bool) (s : Int) : BgOk ls (setF p s R) := by
  have hl := setF_len p s R
  refine ⟨by rw [hl]; exact h.le, fun j hj h' => ?_, fun j hj => ?_, fun j hj => ?_, fun j hj h' n hn => ?_⟩
  · rw [(setF_get' hj).1]; exact h.at' j _ h'
  · rw [(setF_get' hj).2.1]; exact h.off j _
  · rw [(setF_get' hj).2.2.1]; exact h.by' j _
  · rw [(setF_get' hj).2.2.2]; exact h.ah j _ h' n hn
theorem BgOk.add (h : BgOk ls R) (hl : R.length < ls.length) (hl' : R.length < 30) : BgOk ls (R ++ [sfC R (2 + ls[R.length].at' % 6) (R.length : Int) ((R.length : Int) + 1) (b5T R.length ls[R.length].back)]) := by
  have hah : (sfC R (2 + ls[R.length].at' % 6) (R.length : Int) ((R.length : Int) + 1) (b5T R.length ls[R.length].back)).ah = b5T R.length ls[R.length].back ++ ((und R).filter fun c => ovb (c.off, c.by') ((R.length : Int), bt1 ((R.length : Int) + 1)) && c.at' == 2 + ls[R.length].at' % 6).map Ch.no := alls_eq _ _ _ _
  have key : ∀ (j : Nat) (hj : j < (R ++ [sfC R (2 + ls[R.length].at' % 6) (R.length : Int) ((R.length : Int) + 1) (b5T R.length ls[R.length].back)]).length), (∃ h : j < R.length, (R ++ [sfC R (2 + ls[R.length].at' % 6) (R.length : Int) ((R.length : Int) + 1) (b5T R.length ls[R.length].back)])[j] = R[j]) ∨ (j = R.length ∧ (R ++ [sfC R (2 + ls[R.length].at' % 6) (R.length : Int) ((R.length : Int) + 1) (b5T R.length ls[R.length].back)])[j] = sfC R (2 + ls[R.length].at' % 6) (R.length : Int) ((R.length : Int) + 1) (b5T R.length ls[R.length].back)) := fun j hj => by
    by_cases hi : j < R.length
    · exact .inl ⟨hi, List.getElem_append_left hi⟩
    · have : j = R.length := by simp at hj; omega
      subst this
      exact .inr ⟨rfl, by simp⟩
  refine ⟨by simp; omega, fun j hj h' => ?_, fun j hj => ?_, fun j hj => ?_, fun j hj h' n hn => ?_⟩
  · rcases key j hj with ⟨hi, e⟩ | ⟨rfl, e⟩
    · rw [e]; exact h.at' j hi h'
    · rw [e]; rfl
  · rcases key j hj with ⟨hi, e⟩ | ⟨rfl, e⟩
    · rw [e]; exact h.off j hi
    · rw [e]; rfl
  · rcases key j hj with ⟨hi, e⟩ | ⟨rfl, e⟩
    · rw [e]; exact h.by' j hi
    · rw [e]; rfl
  · rcases key j hj with ⟨hi, e⟩ | ⟨rfl, e⟩
    · rw [e]; exact h.ah j hi h' n hn
    · rw [e, hah]; exact List.mem_append.2 (.inl hn)
theorem BgOk.idx (h : BgOk ls R) {c : Ch} (hc : c ∈ R) {i : Nat} (hi : i < R.length) (ho : c.off.toNat = i) : c = R[i] := by
  obtain ⟨j, hj, rfl⟩ := List.getElem_of_mem hc
  have := h.off j hj
  have : j = i := by omega
  subst this
  rfl
theorem BgOk.bt (h : BgOk ls R) {i : Nat} (hi : i < R.length) : btC R[i] = UInt8.ofNat (i + 1) := by
  rw [btC, h.by' i hi]
  show UInt8.ofNat ((i : Int) + 1).toNat = _
  congr 1
/-- The byte of a change in its sector, of those that are told. -/
theorem BgOk.byte (h : BgOk ls R) {i : Nat} (hi : i < R.length) (q : Ch → Bool) : (imgB (R.filter q) zB)[i]? = some (if q R[i] = true then UInt8.ofNat (i + 1) else 0) := by
  have h30 := h.le.2
  rw [imgB_get, zB_get (by omega)]
  show some _ = some _
  congr 1
  by_cases hq : q R[i] = true
  · rw [if_pos hq]
    refine valB_one (fun c hc ho => ?_) (.inr ⟨R[i], List.mem_filter.2 ⟨List.getElem_mem hi, hq⟩, by rw [h.off i hi]; simp⟩)
    rw [h.idx (List.mem_filter.1 hc).1 hi ho]
    exact h.bt hi
  · rw [if_neg hq]
    refine valB_none fun c hc ho => ?_
    rw [h.idx (List.mem_filter.1 hc).1 hi ho] at hc
    exact hq (List.mem_filter.1 hc).2
theorem num1b {l : List UInt8} (hl : l.length = 64) {i : Nat} {b : UInt8} (hi : l[i]? = some b) : getn (S l) (i : Int) 1 = b.toNat ∧ gete (S l).size (i : Int) 1 = 0 := by
  have hlt : i < 64 := by
    rw [← hl]
    exact (List.getElem?_eq_some_iff.1 hi).1
  have hz : (S l).size = 64 := sz_S hl
  have he : gete (S l).size (i : Int) 1 = 0 := by
    rw [hz]
    rcases gete_cases 64 (i : Int) 1 with h | h | h
    · exact h.1
    · omega
    · exfalso
      rcases h with ⟨_, _, h⟩
      have : fwide 1 = true := rfl
      simp [this, finside] at h
      omega
  refine ⟨?_, he⟩
  rw [getn, if_pos he]
  show numAt (S l) (i : Int).toNat 1 = _
  rw [Int.toNat_natCast]
  have h2 : l.drop i = l[i]'(by omega) :: l.drop (i + 1) := List.drop_eq_getElem_cons (by omega)
  have h3 := (List.getElem?_eq_some_iff.1 hi).2
  show num ((l.drop i).take 1) = _
  rw [h2, h3]
  show num [b] = _
  simp [num]
theorem small_u8 {i : Nat} (h : i < 30) : (UInt8.ofNat (i + 1)).toNat = i + 1 := by
  simp [UInt8.toNat_ofNat]
  omega
/-- What is there of a change: whether it is done. -/
theorem BgOk.there (h : BgOk ls R) {i : Nat} (hi : i < R.length) : ((getn (S (dkB R R[i].at')) (i : Int) 1 : Int) == 1 + (i : Int)) = (R[i].st == 0) ∧ gete (S (dkB R R[i].at')).size (i : Int) 1 = 0 := by
  have h30 := h.le.2
  have hb := h.byte hi fun c => c.at' == R[i].at' && c.st == 0
  obtain ⟨h1, h2⟩ := num1b (dkB_len R R[i].at') hb
  refine ⟨?_, h2⟩
  rw [h1]
  by_cases hs : R[i].st = 0
  · rw [if_pos (by simp [hs]), small_u8 (by omega), hs]
    simp
    omega
  · rw [if_neg (by simp [hs])]
    have : (R[i].st == 0) = false := by simp [hs]
    rw [this]
    simp
    omega
theorem BgOk.seen1 (h : BgOk ls R) {i : Nat} (hi : i < R.length) : (getn (S (alB R R[i].at')) (i : Int) 1 : Int) = 1 + (i : Int) ∧ gete (S (alB R R[i].at')).size (i : Int) 1 = 0 := by
  have h30 := h.le.2
  have hb := h.byte hi fun c => c.at' == R[i].at'
  have hl : (alB R R[i].at').length = 64 := by rw [alB, imgB_len, zB_len]
  obtain ⟨h1, h2⟩ := num1b hl hb
  refine ⟨?_, h2⟩
  rw [h1, if_pos (by simp), small_u8 (by omega)]
  omega
/-- What goes ahead of what is done is done. -/
theorem BgOk.ahead (h : BgOk ls R) (hd : DepOk R) {i : Nat} (hi : i < R.length) (h' : i < ls.length) (hs : R[i].st = 0) {n : Int} (hn : n ∈ b5T i ls[i].back) : 1 ≤ n ∧ ∃ hj : n.toNat - 1 < R.length, R[n.toNat - 1].st = 0 := by
  obtain ⟨h1, h2⟩ := b5T_mem _ hn
  have h3 := hd.cls R[i] (List.getElem_mem hi) hs n (h.ah i hi h' n hn)
  rw [hd.num.st h1 (by omega)] at h3
  exact ⟨h1, by omega, h3⟩
end
end Cw
namespace Cw
open Go Vc
open Go.Proofs
set_option maxRecDepth 100000
def keysRSf : Go.Shelf.Ren := ⟨fun | 6 => 34 | 7 => 35 | 8 => 61 | 9 => 50 | 10 => 62 | 11 => 82 | n => n, fun | 3 => 3 | 4 => 4 | 23 => 56 | 24 => 33 | 26 => 3 | 27 => 88 | 28 => 89 | 33 => 72 | n => n, fun n => n⟩
theorem keysL6Sf : Go.Proofs.SlLaysZI.n6 Tryz.prog keysRSf := {
mixed := by kernel_rfl
f6 := ⟨Tryz.f34.name, by decide, Tryz.func34.trans (congrArg some (by kernel_rfl))⟩
f8 := ⟨Tryz.f61.name, by decide, Tryz.func61.trans (congrArg some (by kernel_rfl))⟩
f11 := ⟨Tryz.f82.name, by decide, Tryz.func82.trans (congrArg some (by kernel_rfl))⟩
t0 := Tryz.underlying0
a0 := Tryz.isAgg0
z0 := Tryz.sizeOf0
v0 := Tryz.zeroValue0
t24 := Tryz.underlying33
a24 := Tryz.isAgg33
z24 := Tryz.sizeOf33
v24 := Tryz.zeroValue33
t26 := Tryz.underlying3
a26 := Tryz.isAgg3
z26 := Tryz.sizeOf3
v26 := Tryz.zeroValue3
t28 := Tryz.underlying89
a28 := Tryz.isAgg89
z28 := Tryz.sizeOf89
v28 := Tryz.zeroValue89
i26 := by kernel_rfl }
theorem keysL7Sf : Go.Proofs.SlLaysZI.n7 Tryz.prog keysRSf := {
mixed := by kernel_rfl
f7 := ⟨Tryz.f35.name, by decide, Tryz.func35.trans (congrArg some (by kernel_rfl))⟩
f10 := ⟨Tryz.f62.name, by decide, Tryz.func62.trans (congrArg some (by kernel_rfl))⟩
t0 := Tryz.underlying0
a0 := Tryz.isAgg0
z0 := Tryz.sizeOf0
v0 := Tryz.zeroValue0
t4 := Tryz.underlying4
a4 := Tryz.isAgg4
z4 := Tryz.sizeOf4
v4 := Tryz.zeroValue4
t23 := Tryz.underlying56
a23 := Tryz.isAgg56
z23 := Tryz.sizeOf56
v23 := Tryz.zeroValue56
t26 := Tryz.underlying3
a26 := Tryz.isAgg3
z26 := Tryz.sizeOf3
v26 := Tryz.zeroValue3
t27 := Tryz.underlying88
a27 := Tryz.isAgg88
z27 := Tryz.sizeOf88
v27 := Tryz.zeroValue88
t28 := Tryz.underlying89
a28 := Tryz.isAgg89
z28 := Tryz.sizeOf89
v28 := Tryz.zeroValue89
t33 := Tryz.underlying72
a33 := Tryz.isAgg72
z33 := Tryz.sizeOf72
v33 := Tryz.zeroValue72 }
theorem sortsSf (m : Nat) : Go.Proofs.AnyZI.SortsIn Tryz.prog keysRSf Fence.wide m :=
  ⟨fun blk off cap ss W hH hblk hsz => callsIn_wide.2 (Tryz.slices_Sort_int blk off cap ss W hH hblk hsz), fun p cap W => callsIn_wide.2 (Tryz.slices_Sort_int_none p cap W)⟩
theorem keysSf {H : HL} {nx k : Nat} : FnH Tryz.prog 35 [.c (.mp k)] H nx ⟨.t (.c (.fn (.func 62) [(nx, 0)])), [(true, .cells [.mp k] 56)], [], []⟩ := keys_of rfl rfl rfl keysL7Sf
theorem sortedSf {H : HL} {nx q k : Nat} {b1 b2 : Bool} {T : TypeId} {m : List (Int × Value)} (hq : lookH H q = some (b1, .cells [.mp k] T)) (hm : lookH H k = some (b2, .mp m)) (hz : m.length ≤ 1000000) :
    FnH Tryz.prog 34 [.c (.fn (.func 62) [(q, 0)])] H nx ⟨.t (.c (.nm nx)), [(true, .own 3 1 m.length (ivs (srtI (m.map Prod.fst))))], [], []⟩ :=
  sorted_of rfl rfl rfl keysL6Sf keysL7Sf sortsSf (enters_of Tryz.func50 (by kernel_rfl) rfl) (enters_of Tryz.func62 (by kernel_rfl) rfl) hq hm hz
abbrev WW := List (List Int × Option Addr × Nat)
def iV (x : Int) : Value := .int .i64 x
theorem setN_nil' (s : Int) (R : List Ch) : setN [] s R = R := by
  rw [setN, setF]
  exact List.map_id' R
/-- The disk of a side. -/
abbrev dkP (x : SS) (node : Int) (bk : Nat) : AbP := dP (sOf x.R) (wOf node x.R x.fly) x.last bk
def sfO (V : DV) (W : WW) (n : Nat) (fly : List (Int × Int)) (node : Int) (b bd bk : Nat) : List (Bool × Ob) :=
  [(true, .cells [.nm 1, .p 4 0, iT node, iT 0, .mp 3] 58), (true, .ab (depP V (n : Int) bd)), (true, .ab (frzP W)), (true, .mp (gm iV fly)), (false, .pin 4 bk), (false, .pin 0 b)]
def sfP (V : DV) (W : WW) (n : Nat) (fly : List (Int × Int)) (node : Int) (b bd bk : Nat) : AbP := absP (sfO V W n fly node b bd bk) (.p 0 0)
theorem sf_pins (V : DV) (W : WW) (n : Nat) (fly : List (Int × Int)) (node : Int) (b bd bk : Nat) : Pins (sfP V W n fly node b bd bk) (ptr b) := pins_abs (k := 5) rfl
/-- A side whose changes are R. -/
def sfB (R : List Ch) (fly : List (Int × Int)) (node : Int) (b bd bk : Nat) : AbP := exP fun x : { x : DV × WW // DR x.1 x.2 R } => sfP x.1.1 x.1.2 R.length fly node b bd bk
theorem sfB_pins (R : List Ch) (fly : List (Int × Int)) (node : Int) (b bd bk : Nat) : Pins (sfB R fly node b bd bk) (ptr b) := fun v F w ⟨x, h⟩ => sf_pins x.1.1 x.1.2 _ fly node b bd bk v F w h
theorem sfB_st (R : List Ch) (fly : List (Int × Int)) (node : Int) (b bd bk : Nat) : stable (sfB R fly node b bd bk) := exP_stable fun _ => absP_stable _ _
theorem sfB_of {V : DV} {W : WW} {R : List Ch} (h : DR V W R) {fly : List (Int × Int)} {node : Int} {b bd bk : Nat} : ∀ v F w, sfP V W R.length fly node b bd bk v F w → sfB R fly node b bd bk v F w := fun _ _ _ h' => ⟨⟨(V, W), h⟩, h'⟩
theorem lkS (k : Int) (fly : List (Int × Int)) : lkV (gm iV fly) k (.int .i64 0) true = .tuple #[iV ((gget k fly).getD 0), .bool (gget k fly).isSome] := lk_gm k fly 0
def sfX (node : Int) (bk : Nat) : AbP := exP fun p : Nat × Nat => sfB [] [] node p.1 p.2 bk
theorem nilDk {H : HL} {nx d bk : Nat} {S : List ByteArray} {Y : List (Int × Wr)} {last : Int} {b1 : Bool} (hd : lookH H d = some (b1, .ab (dP S Y last bk))) {Lc : LL} {o : Oper} {x y : Operand} (hop : o.op = .binOp .eql 24 x y 24) (hx : ev Lc x = some (.c (.nm d))) (hy : ev Lc y = some (.c .np)) : Spec Tryz.prog Lc H nx o ⟨.t (.c (.b false)), [], [], []⟩ :=
  spec_nil tysOk hop hx hy rfl rfl hd (NotNil.pins (disk_pins _ _ _ _))
theorem nilSf {H : HL} {nx d bk : Nat} {node : Int} {b1 : Bool} (hd : lookH H d = some (b1, .ab (sfX node bk))) {Lc : LL} {o : Oper} {x y : Operand} (hop : o.op = .binOp .eql 29 x y 29) (hx : ev Lc x = some (.c (.nm d))) (hy : ev Lc y = some (.c .np)) : Spec Tryz.prog Lc H nx o ⟨.t (.c (.b false)), [], [], []⟩ :=
  spec_nil tysOk hop hx hy rfl rfl hd (fun v F w ⟨p, h⟩ => ⟨p.1, sfB_pins [] [] node p.1 p.2 bk v F w h⟩)
section
variable {H : HL} {nx d s q b bd bk : Nat} {b1 : Bool} {V : DV} {W : WW} {R : List Ch} {fly : List (Int × Int)} {last node : Int}
set_option maxRecDepth 100000 in
set_option maxHeartbeats 4000000 in
/-- A new side. -/
theorem softNew (hd : lookH H d = some (true, .ab (dkP ⟨[], [], 0⟩ node bk))) (hn : node = 0 ∨ node = 1) :
    FnH Tryz.prog 7 [.c (.nm d), .c (iT node), .c (iT 0)] H nx ⟨.tup [.c (.nm nx), .c (iT 0)], [(true, .ab (sfX node bk))], [(d, some (.ab (dkP ⟨[], [], 0⟩ node bk)))], []⟩ := by
  refine fnAs (fn := Tryz.f7) 33 rfl rfl rfl (args' := [.c (.nm 0), .c (iT node), .c (iT 0)]) [(d, dkP ⟨[], [], 0⟩ node bk, dkP ⟨[], [], 0⟩ node bk)] [] ⟨⟨hd, ptr bk, disk_pins _ _ _ _, disk_pins _ _ _ _⟩, trivial⟩ trivial (by simp) rfl rfl rfl rfl (v' := .tup [.c (.nm 1), .c (iT 0)]) (news' := [(true, .ab (sfX node bk))]) rfl rfl rfl rfl rfl fun w Wh => ?_
  refine rn [(10, .spec ⟨.t (.c (.b false)), [], [], []⟩)] rfl (by (repeat' (first | exact trivial | exact rfl | exact nilDk rfl rfl rfl rfl | exact fun _ => nilDk rfl rfl rfl rfl | refine And.intro ?_ ?_))) ?_
  refine ⟨fun h => (by cases h), fun _ => ?_⟩
  refine rn [] rfl (by repeat' (first | exact trivial | exact rfl | refine And.intro ?_ ?_)) ?_
  refine ⟨fun h => ?_, fun _ => ?_⟩
  · exfalso
    have h' : (((decide (node < 0) || decide (2 ≤ node)) || decide ((0 : Int) < 0)) || decide ((4294967295 : Int) < 0)) = true := h
    simp only [Bool.or_eq_true, decide_eq_true_eq] at h'
    omega
  · refine At.num bk ?_
    refine At.alias 0 0 1 rfl (disk_pins _ _ _ _) rfl rfl ?_
    refine rn [(26, .spec ⟨.t (.c (.nm 2)), [(true, .ab (depX [] 0))], [], []⟩)] rfl (by (repeat' (first | exact trivial | exact rfl | exact depNew | exact fun _ => depNew | refine And.intro ?_ ?_))) ?_
    refine Done.ex (φ := depP [] 0) 2 rfl (fun b => absP_stable _ _) fun bd => ?_
    refine Done.newE (frzP []) (.pointer none) (frzP_stable _) rfl (fun w p hp => by cases hp) ?_
    refine Done.pin 4 rfl fun b => ?_
    refine Done.foldR 6 (.p 4 0) [(0, 4), (1, 2), (2, 5), (3, 3), (4, 1), (5, 6)] (sfO [] [] 0 [] node b bd bk) (.p 0 0) rfl (by repeat' (first | exact trivial | exact rfl | refine And.intro ?_ ?_)) (by repeat' (first | exact trivial | exact rfl | refine And.intro ?_ ?_)) rfl rfl (fun _ => rfl) ?_
    refine Done.weak 7 (φ' := sfX node bk) rfl (exP_stable fun _ => sfB_st _ _ _ _ _ _) (fun v F w h => ⟨(b, bd), sfB_of DR.nil v F w h⟩) ?_
    exact retM tysOk [(0, 0), (1, 7)] rfl (by repeat' (first | exact trivial | exact rfl | refine And.intro ?_ ?_)) (by repeat' (first | exact trivial | exact rfl | refine And.intro ?_ ?_)) rfl rfl
set_option maxRecDepth 100000 in
set_option maxHeartbeats 4000000 in
/-- A sector is read. -/
theorem softRead0 (hs : lookH H s = some (true, .ab (sfP V W R.length fly node b bd bk))) (hd : lookH H d = some (true, .ab (dkP ⟨R, fly, last⟩ node bk))) (hsd : s ≠ d) (h : DR V W R) {k : Int} {t : ByteArray} (hk : 0 ≤ k ∧ k < 8) (ht : rdT (sOf R) k = t) (hz : t.size ≤ 9223372036854775807) {t2 : ByteArray} {e2 : Int} (hv : pt t (vwP R k) = t2 ∧ pte t (vwP R k) = e2) :
    FnH Tryz.prog 12 [.c (.nm s), .c (iT k)] H nx ⟨.tup [.c (.s t2), .c (iT e2)], [], [(s, some (.ab (sfB R fly node b bd bk))), (d, some (.ab (dkP ⟨R, fly, last⟩ node bk)))], []⟩ := by
  refine fnAs (fn := Tryz.f12) 29 rfl rfl rfl (args' := [.c (.nm 0), .c (iT k)]) [(s, sfP V W R.length fly node b bd bk, sfB R fly node b bd bk), (d, dkP ⟨R, fly, last⟩ node bk, dkP ⟨R, fly, last⟩ node bk)] [] ⟨⟨hs, ptr b, sf_pins _ _ _ _ _ _ _ _, sfB_pins _ _ _ _ _ _⟩, ⟨hd, ptr bk, disk_pins _ _ _ _, disk_pins _ _ _ _⟩, trivial⟩ trivial (by simp [hsd]) rfl rfl rfl rfl (v' := .tup [.c (.s t2), .c (iT e2)]) (news' := []) rfl rfl rfl rfl rfl fun w Wh => ?_
  refine At.unfoldTo 0 (L1 := (0, .t (.c (.p 2 0))) :: [(1, .t (.c (iT k)))]) (H1 := [(2, some (true, .cells [.nm 3, .p 6 0, iT node, iT 0, .mp 5] 58)), (3, some (true, .ab (depP V (R.length : Nat) bd))), (4, some (true, .ab (frzP W))), (5, some (true, .mp (gm iV fly))), (6, some (false, .pin 6 bk)), (7, some (false, .pin 2 b)), (0, none), (0, some (true, .ab (sfP V W R.length fly node b bd bk))), (1, some (true, .ab (dkP ⟨R, fly, last⟩ node bk)))]) (nx1 := 8) rfl rfl rfl rfl rfl rfl ?_
  have hr := fun (H : HL) (nx : Nat) (h1 : lookH H 1 = some (true, .ab (dkP ⟨R, fly, last⟩ node bk))) (h6 : lookH H 6 = some (false, .pin 6 bk)) => fnh_al1 h1 (disk_pins _ _ _ _) h6 (readA (nx := nx) h1 k)
  simp only [ht, rdE_of R hk] at hr
  have hw := fun (H : HL) (nx : Nat) (h3 : lookH H 3 = some (true, .ab (depP V R.length bd))) => viewP (nx := nx) h3 h k t hz
  simp only [hv.1, hv.2] at hw
  refine rn [(14, .spec ⟨.tup [.c (.s t), .c (iT 0)], [], [(1, some (.ab (dkP ⟨R, fly, last⟩ node bk)))], []⟩), (18, .dec false), (26, .spec ⟨.tup [.c (.s t2), .c (iT e2)], [], [(3, some (.ab (depP V R.length bd)))], []⟩)] rfl (by (repeat' (first | exact trivial | exact rfl | exact trivial | exact fun _ => trivial | first | exact hr _ _ rfl rfl | exact hw _ _ rfl | rfl | decide | refine And.intro ?_ ?_))) ?_
  refine Done.fold [(0, 2), (1, 3), (2, 4), (3, 5), (4, 6), (5, 7)] (sfO V W R.length fly node b bd bk) (.p 0 0) (by (repeat' (first | exact trivial | exact rfl | exact trivial | exact fun _ => trivial | refine And.intro ?_ ?_))) rfl rfl (fun _ => rfl) ?_
  refine Done.weak 8 (φ' := sfB R fly node b bd bk) rfl (sfB_st _ _ _ _ _ _) (sfB_of h) ?_
  exact retM tysOk [(0, 8), (1, 1)] rfl (by repeat' (first | exact trivial | exact rfl | refine And.intro ?_ ?_)) (by repeat' (first | exact trivial | exact rfl | refine And.intro ?_ ?_)) rfl rfl
set_option maxRecDepth 100000 in
set_option maxHeartbeats 8000000 in
/-- A sector is written out. -/
theorem softWrite0 (hs : lookH H s = some (true, .ab (sfP V W R.length fly node b bd bk))) (hd : lookH H d = some (true, .ab (dkP ⟨R, fly, last⟩ node bk))) (hsd : s ≠ d) (h : DR V W R) (ok : SOk ⟨R, fly, last⟩) (hl : last ≤ 1000000) (hR : R.length ≤ 500) (hn : node = 0 ∨ node = 1) {k : Int} (hk : 2 ≤ k ∧ k < 8) {x' : SS} (hx : wr1 ⟨R, fly, last⟩ k = x') :
    FnH Tryz.prog 21 [.c (.nm s), .c (iT k)] H nx ⟨.tup [.c (iT (wr1N ⟨R, fly, last⟩ k)), .c (iT (sdE' R k))], [], [(s, some (.ab (sfB x'.R x'.fly node b bd bk))), (d, some (.ab (dkP x' node bk)))], []⟩ := by
  refine fnAs (fn := Tryz.f21) 77 rfl rfl rfl (args' := [.c (.nm 0), .c (iT k)]) [(s, sfP V W R.length fly node b bd bk, sfB x'.R x'.fly node b bd bk), (d, dkP ⟨R, fly, last⟩ node bk, dkP x' node bk)] [] ⟨⟨hs, ptr b, sf_pins _ _ _ _ _ _ _ _, sfB_pins _ _ _ _ _ _⟩, ⟨hd, ptr bk, disk_pins _ _ _ _, disk_pins _ _ _ _⟩, trivial⟩ trivial (by simp [hsd]) rfl rfl rfl rfl (v' := .tup [.c (iT (wr1N ⟨R, fly, last⟩ k)), .c (iT (sdE' R k))]) (news' := []) rfl rfl rfl rfl rfl fun w Wh => ?_
  subst hx
  refine At.unfoldTo 0 (L1 := (0, .t (.c (.p 2 0))) :: [(1, .t (.c (iT k)))]) (H1 := [(2, some (true, .cells [.nm 3, .p 6 0, iT node, iT 0, .mp 5] 58)), (3, some (true, .ab (depP V (R.length : Nat) bd))), (4, some (true, .ab (frzP W))), (5, some (true, .mp (gm iV fly))), (6, some (false, .pin 6 bk)), (7, some (false, .pin 2 b)), (0, none), (0, some (true, .ab (sfP V W R.length fly node b bd bk))), (1, some (true, .ab (dkP ⟨R, fly, last⟩ node bk)))]) (nx1 := 8) rfl rfl rfl rfl rfl rfl ?_
  have hr := fun (H : HL) (nx : Nat) (h1 : lookH H 1 = some (true, .ab (dkP ⟨R, fly, last⟩ node bk))) (h6 : lookH H 6 = some (false, .pin 6 bk)) => fnh_al1 h1 (disk_pins _ _ _ _) h6 (readA (nx := nx) h1 k)
  simp only [rd_of R hk, rdE_of R (k := k) (by omega)] at hr
  have hz := sz_S (dkB_len R k)
  have hi := fun (H : HL) (nx : Nat) (h3 : lookH H 3 = some (true, .ab (depP V R.length bd))) (h4 : lookH H 4 = some (true, .ab (frzP W))) => imageP (nx := nx) h3 h4 (by decide) h k (S (dkB R k)) (by omega)
  have hsd' := fun (H : HL) (nx : Nat) (h3 : lookH H 3 = some (true, .ab (depP V R.length bd))) (h4 : lookH H 4 = some (true, .ab (frzP W))) => sendP (nx := nx) h3 h4 (by decide) h k
  have hdr' := h.send k
  obtain ⟨im1, im2⟩ := SfOk.image ok (by show R.length ≤ 1000; omega) (k := k)
  rw [im1, im2] at hi
  generalize sdV V k = V' at *
  by_cases hc : wrC ⟨R, fly, last⟩ k
  · have e1 : sdE' R k = 0 := sdE_yes hc
    have e2 : sdL' R k = rdyN R k := by rw [sdL', hc.1]; rfl
    have e3 : sdR R k = setN (rdyN R k) 2 R := by rw [sdR, hc.1]; rfl
    have e4 : wr1N ⟨R, fly, last⟩ k = last + 1 := if_pos hc
    have e5 := wr1_yes hc
    rw [e1, e2] at hsd'
    rw [e3] at hdr'
    rw [e1, e4, e5]
    simp only
    obtain ⟨s1', s2', s3'⟩ := SfOk.send (node := node) ok hc.1 hc.2
    have hlen : (setN (rdyN R k) 2 R).length = R.length := setN_len _ _ _
    have hfl : flB (setN (rdyN R k) 2 R) k = imgB (rdyL R k) (dkB R k) := (dk_send ok.dep hc.1 hc.2).2.1
    have e6 : dP (sOf R) (wOf node R fly ++ [(last + 1, ⟨node, 0, k, S (imgB (rdyL R k) (dkB R k))⟩)]) (last + 1) bk = dkP ⟨setN (rdyN R k) 2 R, fly ++ [(last + 1, k)], last + 1⟩ node bk := by
      have : wOf node (setN (rdyN R k) 2 R) (fly ++ [(last + 1, k)]) = wOf node R fly ++ [(last + 1, ⟨node, 0, k, S (imgB (rdyL R k) (dkB R k))⟩)] := by
        rw [← s3', wOf, List.map_append, ← wOf]
        show _ ++ [(last + 1, (⟨node, 0, k, S (flB (setN (rdyN R k) 2 R) k)⟩ : Cw.Wr))] = _
        rw [hfl]
      simp only [dkP]
      rw [s2', this]
    have hdk := ok.disk (node := node)
    have h1n : 0 ≤ node ∧ node < 2 ∧ (0 : Int) ≤ 0 ∧ (0 : Int) ≤ 4294967295 := by omega
    have hzi : (S (imgB (rdyL R k) (dkB R k))).size = 64 := sz_S (by rw [imgB_len, dkB_len])
    have hwl : (wOf node R fly).length < 1024 := by
      have hf : fly.length ≤ 8 := SfOk.flen ok
      simp [wOf]; omega
    have he0 : isuE (sOf R) (wOf node R fly) node 0 k (S (imgB (rdyL R k) (dkB R k))) = 0 := by
      rw [isuE_ok hdk h1n (inS_iff.2 (by omega)) hzi hwl, s1_of, psD_wall (by decide) (by decide) node 0 hn]
      rcases hn with rfl | rfl <;> rfl
    have hiss := fun (H : HL) (nx : Nat) (h1 : lookH H 1 = some (true, .ab (dkP ⟨R, fly, last⟩ node bk))) (h6 : lookH H 6 = some (false, .pin 6 bk)) => fnh_al1 h1 (disk_pins _ _ _ _) h6 (issueOk (nx := nx) h1 hdk hl he0)
    simp only [e6] at hiss
    have hmp := gm_put (vv := iV) (k := last + 1) (x := k) (W := fly) fun p hp => by have := (ok.le p hp).2; simp only at this; omega
    have hl0 : 0 ≤ last := SfOk.l0 ok
    have m1 : -9223372036854775808 ≤ last + 1 := by omega
    have m2 : last + 1 ≤ 9223372036854775807 := by omega
    refine rn [(15, .spec ⟨.tup [.c (.s (S (dkB R k))), .c (iT 0)], [], [(1, some (.ab (dkP ⟨R, fly, last⟩ node bk)))], []⟩), (19, .dec false), (28, .spec ⟨.tup [.c (.s (S (imgB (rdyL R k) (dkB R k)))), .c (iT 0)], [], [(3, some (.ab (depP V R.length bd)))], []⟩), (37, .spec ⟨.tup [.c (.nm 8), .c (iT 0)], [(true, .own 3 1 (rdyN R k).length (ivs (rdyN R k)))], [(3, some (.ab (depP V' R.length bd)))], []⟩), (41, .dec false), (58, .spec ⟨.tup [.c (iT (last + 1)), .c (iT 0)], [], [(1, some (.ab (dkP ⟨setN (rdyN R k) 2 R, fly ++ [(last + 1, k)], last + 1⟩ node bk)))], []⟩), (30058, .dec true), (62, .dec false)] rfl
      (by (repeat' (first | exact trivial | exact rfl | exact trivial | exact fun _ => trivial | first | exact hr _ _ rfl rfl | exact hi _ _ rfl rfl | exact hsd' _ _ rfl rfl | exact hiss _ _ rfl rfl | exact m1 | exact m2 | exact ⟨m1, m2⟩ | rfl | decide | refine And.intro ?_ ?_))) ?_
    refine Done.fold [(0, 2), (1, 3), (2, 4), (3, 5), (4, 6), (5, 7)] (sfO V' W R.length (fly ++ [(last + 1, k)]) node b bd bk) (.p 0 0) (by (repeat' (first | exact trivial | exact rfl | exact hmp | exact fun _ => hmp | refine And.intro ?_ ?_))) rfl rfl (fun _ => rfl) ?_
    refine Done.weak 9 (φ' := sfB (setN (rdyN R k) 2 R) (fly ++ [(last + 1, k)]) node b bd bk) rfl (sfB_st _ _ _ _ _ _) (fun v F w hh => sfB_of hdr' v F w (by rw [hlen]; exact hh)) ?_
    exact retM tysOk [(0, 9), (1, 1)] rfl (by repeat' (first | exact trivial | exact rfl | refine And.intro ?_ ?_)) (by repeat' (first | exact trivial | exact rfl | refine And.intro ?_ ?_)) rfl rfl
  · have e4 : wr1N ⟨R, fly, last⟩ k = 0 := if_neg hc
    have e3 : sdR R k = R := by
      unfold sdR
      split
      · rename_i h0
        have : rdyN R k = [] := Classical.byContradiction fun hne => hc ⟨List.length_eq_zero_iff.1 h0, hne⟩
        rw [this, setN_nil']
      · rfl
    have e5 := wr1_no hc
    have g1 : decide (sdE' R k = 0) = false := by rcases sdE_no hc with e | e <;> (show decide (sdE' R k = 0) = false) <;> (have e' : sdE' R k = _ := e) <;> rw [e'] <;> rfl
    have g2 : (!(sdE' R k == 0)) = true := by rcases sdE_no hc with e | e <;> (have e' : sdE' R k = _ := e) <;> rw [e'] <;> rfl
    rw [e3] at hdr'
    rw [e4, e5]
    generalize sdL' R k = lx at *
    generalize sdE' R k = ex at *
    refine rn [(15, .spec ⟨.tup [.c (.s (S (dkB R k))), .c (iT 0)], [], [(1, some (.ab (dkP ⟨R, fly, last⟩ node bk)))], []⟩), (19, .dec false), (28, .spec ⟨.tup [.c (.s (S (imgB (rdyL R k) (dkB R k)))), .c (iT 0)], [], [(3, some (.ab (depP V R.length bd)))], []⟩), (37, .spec ⟨.tup [.c (.nm 8), .c (iT ex)], [(true, .own 3 1 lx.length (ivs lx))], [(3, some (.ab (depP V' R.length bd)))], []⟩), (41, .dec true)] rfl
      (by (repeat' (first | exact trivial | exact rfl | exact trivial | exact fun _ => trivial | first | exact hr _ _ rfl rfl | exact hi _ _ rfl rfl | exact hsd' _ _ rfl rfl | exact g2 | rfl | decide | refine And.intro ?_ ?_))) ?_
    refine Done.fold [(0, 2), (1, 3), (2, 4), (3, 5), (4, 6), (5, 7)] (sfO V' W R.length fly node b bd bk) (.p 0 0) (by (repeat' (first | exact trivial | exact rfl | exact trivial | exact fun _ => trivial | refine And.intro ?_ ?_))) rfl rfl (fun _ => rfl) ?_
    refine Done.weak 9 (φ' := sfB R fly node b bd bk) rfl (sfB_st _ _ _ _ _ _) (sfB_of hdr') ?_
    exact retM tysOk [(0, 9), (1, 1)] rfl (by repeat' (first | exact trivial | exact rfl | refine And.intro ?_ ?_)) (by repeat' (first | exact trivial | exact rfl | refine And.intro ?_ ?_)) rfl rfl
set_option maxRecDepth 100000 in
set_option maxHeartbeats 4000000 in
/-- A write that has ended. -/
theorem softDone0 (hs : lookH H s = some (true, .ab (sfP V W R.length fly node b bd bk))) (h : DR V W R) {n k : Int} (hg : gget n fly = some k) (hf : ofN R k 2 ≠ []) :
    FnH Tryz.prog 15 [.c (.nm s), .c (iT n), .c (.b true)] H nx ⟨.tup [.c (iT k), .c (iT 0)], [], [(s, some (.ab (sfB (setK k 0 R) (gdel n fly) node b bd bk)))], []⟩ := by
  refine fnAs (fn := Tryz.f15) 43 rfl rfl rfl (args' := [.c (.nm 0), .c (iT n), .c (.b true)]) [(s, sfP V W R.length fly node b bd bk, sfB (setK k 0 R) (gdel n fly) node b bd bk)] [] ⟨⟨hs, ptr b, sf_pins _ _ _ _ _ _ _ _, sfB_pins _ _ _ _ _ _⟩, trivial⟩ trivial (by simp) rfl rfl rfl rfl (v' := .tup [.c (iT k), .c (iT 0)]) (news' := []) rfl rfl rfl rfl rfl fun w Wh => ?_
  refine At.unfoldTo 0 (L1 := (0, .t (.c (.p 1 0))) :: [(1, .t (.c (iT n))), (2, .t (.c (.b true)))]) (H1 := [(1, some (true, .cells [.nm 2, .p 5 0, iT node, iT 0, .mp 4] 58)), (2, some (true, .ab (depP V (R.length : Nat) bd))), (3, some (true, .ab (frzP W))), (4, some (true, .mp (gm iV fly))), (5, some (false, .pin 5 bk)), (6, some (false, .pin 1 b)), (0, none), (0, some (true, .ab (sfP V W R.length fly node b bd bk)))]) (nx1 := 7) rfl rfl rfl rfl rfl rfl ?_
  have hlk := lkS n fly
  rw [hg] at hlk
  have hlk' : lkV (gm iV fly) n (.int .i64 0) true = (SV.tup [.c (iT k), .c (.b true)]).den e0 := hlk
  have hdn := fun (H : HL) (nx : Nat) (h2 : lookH H 2 = some (true, .ab (depP V R.length bd))) => doneP (nx := nx) h2 h k
  have e4 : dnE' R k = 0 := by rw [dnE', if_neg (fun e => hf (List.length_eq_zero_iff.1 e))]
  have hdr' := h.done k
  rw [e4] at hdn
  have hlen : (setK k 0 R).length = R.length := setK_len _ _ _
  have hdl := gm_del (vv := iV) n fly
  generalize dnV V k = V' at *
  refine rn [(15, .ret (.tup [.c (iT k), .c (.b true)])), (19, .dec false), (25, .dec true), (32, .spec ⟨.tup [.c (.nm 7), .c (iT 0)], [(true, .own 3 1 (ofN R k 2).length (ivs (ofN R k 2)))], [(2, some (.ab (depP V' R.length bd)))], []⟩)] rfl (by (repeat' (first | exact trivial | exact rfl | exact trivial | exact fun _ => trivial | first | exact hlk' | exact hdn _ _ rfl | rfl | decide | refine And.intro ?_ ?_))) ?_
  refine Done.fold [(0, 1), (1, 2), (2, 3), (3, 4), (4, 5), (5, 6)] (sfO V' W R.length (gdel n fly) node b bd bk) (.p 0 0) (by (repeat' (first | exact trivial | exact rfl | exact hdl | exact fun _ => hdl | refine And.intro ?_ ?_))) rfl rfl (fun _ => rfl) ?_
  refine Done.weak 8 (φ' := sfB (setK k 0 R) (gdel n fly) node b bd bk) rfl (sfB_st _ _ _ _ _ _) (fun v F w hh => sfB_of hdr' v F w (by rw [hlen]; exact hh)) ?_
  exact retM tysOk [(0, 8)] rfl (by repeat' (first | exact trivial | exact rfl | refine And.intro ?_ ?_)) (by repeat' (first | exact trivial | exact rfl | refine And.intro ?_ ?_)) rfl rfl
set_option maxRecDepth 100000 in
set_option maxHeartbeats 4000000 in
theorem softLost0 (hs : lookH H s = some (true, .ab (sfP V W R.length fly node b bd bk))) (h : DR V W R) {n k : Int} (hg : gget n fly = some k) (hf : ofN R k 2 ≠ []) :
    FnH Tryz.prog 15 [.c (.nm s), .c (iT n), .c (.b false)] H nx ⟨.tup [.c (iT k), .c (iT 0)], [], [(s, some (.ab (sfB (setK k 1 R) (gdel n fly) node b bd bk)))], []⟩ := by
  refine fnAs (fn := Tryz.f15) 43 rfl rfl rfl (args' := [.c (.nm 0), .c (iT n), .c (.b false)]) [(s, sfP V W R.length fly node b bd bk, sfB (setK k 1 R) (gdel n fly) node b bd bk)] [] ⟨⟨hs, ptr b, sf_pins _ _ _ _ _ _ _ _, sfB_pins _ _ _ _ _ _⟩, trivial⟩ trivial (by simp) rfl rfl rfl rfl (v' := .tup [.c (iT k), .c (iT 0)]) (news' := []) rfl rfl rfl rfl rfl fun w Wh => ?_
  refine At.unfoldTo 0 (L1 := (0, .t (.c (.p 1 0))) :: [(1, .t (.c (iT n))), (2, .t (.c (.b false)))]) (H1 := [(1, some (true, .cells [.nm 2, .p 5 0, iT node, iT 0, .mp 4] 58)), (2, some (true, .ab (depP V (R.length : Nat) bd))), (3, some (true, .ab (frzP W))), (4, some (true, .mp (gm iV fly))), (5, some (false, .pin 5 bk)), (6, some (false, .pin 1 b)), (0, none), (0, some (true, .ab (sfP V W R.length fly node b bd bk)))]) (nx1 := 7) rfl rfl rfl rfl rfl rfl ?_
  have hlk := lkS n fly
  rw [hg] at hlk
  have hlk' : lkV (gm iV fly) n (.int .i64 0) true = (SV.tup [.c (iT k), .c (.b true)]).den e0 := hlk
  have hdn := fun (H : HL) (nx : Nat) (h2 : lookH H 2 = some (true, .ab (depP V R.length bd))) => lostP (nx := nx) h2 h k
  have e4 : dnE' R k = 0 := by rw [dnE', if_neg (fun e => hf (List.length_eq_zero_iff.1 e))]
  have hdr' := h.lost k
  rw [e4] at hdn
  have hlen : (setK k 1 R).length = R.length := setK_len _ _ _
  have hdl := gm_del (vv := iV) n fly
  generalize setP V (ofI (chs V) k 2) 1 = V' at *
  refine rn [(15, .ret (.tup [.c (iT k), .c (.b true)])), (19, .dec false), (25, .dec false), (40, .spec ⟨.t (.c (iT 0)), [], [(2, some (.ab (depP V' R.length bd)))], []⟩)] rfl (by (repeat' (first | exact trivial | exact rfl | exact trivial | exact fun _ => trivial | first | exact hlk' | exact hdn _ _ rfl | rfl | decide | refine And.intro ?_ ?_))) ?_
  refine Done.fold [(0, 1), (1, 2), (2, 3), (3, 4), (4, 5), (5, 6)] (sfO V' W R.length (gdel n fly) node b bd bk) (.p 0 0) (by (repeat' (first | exact trivial | exact rfl | exact hdl | exact fun _ => hdl | refine And.intro ?_ ?_))) rfl rfl (fun _ => rfl) ?_
  refine Done.weak 7 (φ' := sfB (setK k 1 R) (gdel n fly) node b bd bk) rfl (sfB_st _ _ _ _ _ _) (fun v F w hh => sfB_of hdr' v F w (by rw [hlen]; exact hh)) ?_
  exact retM tysOk [(0, 7)] rfl (by repeat' (first | exact trivial | exact rfl | refine And.intro ?_ ?_)) (by repeat' (first | exact trivial | exact rfl | refine And.intro ?_ ?_)) rfl rfl
set_option maxRecDepth 100000 in
set_option maxHeartbeats 4000000 in
/-- The writes under way. -/
theorem softUnder0 (hs : lookH H s = some (true, .ab (sfP V W R.length fly node b bd bk))) (h : DR V W R) (hk : (fly.map Prod.fst).Pairwise (· < ·)) (hz : fly.length ≤ 100000) :
    FnH Tryz.prog 18 [.c (.nm s)] H nx ⟨.t (.c (.nm nx)), [(true, .own 3 1 fly.length (ivs (fly.map Prod.fst)))], [(s, some (.ab (sfB R fly node b bd bk)))], []⟩ := by
  refine fnAs (fn := Tryz.f18) 9 rfl rfl rfl (args' := [.c (.nm 0)]) [(s, sfP V W R.length fly node b bd bk, sfB R fly node b bd bk)] [] ⟨⟨hs, ptr b, sf_pins _ _ _ _ _ _ _ _, sfB_pins _ _ _ _ _ _⟩, trivial⟩ trivial (by simp) rfl rfl rfl rfl (v' := .t (.c (.nm 1))) (news' := [(true, .own 3 1 fly.length (ivs (fly.map Prod.fst)))]) rfl rfl rfl rfl rfl fun w Wh => ?_
  refine At.unfoldTo 0 (L1 := (0, .t (.c (.p 1 0))) :: []) (H1 := [(1, some (true, .cells [.nm 2, .p 5 0, iT node, iT 0, .mp 4] 58)), (2, some (true, .ab (depP V (R.length : Nat) bd))), (3, some (true, .ab (frzP W))), (4, some (true, .mp (gm iV fly))), (5, some (false, .pin 5 bk)), (6, some (false, .pin 1 b)), (0, none), (0, some (true, .ab (sfP V W R.length fly node b bd bk)))]) (nx1 := 7) rfl rfl rfl rfl rfl rfl ?_
  have hks : srtI ((gm iV fly).map Prod.fst) = fly.map Prod.fst := by rw [gm_fst, srtI_sorted hk]
  have hS := fun (H : HL) (nx : Nat) (h1 : lookH H 7 = some (true, .cells [.mp 4] 56)) (h2 : lookH H 4 = some (true, .mp (gm iV fly))) => by
    have := sortedSf (nx := nx) h1 h2 (by rw [gm_length]; omega)
    rw [hks, gm_length] at this
    exact this
  refine rn [(7, .spec ⟨.t (.c (.fn (.func 62) [(7, 0)])), [(true, .cells [.mp 4] 56)], [], []⟩), (8, .spec ⟨.t (.c (.nm 8)), [(true, .own 3 1 fly.length (ivs (fly.map Prod.fst)))], [], []⟩)] rfl (by (repeat' (first | exact trivial | exact rfl | exact keysSf | exact fun _ => keysSf | first | exact hS _ _ rfl rfl | rfl | refine And.intro ?_ ?_))) ?_
  refine Done.fold [(0, 1), (1, 2), (2, 3), (3, 4), (4, 5), (5, 6)] (sfO V W R.length fly node b bd bk) (.p 0 0) (by repeat' (first | exact trivial | exact rfl | refine And.intro ?_ ?_)) rfl rfl (fun _ => rfl) ?_
  refine Done.weak 9 (φ' := sfB R fly node b bd bk) rfl (sfB_st _ _ _ _ _ _) (sfB_of h) ?_
  exact retM tysOk [(0, 9), (1, 8)] rfl (by repeat' (first | exact trivial | exact rfl | refine And.intro ?_ ?_)) (by repeat' (first | exact trivial | exact rfl | refine And.intro ?_ ?_)) rfl rfl
set_option maxRecDepth 100000 in
set_option maxHeartbeats 4000000 in
/-- A change is added. -/
theorem softAdd0 (hs : lookH H s = some (true, .ab (sfP V W R.length fly node b bd bk))) (hd : lookH H d = some (true, .ab (dkP ⟨R, fly, last⟩ node bk))) (hsd : s ≠ d) (h : DR V W R) (ok : SOk ⟨R, fly, last⟩) (hR : R.length ≤ 500) {k o y : Int} {xs : List Int} (hq : lookH H q = some (b1, .own 3 1 xs.length (ivs xs))) (hqs : inL q [s, d] = false) (hk : 2 ≤ k ∧ k < 8) (ho : 0 ≤ o ∧ o < 64) (hx : ∀ n ∈ xs, 1 ≤ n ∧ n ≤ (R.length : Int)) (zx : xs.length ≤ 17592186043904) :
    FnH Tryz.prog 9 [.c (.nm s), .c (iT k), .agg [iT o, .s (bt1 y)], .c (.nm q)] H nx ⟨.tup [.c (iT ((R.length : Int) + 1)), .c (iT 0)], [], [(s, some (.ab (sfB (R ++ [sfC R k o y xs]) fly node b bd bk))), (d, some (.ab (dkP ⟨R ++ [sfC R k o y xs], fly, last⟩ node bk)))], []⟩ := by
  obtain ⟨_, w2, w3⟩ := SfOk.plus (node := node) ok (k := k) (o := o) (b := y) (xs := xs) hk ho hx
  have e6 : dkP ⟨R ++ [sfC R k o y xs], fly, last⟩ node bk = dkP ⟨R, fly, last⟩ node bk := by
    simp only [dkP]
    rw [show sOf (R ++ [sfC R k o y xs]) = sOf R from w3, show wOf node (R ++ [sfC R k o y xs]) fly = wOf node R fly from w2]
  rw [e6]
  refine fnAs (fn := Tryz.f9) 34 rfl rfl rfl (args' := [.c (.nm 0), .c (iT k), .agg [iT o, .s (bt1 y)], .c (.nm 2)]) [(s, sfP V W R.length fly node b bd bk, sfB (R ++ [sfC R k o y xs]) fly node b bd bk), (d, dkP ⟨R, fly, last⟩ node bk, dkP ⟨R, fly, last⟩ node bk)] [(q, .own 3 1 xs.length (ivs xs))] ⟨⟨hs, ptr b, sf_pins _ _ _ _ _ _ _ _, sfB_pins _ _ _ _ _ _⟩, ⟨hd, ptr bk, disk_pins _ _ _ _, disk_pins _ _ _ _⟩, trivial⟩ ⟨⟨⟨_, hq⟩, fun _ => rfl, hqs⟩, trivial⟩ (by simp [hsd]) rfl rfl rfl rfl (v' := .tup [.c (iT ((R.length : Int) + 1)), .c (iT 0)]) (news' := []) rfl rfl rfl rfl rfl fun w Wh => ?_
  refine At.unfoldTo 0 (L1 := [(0, .t (.c (.p 3 0))), (1, .t (.c (iT k))), (2, .t (.agg [iT o, .s (bt1 y)])), (3, .t (.c (.nm 2)))]) (H1 := [(3, some (true, .cells [.nm 4, .p 7 0, iT node, iT 0, .mp 6] 58)), (4, some (true, .ab (depP V (R.length : Nat) bd))), (5, some (true, .ab (frzP W))), (6, some (true, .mp (gm iV fly))), (7, some (false, .pin 7 bk)), (8, some (false, .pin 3 b)), (0, none), (0, some (true, .ab (sfP V W R.length fly node b bd bk))), (1, some (true, .ab (dkP ⟨R, fly, last⟩ node bk))), (2, some (false, .own 3 1 xs.length (ivs xs)))]) (nx1 := 9) rfl rfl rfl rfl rfl rfl ?_
  have hr := fun (H : HL) (nx : Nat) (h1 : lookH H 1 = some (true, .ab (dkP ⟨R, fly, last⟩ node bk))) (h6 : lookH H 7 = some (false, .pin 7 bk)) => fnh_al1 h1 (disk_pins _ _ _ _) h6 (readA (nx := nx) h1 k)
  simp only [rd_of R hk, rdE_of R (k := k) (by omega)] at hr
  have hVl := h.le
  have hab : adB R.length k o (bt1 y) V.length xs = 0 := adB_zero (by omega) ho hx (by omega)
  have hadd := fun (H : HL) (nx : Nat) (h4 : lookH H 4 = some (true, .ab (depP V R.length bd))) (h2 : lookH H 2 = some (false, .own 3 1 xs.length (ivs xs))) => addP (nx := nx) h4 (SlQ.own h2 h4 (by decide)) (by omega) (by rw [bt1_size]; decide) h hab
  refine rn [(18, .spec ⟨.tup [.c (.s (S (dkB R k))), .c (iT 0)], [], [(1, some (.ab (dkP ⟨R, fly, last⟩ node bk)))], []⟩), (22, .dec false), (31, .spec ⟨.tup [.c (iT ((R.length : Int) + 1)), .c (iT 0)], [], [(4, some (.ab (adP V R.length bd (newC (und R) R.length k (o, bt1 y) xs))))], []⟩)] rfl (by (repeat' (first | exact trivial | exact rfl | exact trivial | exact fun _ => trivial | first | exact hr _ _ rfl rfl | exact hadd _ _ rfl rfl | rfl | decide | refine And.intro ?_ ?_))) ?_
  refine Done.growP 4 5 rfl rfl (by decide) h hab (by omega) (by rw [bt1_size]; decide) (by omega) rfl fun V' W' hdr' => ?_
  refine Done.fold [(0, 3), (1, 4), (2, 5), (3, 6), (4, 7), (5, 8)] (sfO V' W' (R ++ [sfC R k o y xs]).length fly node b bd bk) (.p 0 0) (by repeat' (first | exact trivial | exact rfl | refine And.intro ?_ ?_)) rfl rfl (fun _ => rfl) ?_
  refine Done.weak 10 (φ' := sfB (R ++ [sfC R k o y xs]) fly node b bd bk) rfl (sfB_st _ _ _ _ _ _) (sfB_of hdr') ?_
  exact retM tysOk [(0, 10), (1, 1)] rfl (by repeat' (first | exact trivial | exact rfl | refine And.intro ?_ ?_)) (by repeat' (first | exact trivial | exact rfl | refine And.intro ?_ ?_)) rfl rfl
end
end Cw
namespace Cw
open Go Vc
open Go.Proofs
set_option maxRecDepth 100000
/-- What the disk has of a sector, and what is seen of it. -/
def dkT (R : List Ch) (k : Int) : ByteArray := if k = 1 then wallB 0 0 else S (dkB R k)
def snT (R : List Ch) (k : Int) : ByteArray := if k = 1 then wallB 0 0 else S (alB R k)
theorem rdT_of (R : List Ch) {k : Int} (h : 0 ≤ k ∧ k < 8) : rdT (sOf R) k = dkT R k := by
  have h0 : inS (sOf R).length k = true := inS_iff.2 (by rw [sOf_len]; omega)
  have hl : k.toNat < (sOf R).length := by rw [sOf_len]; omega
  rw [rdT, if_pos h0, List.getD_eq_getElem?_getD, List.getElem?_eq_getElem hl, Option.getD_some, sOf_at, dkT]
  by_cases h1 : k = 1
  · rw [if_pos h1, if_pos (by omega)]
  · rw [if_neg h1, if_neg (by omega), Int.toNat_of_nonneg h.1]
theorem dkT_size (R : List Ch) (k : Int) : (dkT R k).size = 64 := by
  unfold dkT
  split
  · exact wallB_size 0 0
  · exact sz_S (dkB_len _ _)
theorem SfOk.sn {R : List Ch} {fly : List (Int × Int)} {last : Int} (h : SfOk R fly last) (hl : R.length ≤ 1000) (k : Int) : pt (dkT R k) (vwP R k) = snT R k ∧ pte (dkT R k) (vwP R k) = 0 := by
  unfold dkT snT
  by_cases h1 : k = 1
  · rw [if_pos h1, if_pos h1]
    have h0 : vwP R k = [] := by
      rw [vwP, List.map_eq_nil_iff, List.filter_eq_nil_iff]
      intro c hc
      have := h.two c hc
      simp
      omega
    have he : pte (wallB 0 0) [] = 0 := by rw [pte, if_neg (by rw [wallB_size]; decide)]; rfl
    rw [h0, pt, he]
    exact ⟨by rw [if_pos rfl]; rfl, rfl⟩
  · rw [if_neg h1, if_neg h1]; exact h.seen hl
theorem snT_all {R R' : List Ch} (h : ∀ k, alB R' k = alB R k) (k : Int) : snT R' k = snT R k := by rw [snT, snT, h]
theorem dkT_done {R : List Ch} (h : und R = []) (k : Int) : dkT R k = snT R k := by rw [dkT, snT, all_done h]
/-- A write that is dropped. -/
def ls1 (x : SS) (n k : Int) : SS := ⟨setK k 1 x.R, gdel n x.fly, x.last⟩
theorem SOk.l1 {x : SS} (h : SOk x) {n k : Int} (hn : (n, k) ∈ x.fly) : SOk (ls1 x n k) := (SfOk.lost (node := 0) h hn).1
section
variable {H : HL} {nx d s q b bd bk : Nat} {b1 : Bool} {V : DV} {W : List (List Int × Option Addr × Nat)} {R : List Ch} {fly : List (Int × Int)} {last node : Int}
theorem softRead (hs : lookH H s = some (true, .ab (sfB R fly node b bd bk))) (hd : lookH H d = some (true, .ab (dkP ⟨R, fly, last⟩ node bk))) (hsd : s ≠ d) (ok : SOk ⟨R, fly, last⟩) (hR : R.length ≤ 1000) {k : Int} (hk : 0 ≤ k ∧ k < 8) :
    FnH Tryz.prog 12 [.c (.nm s), .c (iT k)] H nx ⟨.tup [.c (.s (snT R k)), .c (iT 0)], [], [(s, some (.ab (sfB R fly node b bd bk))), (d, some (.ab (dkP ⟨R, fly, last⟩ node bk)))], []⟩ :=
  fnh_ex2 hs (fun _ => absP_stable _ _) fun x => softRead0 look_eq ((look_ne hsd).trans hd) hsd x.2 hk (rdT_of R hk) (by rw [dkT_size]; decide) (SfOk.sn ok hR k)
theorem softWrite (hs : lookH H s = some (true, .ab (sfB R fly node b bd bk))) (hd : lookH H d = some (true, .ab (dkP ⟨R, fly, last⟩ node bk))) (hsd : s ≠ d) (ok : SOk ⟨R, fly, last⟩) (hl : last ≤ 1000000) (hR : R.length ≤ 500) (hn : node = 0 ∨ node = 1) {k : Int} (hk : 2 ≤ k ∧ k < 8) :
    FnH Tryz.prog 21 [.c (.nm s), .c (iT k)] H nx ⟨.tup [.c (iT (wr1N ⟨R, fly, last⟩ k)), .c (iT (sdE' R k))], [], [(s, some (.ab (sfB (wr1 ⟨R, fly, last⟩ k).R (wr1 ⟨R, fly, last⟩ k).fly node b bd bk))), (d, some (.ab (dkP (wr1 ⟨R, fly, last⟩ k) node bk)))], []⟩ :=
  fnh_ex2 hs (fun _ => absP_stable _ _) fun x => softWrite0 look_eq ((look_ne hsd).trans hd) hsd x.2 ok hl hR hn hk rfl
theorem softDone (hs : lookH H s = some (true, .ab (sfB R fly node b bd bk))) {n k : Int} (hg : gget n fly = some k) (hf : ofN R k 2 ≠ []) :
    FnH Tryz.prog 15 [.c (.nm s), .c (iT n), .c (.b true)] H nx ⟨.tup [.c (iT k), .c (iT 0)], [], [(s, some (.ab (sfB (setK k 0 R) (gdel n fly) node b bd bk)))], []⟩ :=
  fnh_ex2 hs (fun _ => absP_stable _ _) fun x => softDone0 look_eq x.2 hg hf
theorem softLost (hs : lookH H s = some (true, .ab (sfB R fly node b bd bk))) {n k : Int} (hg : gget n fly = some k) (hf : ofN R k 2 ≠ []) :
    FnH Tryz.prog 15 [.c (.nm s), .c (iT n), .c (.b false)] H nx ⟨.tup [.c (iT k), .c (iT 0)], [], [(s, some (.ab (sfB (setK k 1 R) (gdel n fly) node b bd bk)))], []⟩ :=
  fnh_ex2 hs (fun _ => absP_stable _ _) fun x => softLost0 look_eq x.2 hg hf
theorem softUnder (hs : lookH H s = some (true, .ab (sfB R fly node b bd bk))) (hk : (fly.map Prod.fst).Pairwise (· < ·)) (hz : fly.length ≤ 100000) :
    FnH Tryz.prog 18 [.c (.nm s)] H nx ⟨.t (.c (.nm nx)), [(true, .own 3 1 fly.length (ivs (fly.map Prod.fst)))], [(s, some (.ab (sfB R fly node b bd bk)))], []⟩ :=
  fnh_ex2 hs (fun _ => absP_stable _ _) fun x => softUnder0 look_eq x.2 hk hz
theorem softAdd (hs : lookH H s = some (true, .ab (sfB R fly node b bd bk))) (hd : lookH H d = some (true, .ab (dkP ⟨R, fly, last⟩ node bk))) (hsd : s ≠ d) (hsq : s ≠ q) (ok : SOk ⟨R, fly, last⟩) (hR : R.length ≤ 500) {k o y : Int} {xs : List Int} (hq : lookH H q = some (b1, .own 3 1 xs.length (ivs xs))) (hqs : inL q [s, d] = false) (hk : 2 ≤ k ∧ k < 8) (ho : 0 ≤ o ∧ o < 64) (hx : ∀ n ∈ xs, 1 ≤ n ∧ n ≤ (R.length : Int)) (zx : xs.length ≤ 17592186043904) :
    FnH Tryz.prog 9 [.c (.nm s), .c (iT k), .agg [iT o, .s (bt1 y)], .c (.nm q)] H nx ⟨.tup [.c (iT ((R.length : Int) + 1)), .c (iT 0)], [], [(s, some (.ab (sfB (R ++ [sfC R k o y xs]) fly node b bd bk))), (d, some (.ab (dkP ⟨R ++ [sfC R k o y xs], fly, last⟩ node bk)))], []⟩ :=
  fnh_ex2 hs (fun _ => absP_stable _ _) fun x => softAdd0 look_eq ((look_ne hsd).trans hd) hsd x.2 ok hR ((look_ne hsq).trans hq) hqs hk ho hx zx
/-- The disk does a write of the side's. -/
theorem diskDone {x : SS} (hd : lookH H d = some (true, .ab (dkP x node bk))) (ok : SOk x) {n k : Int} (hn : (n, k) ∈ x.fly) (hnd : node = 0 ∨ node = 1) :
    FnH Tryz.prog 14 [.c (.nm d), .c (iT n)] H nx ⟨.tup [.c (.b true), .c (iT 0)], [], [(d, some (.ab (dkP (dn1 x n k) node bk)))], []⟩ := by
  have hA := applyD (nx := nx) hd (SfOk.disk (node := node) ok) n
  have hw := wget_of (node := node) (R := x.R) (gget_of ok.key hn)
  obtain ⟨_, e2, e3⟩ := SfOk.done (node := node) ok hn
  have p0 : psD (s1 (sOf x.R)) node 0 = true := by
    rw [s1_of, psD_wall (by decide) (by decide) node 0 hnd]
    rcases hnd with rfl | rfl <;> rfl
  have a1 : apB (sOf x.R) (wOf node x.R x.fly) n = true := by simp only [apB, hw]; exact p0
  have a2 : apS (sOf x.R) (wOf node x.R x.fly) n = sOf (setK k 0 x.R) := by
    rw [e3]
    simp only [apS, hw, p0, if_true]
  have a3 : drE (wOf node x.R x.fly) n = 0 := by rw [drE, hw]; rfl
  rw [a1, a2, a3, wdel_of, ← e2] at hA
  exact hA
/-- The disk drops one. -/
theorem diskLost {x : SS} (hd : lookH H d = some (true, .ab (dkP x node bk))) (ok : SOk x) {n k : Int} (hn : (n, k) ∈ x.fly) :
    FnH Tryz.prog 25 [.c (.nm d), .c (iT n)] H nx ⟨.t (.c (iT 0)), [], [(d, some (.ab (dkP (ls1 x n k) node bk)))], []⟩ := by
  have hA := dropA (nx := nx) hd n
  have hw := wget_of (node := node) (R := x.R) (gget_of ok.key hn)
  obtain ⟨_, e2, e3⟩ := SfOk.lost (node := node) ok hn
  have a3 : drE (wOf node x.R x.fly) n = 0 := by rw [drE, hw]; rfl
  rw [a3, wdel_of, ← e2, ← e3] at hA
  exact hA
set_option maxRecDepth 100000 in
set_option maxHeartbeats 4000000 in
/-- All is written out that may be. -/
theorem softWriteAll0 (hs : lookH H s = some (true, .ab (sfP V W R.length fly node b bd bk))) (hd : lookH H d = some (true, .ab (dkP ⟨R, fly, last⟩ node bk))) (hsd : s ≠ d) (h : DR V W R) (ok : SOk ⟨R, fly, last⟩) (hl : last ≤ 100000) (hR : R.length ≤ 500) (hn : node = 0 ∨ node = 1) {x' : SS} (hx : wrA ⟨R, fly, last⟩ (secs (und R)) = x') {out : List Int} (ho : woA ⟨R, fly, last⟩ (secs (und R)) = out) :
    FnH Tryz.prog 13 [.c (.nm s)] H nx ⟨.t (.c (.nm nx)), [(true, .own 3 1 out.length (ivs out))], [(s, some (.ab (sfB x'.R x'.fly node b bd bk))), (d, some (.ab (dkP x' node bk)))], []⟩ := by
  refine fnAs (fn := Tryz.f13) 32 rfl rfl rfl (args' := [.c (.nm 0)]) [(s, sfP V W R.length fly node b bd bk, sfB x'.R x'.fly node b bd bk), (d, dkP ⟨R, fly, last⟩ node bk, dkP x' node bk)] [] ⟨⟨hs, ptr b, sf_pins _ _ _ _ _ _ _ _, sfB_pins _ _ _ _ _ _⟩, ⟨hd, ptr bk, disk_pins _ _ _ _, disk_pins _ _ _ _⟩, trivial⟩ trivial (by simp [hsd]) rfl rfl rfl rfl (v' := .t (.c (.nm 2))) (news' := [(true, .own 3 1 out.length (ivs out))]) rfl rfl rfl rfl rfl fun w Wh => ?_
  have hin := secs_in (x := ⟨R, fly, last⟩) ok
  have hsl := secs_le (x := ⟨R, fly, last⟩)
  have hsc := fun (H : HL) (nx : Nat) (h3 : lookH H 3 = some (true, .ab (depP V R.length bd))) (h4 : lookH H 4 = some (true, .ab (frzP W))) => sectorsP (nx := nx) h3 h4 (by decide) h
  simp only at hin hsl
  generalize secs (und R) = ks at *
  refine At.unfoldTo 0 (L1 := (0, .t (.c (.p 2 0))) :: []) (H1 := [(2, some (true, .cells [.nm 3, .p 6 0, iT node, iT 0, .mp 5] 58)), (3, some (true, .ab (depP V (R.length : Nat) bd))), (4, some (true, .ab (frzP W))), (5, some (true, .mp (gm iV fly))), (6, some (false, .pin 6 bk)), (7, some (false, .pin 2 b)), (0, none), (0, some (true, .ab (sfP V W R.length fly node b bd bk))), (1, some (true, .ab (dkP ⟨R, fly, last⟩ node bk)))]) (nx1 := 8) rfl rfl rfl rfl rfl rfl ?_
  refine rn [(12, .spec ⟨.t (.c (.nm 8)), [(true, .own 3 1 ks.length (ivs ks))], [(3, some (.ab (depP V R.length bd)))], []⟩)] rfl (by (repeat' (first | exact trivial | exact rfl | exact trivial | exact fun _ => trivial | first | exact hsc _ _ rfl rfl | rfl | decide | refine And.intro ?_ ?_))) ?_
  refine At.foldR 0 (.p 2 0) [(0, 2), (1, 3), (2, 4), (3, 5), (4, 6), (5, 7)] (sfO V W R.length fly node b bd bk) (.p 0 0) rfl (by repeat' (first | exact trivial | exact rfl | refine And.intro ?_ ?_)) (by repeat' (first | exact trivial | exact rfl | refine And.intro ?_ ?_)) rfl rfl (fun _ => rfl) ?_
  refine At.weak 9 (φ' := sfB R fly node b bd bk) rfl (sfB_st _ _ _ _ _ _) (sfB_of h) ?_
  refine At.nil 3 3 1 rfl ?_
  refine At.loop (X := (i : Nat) ×' (i ≤ ks.length)) 11 (fun x => ks.length - x.1)
    (fun x => [(0, .t (.c (.nm 9))), (3, .t (.c (.nm 10))), (12, .t (.c (.nm 8))), (13, .t (.c (iT (ks.length : Nat)))), (14, .t (.c (iT (x.1 : Nat))))])
    (fun x => [(1, some (true, .ab (dkP (wrA ⟨R, fly, last⟩ (ks.take x.1)) node bk))), (8, some (true, .own 3 1 ks.length (ivs ks))), (9, some (true, .ab (sfB (wrA ⟨R, fly, last⟩ (ks.take x.1)).R (wrA ⟨R, fly, last⟩ (ks.take x.1)).fly node b bd bk))), (10, some (true, .own 3 1 (woA ⟨R, fly, last⟩ (ks.take x.1)).length (ivs (woA ⟨R, fly, last⟩ (ks.take x.1)))))]) ⟨0, by omega⟩ [] (fun x => wf rfl rfl) (by repeat' (first | exact trivial | exact rfl | refine And.intro ?_ ?_)) (by (repeat' (first | exact trivial | exact rfl | exact trivial | exact fun _ => trivial | first | rfl | (show _ = ivs (woA ⟨R, fly, last⟩ []); simp [woA, wrA, ivs]) | (show _ = (woA ⟨R, fly, last⟩ []).length; simp [woA, wrA]) | refine And.intro ?_ ?_))) rfl fun x => ?_
  obtain ⟨i, hi⟩ := x
  have w3 : IntKind.i64.wrap ((i : Int) + 1) = ((i + 1 : Nat) : Int) := by rw [wrap_sm (by omega) (by omega)]; omega
  have oki : SOk (wrA ⟨R, fly, last⟩ (ks.take i)) := SOk.wA (x := ⟨R, fly, last⟩) ok _
  have hli := wrA_last (ks.take i) ⟨R, fly, last⟩
  have hRi := wrA_len (ks.take i) ⟨R, fly, last⟩
  have hoi := woA_le ⟨R, fly, last⟩ (ks.take i)
  rw [List.length_take] at hli hoi
  refine rn [] rfl (by repeat' (first | exact trivial | exact rfl | refine And.intro ?_ ?_)) ?_
  refine ⟨fun h => ?_, fun h => ?_⟩
  · have hlt : i < ks.length := by have : (i : Int) < (ks.length : Int) := of_decide_eq_true h; omega
    clear h
    have e1 : (ivs ks)[(i : Int).toNat * 1]? = some (.int .i64 ks[i]) := by simpa using ivs_at hlt
    have b0 : (0 : Int) ≤ (i : Int) := by omega
    have b1 : (i : Int) < (ks.length : Int) := by omega
    have ht : ks.take (i + 1) = ks.take i ++ [ks[i]] := List.take_succ_eq_append_getElem hlt
    have hw2 : wrA ⟨R, fly, last⟩ (ks.take (i + 1)) = wr1 (wrA ⟨R, fly, last⟩ (ks.take i)) ks[i] := by rw [ht, wrA_snoc]
    have ho2 := woA_snoc ⟨R, fly, last⟩ (ks.take i) ks[i]
    rw [← ht] at ho2
    have hki := hin _ (List.getElem_mem hlt)
    have hyl : (wrA ⟨R, fly, last⟩ (ks.take i)).last ≤ 1000000 := by simp only at hli; omega
    have hyR : (wrA ⟨R, fly, last⟩ (ks.take i)).R.length ≤ 500 := by rw [hRi]; exact hR
    have hwr := fun (H : HL) (nx : Nat) (h9 : lookH H 9 = some (true, .ab (sfB (wrA ⟨R, fly, last⟩ (ks.take i)).R (wrA ⟨R, fly, last⟩ (ks.take i)).fly node b bd bk))) (h1 : lookH H 1 = some (true, .ab (dkP (wrA ⟨R, fly, last⟩ (ks.take i)) node bk))) => softWrite (nx := nx) (R := (wrA ⟨R, fly, last⟩ (ks.take i)).R) (fly := (wrA ⟨R, fly, last⟩ (ks.take i)).fly) (last := (wrA ⟨R, fly, last⟩ (ks.take i)).last) h9 h1 (by decide) oki hyl hyR hn hki
    generalize hy : wrA ⟨R, fly, last⟩ (ks.take i) = y at *
    obtain ⟨yR, yf, yl⟩ := y
    generalize woA ⟨R, fly, last⟩ (ks.take i) = w0 at *
    have m1 : w0.length + 1 ≤ maxLen := by simp only [maxLen]; omega
    have m2 : (w0.length + 1) * 8 ≤ 140737488355328 := by omega
    by_cases hc : wrC ⟨yR, yf, yl⟩ ks[i]
    · rw [if_pos hc] at ho2
      have e2 : sdE' yR ks[i] = 0 := sdE_yes hc
      have e3 : wr1N ⟨yR, yf, yl⟩ ks[i] = yl + 1 := if_pos hc
      rw [e2, e3] at hwr
      refine rn [(17, .ld [iT ks[i]]), (21, .spec ⟨.tup [.c (iT (yl + 1)), .c (iT 0)], [], [(9, some (.ab (sfB (wr1 ⟨yR, yf, yl⟩ ks[i]).R (wr1 ⟨yR, yf, yl⟩ ks[i]).fly node b bd bk))), (1, some (.ab (dkP (wr1 ⟨yR, yf, yl⟩ ks[i]) node bk)))], []⟩), (25, .dec true)] rfl (by (repeat' (first | exact trivial | exact rfl | exact trivial | exact fun _ => trivial | first | exact hwr _ _ rfl rfl | exact e1 | exact ⟨e1, trivial⟩ | exact b0 | exact b1 | exact m1 | exact m2 | rfl | decide | refine And.intro ?_ ?_))) ?_
      refine roundEnd ⟨i + 1, by omega⟩ [(10, 12)] (by show ks.length - (i + 1) < ks.length - i; omega) (by (repeat' (first | exact trivial | exact rfl | exact w3 | exact fun _ => w3 | refine And.intro ?_ ?_))) ?_ rfl
      rw [hw2, ho2]
      repeat' (first | exact trivial | exact rfl | refine And.intro ?_ ?_)
      · simp
      · rw [ivsApp, app_eq]; rfl
    · rw [if_neg hc] at ho2
      have e4 : decide (sdE' yR ks[i] = 0) = false := by rcases sdE_no hc with e | e <;> (show decide (sdE' yR ks[i] = 0) = false) <;> (have e' : sdE' yR ks[i] = _ := e) <;> rw [e'] <;> rfl
      have e5 : (sdE' yR ks[i] == 0) = false := by rcases sdE_no hc with e | e <;> (have e' : sdE' yR ks[i] = _ := e) <;> rw [e'] <;> rfl
      refine rn [(17, .ld [iT ks[i]]), (21, .spec ⟨.tup [.c (iT (wr1N ⟨yR, yf, yl⟩ ks[i])), .c (iT (sdE' yR ks[i]))], [], [(9, some (.ab (sfB (wr1 ⟨yR, yf, yl⟩ ks[i]).R (wr1 ⟨yR, yf, yl⟩ ks[i]).fly node b bd bk))), (1, some (.ab (dkP (wr1 ⟨yR, yf, yl⟩ ks[i]) node bk)))], []⟩), (25, .dec false)] rfl (by (repeat' (first | exact trivial | exact rfl | exact trivial | exact fun _ => trivial | first | exact hwr _ _ rfl rfl | exact e1 | exact ⟨e1, trivial⟩ | exact b0 | exact b1 | exact e4 | exact e5 | rfl | decide | refine And.intro ?_ ?_))) ?_
      refine roundEnd ⟨i + 1, by omega⟩ [] (by show ks.length - (i + 1) < ks.length - i; omega) (by (repeat' (first | exact trivial | exact rfl | exact w3 | exact fun _ => w3 | refine And.intro ?_ ?_))) ?_ rfl
      rw [hw2, ho2]
      repeat' (first | exact trivial | exact rfl | refine And.intro ?_ ?_)
  · have hlt : i = ks.length := by have : ¬ (i : Int) < (ks.length : Int) := of_decide_eq_false h; omega
    have ht : ks.take i = ks := by rw [hlt, List.take_length]
    rw [ht, hx, ho]
    refine rn [] rfl (by repeat' (first | exact trivial | exact rfl | refine And.intro ?_ ?_)) (roundExit rfl ?_)
    refine rnA [] rfl (by repeat' (first | exact trivial | exact rfl | refine And.intro ?_ ?_)) ?_
    exact retM tysOk [(0, 9), (1, 1), (2, 10)] rfl (by repeat' (first | exact trivial | exact rfl | refine And.intro ?_ ?_)) (by repeat' (first | exact trivial | exact rfl | refine And.intro ?_ ?_)) rfl rfl
theorem softWriteAll (hs : lookH H s = some (true, .ab (sfB R fly node b bd bk))) (hd : lookH H d = some (true, .ab (dkP ⟨R, fly, last⟩ node bk))) (hsd : s ≠ d) (ok : SOk ⟨R, fly, last⟩) (hl : last ≤ 100000) (hR : R.length ≤ 500) (hn : node = 0 ∨ node = 1) :
    FnH Tryz.prog 13 [.c (.nm s)] H nx ⟨.t (.c (.nm nx)), [(true, .own 3 1 (woA ⟨R, fly, last⟩ (secs (und R))).length (ivs (woA ⟨R, fly, last⟩ (secs (und R)))))], [(s, some (.ab (sfB (wrA ⟨R, fly, last⟩ (secs (und R))).R (wrA ⟨R, fly, last⟩ (secs (und R))).fly node b bd bk))), (d, some (.ab (dkP (wrA ⟨R, fly, last⟩ (secs (und R))) node bk)))], []⟩ :=
  fnh_ex2 hs (fun _ => absP_stable _ _) fun x => softWriteAll0 look_eq ((look_ne hsd).trans hd) hsd x.2 ok hl hR hn rfl rfl
set_option maxRecDepth 100000 in
set_option maxHeartbeats 4000000 in
/-- A change with none told ahead. -/
theorem softAddN0 (hs : lookH H s = some (true, .ab (sfP V W R.length fly node b bd bk))) (hd : lookH H d = some (true, .ab (dkP ⟨R, fly, last⟩ node bk))) (hsd : s ≠ d) (h : DR V W R) (ok : SOk ⟨R, fly, last⟩) (hR : R.length ≤ 500) {k o y : Int} (hk : 2 ≤ k ∧ k < 8) (ho : 0 ≤ o ∧ o < 64) :
    FnH Tryz.prog 9 [.c (.nm s), .c (iT k), .agg [iT o, .s (bt1 y)], .c .nsl] H nx ⟨.tup [.c (iT ((R.length : Int) + 1)), .c (iT 0)], [], [(s, some (.ab (sfB (R ++ [sfC R k o y []]) fly node b bd bk))), (d, some (.ab (dkP ⟨R ++ [sfC R k o y []], fly, last⟩ node bk)))], []⟩ := by
  obtain ⟨_, w2, w3⟩ := SfOk.plus (node := node) ok (k := k) (o := o) (b := y) (xs := []) hk ho (by simp)
  have e6 : dkP ⟨R ++ [sfC R k o y []], fly, last⟩ node bk = dkP ⟨R, fly, last⟩ node bk := by
    simp only [dkP]
    rw [show sOf (R ++ [sfC R k o y []]) = sOf R from w3, show wOf node (R ++ [sfC R k o y []]) fly = wOf node R fly from w2]
  rw [e6]
  refine fnAs (fn := Tryz.f9) 34 rfl rfl rfl (args' := [.c (.nm 0), .c (iT k), .agg [iT o, .s (bt1 y)], .c .nsl]) [(s, sfP V W R.length fly node b bd bk, sfB (R ++ [sfC R k o y []]) fly node b bd bk), (d, dkP ⟨R, fly, last⟩ node bk, dkP ⟨R, fly, last⟩ node bk)] [] ⟨⟨hs, ptr b, sf_pins _ _ _ _ _ _ _ _, sfB_pins _ _ _ _ _ _⟩, ⟨hd, ptr bk, disk_pins _ _ _ _, disk_pins _ _ _ _⟩, trivial⟩ trivial (by simp [hsd]) rfl rfl rfl rfl (v' := .tup [.c (iT ((R.length : Int) + 1)), .c (iT 0)]) (news' := []) rfl rfl rfl rfl rfl fun w Wh => ?_
  refine At.unfoldTo 0 (L1 := (0, .t (.c (.p 2 0))) :: [(1, .t (.c (iT k))), (2, .t (.agg [iT o, .s (bt1 y)])), (3, .t (.c .nsl))]) (H1 := [(2, some (true, .cells [.nm 3, .p 6 0, iT node, iT 0, .mp 5] 58)), (3, some (true, .ab (depP V (R.length : Nat) bd))), (4, some (true, .ab (frzP W))), (5, some (true, .mp (gm iV fly))), (6, some (false, .pin 6 bk)), (7, some (false, .pin 2 b)), (0, none), (0, some (true, .ab (sfP V W R.length fly node b bd bk))), (1, some (true, .ab (dkP ⟨R, fly, last⟩ node bk)))]) (nx1 := 8) rfl rfl rfl rfl rfl rfl ?_
  have hr := fun (H : HL) (nx : Nat) (h1 : lookH H 1 = some (true, .ab (dkP ⟨R, fly, last⟩ node bk))) (h6 : lookH H 6 = some (false, .pin 6 bk)) => fnh_al1 h1 (disk_pins _ _ _ _) h6 (readA (nx := nx) h1 k)
  simp only [rd_of R hk, rdE_of R (k := k) (by omega)] at hr
  have hVl := h.le
  have hab : adB R.length k o (bt1 y) V.length [] = 0 := adB_zero (by omega) ho (by simp) (by omega)
  have hadd := fun (H : HL) (nx : Nat) (h3 : lookH H 3 = some (true, .ab (depP V R.length bd))) => addP (nx := nx) h3 SlQ.nil (by simp only [List.length_nil]; omega) (by rw [bt1_size]; decide) h hab
  refine rn [(18, .spec ⟨.tup [.c (.s (S (dkB R k))), .c (iT 0)], [], [(1, some (.ab (dkP ⟨R, fly, last⟩ node bk)))], []⟩), (22, .dec false), (31, .spec ⟨.tup [.c (iT ((R.length : Int) + 1)), .c (iT 0)], [], [(3, some (.ab (adP V R.length bd (newC (und R) R.length k (o, bt1 y) []))))], []⟩)] rfl (by (repeat' (first | exact trivial | exact rfl | exact trivial | exact fun _ => trivial | first | exact hr _ _ rfl rfl | exact hadd _ _ rfl | rfl | decide | refine And.intro ?_ ?_))) ?_
  refine Done.growP 3 4 rfl rfl (by decide) h hab (by simp only [List.length_nil]; omega) (by rw [bt1_size]; decide) (by omega) rfl fun V' W' hdr' => ?_
  refine Done.fold [(0, 2), (1, 3), (2, 4), (3, 5), (4, 6), (5, 7)] (sfO V' W' (R ++ [sfC R k o y []]).length fly node b bd bk) (.p 0 0) (by repeat' (first | exact trivial | exact rfl | refine And.intro ?_ ?_)) rfl rfl (fun _ => rfl) ?_
  refine Done.weak 9 (φ' := sfB (R ++ [sfC R k o y []]) fly node b bd bk) rfl (sfB_st _ _ _ _ _ _) (sfB_of hdr') ?_
  exact retM tysOk [(0, 9), (1, 1)] rfl (by repeat' (first | exact trivial | exact rfl | refine And.intro ?_ ?_)) (by repeat' (first | exact trivial | exact rfl | refine And.intro ?_ ?_)) rfl rfl
theorem softAddN (hs : lookH H s = some (true, .ab (sfB R fly node b bd bk))) (hd : lookH H d = some (true, .ab (dkP ⟨R, fly, last⟩ node bk))) (hsd : s ≠ d) (ok : SOk ⟨R, fly, last⟩) (hR : R.length ≤ 500) {k o y : Int} (hk : 2 ≤ k ∧ k < 8) (ho : 0 ≤ o ∧ o < 64) :
    FnH Tryz.prog 9 [.c (.nm s), .c (iT k), .agg [iT o, .s (bt1 y)], .c .nsl] H nx ⟨.tup [.c (iT ((R.length : Int) + 1)), .c (iT 0)], [], [(s, some (.ab (sfB (R ++ [sfC R k o y []]) fly node b bd bk))), (d, some (.ab (dkP ⟨R ++ [sfC R k o y []], fly, last⟩ node bk)))], []⟩ :=
  fnh_ex2 hs (fun _ => absP_stable _ _) fun x => softAddN0 look_eq ((look_ne hsd).trans hd) hsd x.2 ok hR hk ho
end
/-- A new disk. -/
def dkX (node : Int) : AbP := exP fun bk => dkP ⟨[], [], 0⟩ node bk
theorem newS (node : Int) {H : HL} {nx : Nat} : FnH Tryz.prog 5 [.c (iT 8)] H nx ⟨.tup [.c (.nm nx), .c (iT 0)], [(true, .ab (dkX node))], [], []⟩ := by
  have := newA (H := H) (nx := nx) (n := 8) (by decide) (by decide)
  rw [sOf_nil] at this
  exact this
theorem nilDkX {H : HL} {nx d : Nat} {node : Int} {b1 : Bool} (hd : lookH H d = some (b1, .ab (dkX node))) {Lc : LL} {o : Oper} {x y : Operand} (hop : o.op = .binOp .eql 24 x y 24) (hx : ev Lc x = some (.c (.nm d))) (hy : ev Lc y = some (.c .np)) : Spec Tryz.prog Lc H nx o ⟨.t (.c (.b false)), [], [], []⟩ :=
  spec_nil tysOk hop hx hy rfl rfl hd (NotNil.ex fun b => disk_pins _ _ _ _)
def wk1 : SS := ⟨[] ++ [sfC [] 5 0 120 []], [], 0⟩
def wk2 : SS := wr1 wk1 5
def wk3 : SS := dn1 wk2 1 5
theorem wk1_ok : SOk wk1 := (SfOk.plus (node := 0) SfOk.nil (k := 5) (o := 0) (b := 120) (xs := []) (by omega) (by omega) (by simp)).1
theorem wk_c : wrC wk1 5 := ⟨rfl, fun h => by have e : rdyN wk1.R 5 = [1] := rfl; rw [e] at h; cases h⟩
theorem wk2_eq : wk2 = ⟨setN (rdyN wk1.R 5) 2 wk1.R, [(1, 5)], 1⟩ := wr1_yes wk_c
theorem wk2_in : ((1 : Int), (5 : Int)) ∈ wk2.fly := by rw [wk2_eq]; simp
theorem wk2_ok : SOk wk2 := wk1_ok.w1 5
theorem wk3_ok : SOk wk3 := wk2_ok.d1 wk2_in
theorem wk3_und : und wk3.R = [] := by
  show und (setK 5 0 wk2.R) = []
  rw [wk2_eq]
  rfl
theorem wk3_fit : dkT wk3.R 5 = fit xB := by
  rw [dkT_done wk3_und, snT, if_neg (by decide)]
  have : alB wk3.R 5 = alB wk1.R 5 := (dn1_al wk2 1 5 5).trans (wr1_al wk1 5 5)
  rw [this]
  rfl
set_option maxRecDepth 100000 in
set_option maxHeartbeats 4000000 in
theorem softWorks_h {H : HL} {nx : Nat} : FnH Tryz.prog 6 [] H nx ⟨.t (.c (.b true)), [], [], []⟩ := by
  refine fnR (fn := Tryz.f6) 92 rfl rfl rfl (args' := []) (H' := [(0, none)]) (nx' := 1) (fun e w M => ⟨e, mem_void e w, rfl⟩) rfl rfl rfl rfl fun w => ?_
  refine rn [(12, .spec ⟨.tup [.c (.nm 1), .c (iT 0)], [(true, .ab (dkX 0))], [], []⟩), (16, .spec ⟨.t (.c (.b false)), [], [], []⟩), (20, .dec false), (20004, .dec true)] rfl (by (repeat' (first | exact trivial | exact rfl | exact newS 0 | exact fun _ => newS 0 | first | exact nilDkX rfl rfl rfl rfl | rfl | refine And.intro ?_ ?_))) ?_
  refine At.ex (φ := fun bk => dkP ⟨[], [], 0⟩ 0 bk) 1 rfl (fun _ => absP_stable _ _) fun bk => ?_
  have hN := fun (H : HL) (nx : Nat) (h1 : lookH H 1 = some (true, .ab (dkP ⟨[], [], 0⟩ 0 bk))) => softNew (nx := nx) h1 (.inl rfl)
  refine rn [(23, .spec ⟨.tup [.c (.nm 2), .c (iT 0)], [(true, .ab (sfX 0 bk))], [(1, some (.ab (dkP ⟨[], [], 0⟩ 0 bk)))], []⟩), (27, .spec ⟨.t (.c (.b false)), [], [], []⟩), (31, .dec false), (20007, .dec true)] rfl (by (repeat' (first | exact trivial | exact rfl | exact trivial | exact fun _ => trivial | first | exact hN _ _ rfl | exact nilSf rfl rfl rfl rfl | rfl | refine And.intro ?_ ?_))) ?_
  refine At.ex (φ := fun p : Nat × Nat => sfB [] [] 0 p.1 p.2 bk) 2 rfl (fun p => sfB_st _ _ _ _ _ _) fun p => ?_
  obtain ⟨b, bd⟩ := p
  have hA := fun (H : HL) (nx : Nat) (h2 : lookH H 2 = some (true, .ab (sfB [] [] 0 b bd bk))) (h1 : lookH H 1 = some (true, .ab (dkP ⟨[], [], 0⟩ 0 bk))) => softAddN (nx := nx) h2 h1 (by decide) SfOk.nil (by decide) (k := 5) (o := 0) (y := 120) (by omega) (by omega)
  have hW := fun (H : HL) (nx : Nat) (h2 : lookH H 2 = some (true, .ab (sfB wk1.R wk1.fly 0 b bd bk))) (h1 : lookH H 1 = some (true, .ab (dkP wk1 0 bk))) => softWrite (nx := nx) (R := wk1.R) (fly := wk1.fly) (last := wk1.last) h2 h1 (by decide) wk1_ok (by decide) (by decide) (.inl rfl) (k := 5) (by omega)
  have w1 : wr1N ⟨wk1.R, wk1.fly, wk1.last⟩ 5 = 1 := if_pos wk_c
  have w2 : sdE' wk1.R 5 = 0 := sdE_yes wk_c
  have w3 : wr1 ⟨wk1.R, wk1.fly, wk1.last⟩ 5 = wk2 := rfl
  rw [w1, w2, w3] at hW
  have hD := fun (H : HL) (nx : Nat) (h1 : lookH H 1 = some (true, .ab (dkP wk2 0 bk))) => diskDone (nx := nx) h1 wk2_ok wk2_in (.inl rfl)
  rw [show dn1 wk2 1 5 = wk3 from rfl] at hD
  have hg : gget 1 wk2.fly = some 5 := gget_of wk2_ok.key wk2_in
  have hf : ofN wk2.R 5 2 ≠ [] := (wk2_ok.fl 5).1 (List.mem_map.2 ⟨_, wk2_in, rfl⟩)
  have hE := fun (H : HL) (nx : Nat) (h2 : lookH H 2 = some (true, .ab (sfB wk2.R wk2.fly 0 b bd bk))) => softDone (nx := nx) h2 hg hf
  rw [show setK 5 0 wk2.R = wk3.R from rfl, show gdel 1 wk2.fly = wk3.fly from rfl] at hE
  have hR := fun (H : HL) (nx : Nat) (h1 : lookH H 1 = some (true, .ab (dkP wk3 0 bk))) => readA (nx := nx) h1 5
  simp only [rdT_of wk3.R (k := 5) (by omega), rdE_of wk3.R (k := 5) (by omega), wk3_fit] at hR
  have hF := fit0 xB (by decide)
  have hSame : ((fit xB).toList == (fit xB).toList) = true := by simp
  have hA' : ∀ (H : HL) (nx : Nat) (h2 : lookH H 2 = some (true, .ab (sfB [] [] 0 b bd bk))) (h1 : lookH H 1 = some (true, .ab (dkP ⟨[], [], 0⟩ 0 bk))), FnH Tryz.prog 9 [.c (.nm 2), .c (iT 5), .agg [iT 0, .s (bt1 120)], .c .nsl] H nx ⟨.tup [.c (iT 1), .c (iT 0)], [], [(2, some (.ab (sfB wk1.R wk1.fly 0 b bd bk))), (1, some (.ab (dkP wk1 0 bk)))], []⟩ := hA
  have k3 := wk3_und
  generalize wk1 = x1 at *
  generalize wk2 = x2 at *
  generalize wk3 = x3 at *
  generalize fit xB = fx at *
  refine rn [(34, .spec ⟨.tup [.c (iT 1), .c (iT 0)], [], [(2, some (.ab (sfB x1.R x1.fly 0 b bd bk))), (1, some (.ab (dkP x1 0 bk)))], []⟩), (37, .spec ⟨.tup [.c (iT 1), .c (iT 0)], [], [(2, some (.ab (sfB x2.R x2.fly 0 b bd bk))), (1, some (.ab (dkP x2 0 bk)))], []⟩), (43, .spec ⟨.tup [.c (.b true), .c (iT 0)], [], [(1, some (.ab (dkP x3 0 bk)))], []⟩), (50, .spec ⟨.tup [.c (iT 5), .c (iT 0)], [], [(2, some (.ab (sfB x3.R x3.fly 0 b bd bk)))], []⟩), (55, .spec ⟨.tup [.c (.s fx), .c (iT 0)], [], [(1, some (.ab (dkP x3 0 bk)))], []⟩), (20012, .dec true)] rfl
    (by (repeat' (first | exact trivial | exact rfl | exact trivial | exact fun _ => trivial | first | exact hA' _ _ rfl rfl | exact hW _ _ rfl rfl | exact hD _ _ rfl | exact hE _ _ rfl | exact hR _ _ rfl | rfl | refine And.intro ?_ ?_))) ?_
  refine At.ex (φ := fun x : { x : DV × WW // DR x.1 x.2 x3.R } => sfP x.1.1 x.1.2 x3.R.length x3.fly 0 b bd bk) 2 rfl (fun x => absP_stable _ _) fun x => ?_
  obtain ⟨⟨V, W⟩, hdr⟩ := x
  refine At.unfold 2 rfl rfl rfl ?_
  have hL := fun (H : HL) (nx : Nat) (h4 : lookH H 4 = some (true, .ab (depP V x3.R.length bd))) => leftP (nx := nx) (at' := []) h4 SlQ.nil (by decide) hdr
  rw [k3, show leftA [] [] = 0 from rfl] at hL
  refine rn [(81, .ret (.t (.c (.s fx)))), (84, .dec true), (89, .spec ⟨.t (.c (iT 0)), [], [(4, some (.ab (depP V x3.R.length bd)))], []⟩)] rfl (by (repeat' (first | exact trivial | exact rfl | exact trivial | exact fun _ => trivial | first | exact hF | exact (fun _ => hF) | exact hSame | exact hL _ _ rfl | rfl | refine And.intro ?_ ?_))) ?_
  exact ret0 tysOk rfl (by repeat' (first | exact trivial | exact rfl | refine And.intro ?_ ?_)) rfl
end Cw
namespace Cw
open Go Vc
open Go.Proofs
set_option maxRecDepth 100000
/-- Something happens. -/
def mvS (x : SS) (kind n : Int) : SS :=
  if kind % 3 = 0 ∨ x.fly = [] then wr1 x (2 + n % 6)
  else if kind % 3 = 1 then dn1 x (x.fly.getD (n % x.fly.length).toNat (0, 0)).1 (x.fly.getD (n % x.fly.length).toNat (0, 0)).2
  else ls1 x (x.fly.getD (n % x.fly.length).toNat (0, 0)).1 (x.fly.getD (n % x.fly.length).toNat (0, 0)).2
theorem pick_in {fly : List (Int × Int)} (h : fly ≠ []) (n : Int) : (n % fly.length).toNat < fly.length ∧ 0 ≤ n % fly.length ∧ n % fly.length < fly.length ∧ ((fly.getD (n % fly.length).toNat (0, 0)).1, (fly.getD (n % fly.length).toNat (0, 0)).2) ∈ fly := by
  have hp : 0 < fly.length := List.length_pos_iff.2 h
  have h1 := Int.emod_nonneg n (show (fly.length : Int) ≠ 0 by omega)
  have h2 := Int.emod_lt_of_pos n (show (0 : Int) < fly.length by omega)
  have h3 : (n % fly.length).toNat < fly.length := by omega
  refine ⟨h3, h1, h2, ?_⟩
  rw [List.getD_eq_getElem?_getD, List.getElem?_eq_getElem h3]
  exact List.getElem_mem h3
theorem SOk.mv {x : SS} (h : SOk x) (kind n : Int) : SOk (mvS x kind n) := by
  unfold mvS
  split
  · exact h.w1 _
  · rename_i h1
    have h2 : x.fly ≠ [] := fun e => h1 (.inr e)
    split
    · exact h.d1 (pick_in h2 n).2.2.2
    · exact h.l1 (pick_in h2 n).2.2.2
theorem mvS_len (x : SS) (kind n : Int) : (mvS x kind n).R.length = x.R.length := by
  unfold mvS
  split
  · exact wr1_len _ _
  · split <;> exact setK_len _ _ _
theorem mvS_last (x : SS) (kind n : Int) : (mvS x kind n).last ≤ x.last + 1 := by
  unfold mvS
  split
  · exact (wr1_last _ _).2
  · split
    · show x.last ≤ _; omega
    · show x.last ≤ _; omega
theorem BgOk.w1 {ls : List SC} {x : SS} (h : BgOk ls x.R) (k : Int) : BgOk ls (wr1 x k).R := by
  by_cases hc : wrC x k
  · rw [wr1_yes hc]; exact h.set _ _
  · rw [wr1_no hc]; exact h
theorem BgOk.mv {ls : List SC} {x : SS} (h : BgOk ls x.R) (kind n : Int) : BgOk ls (mvS x kind n).R := by
  unfold mvS
  split
  · exact h.w1 _
  · split <;> exact h.set _ _
/-- A reader of the disk. -/
theorem nm_ptr2 {φ : AbP} {H : HL} {d b : Nat} {b1 : Bool} {O : List (Bool × Ob)} {k : Nat} (hd : lookH H d = some (b1, .ab φ)) (hp : Pins φ (ptr b)) (hO : O[k]? = some (false, .pin 0 b)) : ∀ e e1 w, MemOk H e w → MemOk (newsH 0 O) e1 w → (TV.c (.nm d)).den e = CV.den e1 (.p 0 0) := by
  intro e e1 w M M1
  have h1 := hp _ _ _ (M.ob d b1 _ hd).1.1
  have h2 : e1.blk 0 = b := (M1.ob k false (.pin 0 b) (by rw [lookH_newsH, if_pos (Nat.zero_le _), Nat.sub_zero]; exact hO)).1.2
  show e.val d = .pointer (some ⟨e1.blk 0, 0, none⟩)
  rw [h1, h2]
  rfl
theorem readO {H : HL} {nx d b : Nat} {b1 : Bool} {S : List ByteArray} {W : List (Int × Wr)} {last : Int} (hd : lookH H d = some (b1, .ab (dP S W last b))) (k : Int) :
    FnH Tryz.prog 16 [.c (.nm d), .c (iT k)] H nx ⟨.tup [.c (.s (rdT S k)), .c (iT (rdE S.length k))], [], [], []⟩ :=
  fnh_in (nx := nx) (u := .c (.nm d)) (bs := [.c (iT k)]) (O := diskO b S (wm W) last) (x := .p 0 0) (y := .p 0 0) (v' := .tup [.c (.s (rdT S k)), .c (iT (rdE S.length k))]) (news' := []) hd rfl rfl rfl rfl rfl (nm_ptr2 (k := 3) hd (disk_pins _ _ _ _) rfl) (readU (d := 0) (l := 1) (m := 2) rfl rfl k)
section
variable {H : HL} {nx d s q b bd bk x y l : Nat} {b1 b2 b3 b4 : Bool} {V : DV} {W : List (List Int × Option Addr × Nat)} {R : List Ch} {fly : List (Int × Int)} {last node : Int}
set_option maxRecDepth 100000 in
set_option maxHeartbeats 8000000 in
/-- Something happens. -/
theorem moved_h (hs : lookH H s = some (true, .ab (sfB R fly node b bd bk))) (hd : lookH H d = some (true, .ab (dkP ⟨R, fly, last⟩ node bk))) (hsd : s ≠ d) (ok : SOk ⟨R, fly, last⟩) (hl : last ≤ 1000000) (hR : R.length ≤ 500) (hn : node = 0 ∨ node = 1) (kind n : Int) {x' : SS} (hx : mvS ⟨R, fly, last⟩ kind n = x') :
    FnH Tryz.prog 10 [.c (.nm s), .c (.nm d), .agg [iT kind, iT n]] H nx ⟨.t (.c (.b true)), [], [(s, some (.ab (sfB x'.R x'.fly node b bd bk))), (d, some (.ab (dkP x' node bk)))], []⟩ := by
  refine fnAs (fn := Tryz.f10) 83 rfl rfl rfl (args' := [.c (.nm 0), .c (.nm 1), .agg [iT kind, iT n]]) [(s, sfB R fly node b bd bk, sfB x'.R x'.fly node b bd bk), (d, dkP ⟨R, fly, last⟩ node bk, dkP x' node bk)] [] ⟨⟨hs, ptr b, sfB_pins _ _ _ _ _ _, sfB_pins _ _ _ _ _ _⟩, ⟨hd, ptr bk, disk_pins _ _ _ _, disk_pins _ _ _ _⟩, trivial⟩ trivial (by simp [hsd]) rfl rfl rfl rfl (v' := .t (.c (.b true))) (news' := []) rfl rfl rfl rfl rfl fun w Wh => ?_
  have hf8 : fly.length ≤ 8 := SfOk.flen ok
  have hU := fun (H : HL) (nx : Nat) (h0 : lookH H 0 = some (true, .ab (sfB R fly node b bd bk))) => softUnder (nx := nx) h0 ok.key (by omega)
  have a3 := among0 kind 3 (by decide) (by decide)
  have a6 := among0 n 6 (by decide) (by decide)
  have hn0 := Int.emod_nonneg n (show (6 : Int) ≠ 0 by decide)
  have hn6 := Int.emod_lt_of_pos n (show (0 : Int) < 6 by decide)
  have wk : IntKind.i64.wrap (2 + n % 6) = 2 + n % 6 := wrap_sm (by omega) (by omega)
  by_cases hA : kind % 3 = 0 ∨ fly = []
  · have hx' : wr1 ⟨R, fly, last⟩ (2 + n % 6) = x' := by rw [← hx, mvS, if_pos hA]
    have hW := fun (H : HL) (nx : Nat) (h0 : lookH H 0 = some (true, .ab (sfB R fly node b bd bk))) (h1 : lookH H 1 = some (true, .ab (dkP ⟨R, fly, last⟩ node bk))) => softWrite (nx := nx) h0 h1 (by decide) ok hl hR hn (k := 2 + n % 6) (by omega)
    rw [hx'] at hW
    have hE : sdE' R (2 + n % 6) = 0 ∨ sdE' R (2 + n % 6) = 5 ∨ sdE' R (2 + n % 6) = 120 := by
      by_cases hc : wrC ⟨R, fly, last⟩ (2 + n % 6)
      · exact .inl (sdE_yes hc)
      · exact .inr (sdE_no hc)
    generalize wr1N ⟨R, fly, last⟩ (2 + n % 6) = nn at *
    generalize sdE' R (2 + n % 6) = ee at *
    rw [← wk] at hW
    by_cases h0 : kind % 3 = 0
    · rw [h0] at a3
      rcases hE with rfl | rfl | rfl
      all_goals
        refine rn [(17, .spec ⟨.t (.c (.nm 3)), [(true, .own 3 1 fly.length (ivs (fly.map Prod.fst)))], [(0, some (.ab (sfB R fly node b bd bk)))], []⟩), (20, .ret (.t (.c (iT 0)))), (26, .dec true), (31, .ret (.t (.c (iT (n % 6))))), (33, .spec ⟨.tup [.c (iT nn), .c (iT _)], [], [(0, some (.ab (sfB x'.R x'.fly node b bd bk))), (1, some (.ab (dkP x' node bk)))], []⟩)] rfl (by (repeat' (first | exact trivial | exact rfl | exact trivial | exact fun _ => trivial | first | exact hU _ _ rfl | exact a3 | exact a6 | exact hW _ _ rfl rfl | rfl | refine And.intro ?_ ?_))) ?_
        exact retM tysOk [] rfl (by repeat' (first | exact trivial | exact rfl | refine And.intro ?_ ?_)) (by repeat' (first | exact trivial | exact rfl | refine And.intro ?_ ?_)) rfl rfl
    · have hfl : fly = [] := hA.resolve_left h0
      subst hfl
      have g1 : (kind % 3 == 0) = false := by simpa using h0
      rcases hE with rfl | rfl | rfl
      all_goals
        refine rn [(17, .spec ⟨.t (.c (.nm 3)), [(true, .own 3 1 0 (ivs []))], [(0, some (.ab (sfB R [] node b bd bk)))], []⟩), (20, .ret (.t (.c (iT (kind % 3))))), (22, .dec false), (26, .dec true), (31, .ret (.t (.c (iT (n % 6))))), (33, .spec ⟨.tup [.c (iT nn), .c (iT _)], [], [(0, some (.ab (sfB x'.R x'.fly node b bd bk))), (1, some (.ab (dkP x' node bk)))], []⟩)] rfl (by (repeat' (first | exact trivial | exact rfl | exact trivial | exact fun _ => trivial | first | exact hU _ _ rfl | exact a3 | exact a6 | exact g1 | exact hW _ _ rfl rfl | rfl | refine And.intro ?_ ?_))) ?_
        exact retM tysOk [] rfl (by repeat' (first | exact trivial | exact rfl | refine And.intro ?_ ?_)) (by repeat' (first | exact trivial | exact rfl | refine And.intro ?_ ?_)) rfl rfl
  · have h0 : ¬ kind % 3 = 0 := fun h => hA (.inl h)
    have hfl : fly ≠ [] := fun h => hA (.inr h)
    obtain ⟨p1, p2, p3, p4⟩ := pick_in hfl n
    have hp : 0 < fly.length := List.length_pos_iff.2 hfl
    have g1 : (kind % 3 == 0) = false := by simpa using h0
    have g2 : ((fly.length : Int) == 0) = false := by simp; omega
    have aL := among0 n fly.length (by omega) (by omega)
    have e1 : (ivs (fly.map Prod.fst))[(n % (fly.length : Int)).toNat * 1]? = some (.int .i64 (fly.getD (n % fly.length).toNat (0, 0)).1) := by
      have := ivs_at (l := fly.map Prod.fst) (k := (n % (fly.length : Int)).toNat) (by simpa using p1)
      rw [Nat.mul_one, this, List.getD_eq_getElem?_getD, List.getElem?_eq_getElem p1]
      simp
    have hgt := gget_of ok.key p4
    have hof := (ok.fl _).1 (List.mem_map.2 ⟨_, p4, rfl⟩)
    simp only at hgt hof
    by_cases hk1 : kind % 3 = 1
    · have hx' : dn1 ⟨R, fly, last⟩ (fly.getD (n % fly.length).toNat (0, 0)).1 (fly.getD (n % fly.length).toNat (0, 0)).2 = x' := by rw [← hx, mvS, if_neg hA, if_pos hk1]
      have hD := fun (H : HL) (nx : Nat) (h1 : lookH H 1 = some (true, .ab (dkP ⟨R, fly, last⟩ node bk))) => diskDone (nx := nx) h1 ok p4 hn
      have hE := fun (H : HL) (nx : Nat) (h0 : lookH H 0 = some (true, .ab (sfB R fly node b bd bk))) => softDone (nx := nx) h0 hgt hof
      rw [hx'] at hD
      have hy1 : setK (fly.getD (n % fly.length).toNat (0, 0)).2 0 R = x'.R := by rw [← hx']; rfl
      have hy2 : gdel (fly.getD (n % fly.length).toNat (0, 0)).1 fly = x'.fly := by rw [← hx']; rfl
      rw [hy1, hy2] at hE
      rw [hk1] at a3
      generalize (fly.getD (n % fly.length).toNat (0, 0)).1 = nn at *
      generalize (fly.getD (n % fly.length).toNat (0, 0)).2 = kk at *
      refine rn [(17, .spec ⟨.t (.c (.nm 3)), [(true, .own 3 1 fly.length (ivs (fly.map Prod.fst)))], [(0, some (.ab (sfB R fly node b bd bk)))], []⟩), (20, .ret (.t (.c (iT 1)))), (26, .dec false), (51, .ret (.t (.c (iT (n % fly.length))))), (53, .ld [iT nn]), (56, .ret (.t (.c (iT 1)))), (57, .dec true), (61, .spec ⟨.tup [.c (.b true), .c (iT 0)], [], [(1, some (.ab (dkP x' node bk)))], []⟩), (69, .dec false), (78, .spec ⟨.tup [.c (iT kk), .c (iT 0)], [], [(0, some (.ab (sfB x'.R x'.fly node b bd bk)))], []⟩)] rfl
        (by (repeat' (first | exact trivial | exact rfl | exact trivial | exact fun _ => trivial | first | exact hU _ _ rfl | exact a3 | exact aL | exact g2 | exact e1 | exact ⟨e1, trivial⟩ | exact p2 | exact p3 | exact hD _ _ rfl | exact hE _ _ rfl | rfl | decide | refine And.intro ?_ ?_))) ?_
      exact retM tysOk [] rfl (by repeat' (first | exact trivial | exact rfl | refine And.intro ?_ ?_)) (by repeat' (first | exact trivial | exact rfl | refine And.intro ?_ ?_)) rfl rfl
    · have hx' : ls1 ⟨R, fly, last⟩ (fly.getD (n % fly.length).toNat (0, 0)).1 (fly.getD (n % fly.length).toNat (0, 0)).2 = x' := by rw [← hx, mvS, if_neg hA, if_neg hk1]
      have hD := fun (H : HL) (nx : Nat) (h1 : lookH H 1 = some (true, .ab (dkP ⟨R, fly, last⟩ node bk))) => diskLost (nx := nx) h1 ok p4
      have hE := fun (H : HL) (nx : Nat) (h0 : lookH H 0 = some (true, .ab (sfB R fly node b bd bk))) => softLost (nx := nx) h0 hgt hof
      rw [hx'] at hD
      have hy1 : setK (fly.getD (n % fly.length).toNat (0, 0)).2 1 R = x'.R := by rw [← hx']; rfl
      have hy2 : gdel (fly.getD (n % fly.length).toNat (0, 0)).1 fly = x'.fly := by rw [← hx']; rfl
      rw [hy1, hy2] at hE
      have h2 : kind % 3 = 2 := by omega
      rw [h2] at a3
      generalize (fly.getD (n % fly.length).toNat (0, 0)).1 = nn at *
      generalize (fly.getD (n % fly.length).toNat (0, 0)).2 = kk at *
      refine rn [(17, .spec ⟨.t (.c (.nm 3)), [(true, .own 3 1 fly.length (ivs (fly.map Prod.fst)))], [(0, some (.ab (sfB R fly node b bd bk)))], []⟩), (20, .ret (.t (.c (iT 2)))), (26, .dec false), (51, .ret (.t (.c (iT (n % fly.length))))), (53, .ld [iT nn]), (56, .ret (.t (.c (iT 2)))), (57, .dec false), (72, .spec ⟨.t (.c (iT 0)), [], [(1, some (.ab (dkP x' node bk)))], []⟩), (73, .dec false), (78, .spec ⟨.tup [.c (iT kk), .c (iT 0)], [], [(0, some (.ab (sfB x'.R x'.fly node b bd bk)))], []⟩)] rfl
        (by (repeat' (first | exact trivial | exact rfl | exact trivial | exact fun _ => trivial | first | exact hU _ _ rfl | exact a3 | exact aL | exact g2 | exact e1 | exact ⟨e1, trivial⟩ | exact p2 | exact p3 | exact hD _ _ rfl | exact hE _ _ rfl | rfl | decide | refine And.intro ?_ ?_))) ?_
      exact retM tysOk [] rfl (by repeat' (first | exact trivial | exact rfl | refine And.intro ?_ ?_)) (by repeat' (first | exact trivial | exact rfl | refine And.intro ?_ ?_)) rfl rfl
theorem scells_rd {ls : List SC} {i : Nat} (h : i < ls.length) : Vc.rowAt (scells ls) ((i : Int).toNat * 4) [iT ls[i].at', iT ls[i].off, .i .u8 ls[i].by', .raw (.slice ls[i].A ls[i].back.length ls[i].m)] :=
  have g := fun (j : Nat) (u : Value) (hu : (scv ls[i])[j]? = some u) => fcs_at (f := scv) (c := 4) (fun _ => rfl) h hu
  ⟨g 0 _ rfl, g 1 _ rfl, g 2 _ rfl, g 3 _ rfl, trivial⟩
theorem ahQ_at {A : List (List Int × Option Addr × Nat)} {i : Nat} (h : i < A.length) : (fcs ahQ A)[(i : Int).toNat * 1]? = some (.slice A[i].2.1 A[i].1.length A[i].2.2) := fcs_at (c := 1) (j := 0) ahQ_len h rfl
set_option maxRecDepth 100000 in
set_option maxHeartbeats 8000000 in
/-- Is a change on the disk? -/
theorem there_h {ls : List SC} (hx : lookH H x = some (b1, .cells [.nm d] 24)) (hy : lookH H y = some (b2, .cells [.nm l] 22)) (hd : lookH H d = some (b3, .ab (dkP ⟨R, fly, last⟩ node bk))) (hl : lookH H l = some (b4, .rd 4 ls.length (scells ls))) (h : BgOk ls R) {i : Nat} (hi : i < R.length) :
    FnH Tryz.prog 26 [.c (iT (i : Nat)), .c (.p x 0), .c (.p y 0)] H nx ⟨.t (.c (.b (R[i].st == 0))), [], [], []⟩ := by
  have hle := h.le
  have hlt : i < ls.length := by omega
  refine fnR (fn := Tryz.f26) 31 rfl rfl rfl (args' := [.c (iT (i : Nat)), .c (.p 0 0), .c (.p 1 0)]) (H' := [(0, some (false, .cells [.nm 2] 24)), (1, some (false, .cells [.nm 3] 22)), (2, some (false, .ab (dkP ⟨R, fly, last⟩ node bk))), (3, some (false, .rd 4 ls.length (scells ls)))]) (nx' := 4) (fun e w M => ⟨_, mem_rd (fun n => if n = 0 then x else if n = 1 then y else if n = 2 then d else l) (H' := [(0, some (false, .cells [.nm 2] 24)), (1, some (false, .cells [.nm 3] 22)), (2, some (false, .ab (dkP ⟨R, fly, last⟩ node bk))), (3, some (false, .rd 4 ls.length (scells ls)))]) ⟨⟨b1, hx⟩, ⟨b2, hy⟩, ⟨b3, hd⟩, ⟨b4, hl⟩, trivial⟩ M, rfl⟩) rfl rfl rfl rfl fun w => ?_
  obtain ⟨r0, r1, r2, r3⟩ := scells_at hlt
  have b0 : (0 : Int) ≤ (i : Int) := by omega
  have b1 : (i : Int) < (ls.length : Int) := by omega
  have c5 : (i : Int).toNat * 4 < (scells ls).length := by rw [scells_len]; omega
  have a6 := among0 ls[i].at' 6 (by decide) (by decide)
  have n0 := Int.emod_nonneg ls[i].at' (show (6 : Int) ≠ 0 by decide)
  have n6 := Int.emod_lt_of_pos ls[i].at' (show (0 : Int) < 6 by decide)
  have hk : IntKind.i64.wrap (2 + ls[i].at' % 6) = R[i].at' := by rw [wrap_sm (by omega) (by omega)]; exact (h.at' i hi hlt).symm
  have hkr : 2 ≤ R[i].at' ∧ R[i].at' < 8 := by rw [h.at' i hi hlt]; omega
  have hr := fun (H : HL) (nx : Nat) (h2 : lookH H 2 = some (false, .ab (dkP ⟨R, fly, last⟩ node bk))) => readO (nx := nx) h2 (IntKind.i64.wrap (2 + ls[i].at' % 6))
  rw [hk] at hr
  simp only [rd_of R hkr, rdE_of R (k := R[i].at') (by omega)] at hr
  rw [← hk] at hr
  have w3 : IntKind.i64.wrap (1 + (i : Int)) = 1 + (i : Int) := wrap_sm (by omega) (by omega)
  obtain ⟨t1, t2⟩ := h.there hi
  rw [← w3] at t1
  rw [hk] at hr
  have hg := get0 (S (dkB R R[i].at')) (i : Int) 1 (by rw [sz_S (dkB_len _ _)]; decide)
  rw [t2] at hg
  generalize S (dkB R R[i].at') = tx at *
  rw [← hk] at hr
  generalize (getn tx (i : Int) 1) = gx at *
  generalize (R[i].st == 0) = sx at *
  refine rn [(15, .ld [iT ls[i].at']), (16, .ret (.t (.c (iT (ls[i].at' % 6))))), (18, .spec ⟨.tup [.c (.s tx), .c (iT 0)], [], [], []⟩), (24, .ret (.tup [.c (iT (gx : Nat)), .c (iT 0)]))] rfl (by (repeat' (first | exact trivial | exact rfl | exact trivial | exact fun _ => trivial | first | exact r0 | exact ⟨r0, trivial⟩ | exact b0 | exact b1 | exact c5 | exact a6 | exact hr _ _ rfl | exact hg | rfl | decide | refine And.intro ?_ ?_))) ?_
  exact ret0 tysOk rfl (by (repeat' (first | exact trivial | exact rfl | exact trivial | exact fun _ => trivial | exact t1 | refine And.intro ?_ ?_))) rfl
set_option maxRecDepth 100000 in
set_option maxHeartbeats 8000000 in
/-- The side sees all; what goes ahead of what is there is there. -/
theorem beginning_h {ls : List SC} {A : List (List Int × Option Addr × Nat)} {WA : List (List Int × Option Addr × Nat)} {a : Nat} (hs : lookH H s = some (true, .ab (sfB R fly node b bd bk))) (hd : lookH H d = some (true, .ab (dkP ⟨R, fly, last⟩ node bk))) (hl : lookH H l = some (b1, .rd 4 ls.length (scells ls))) (ha : lookH H a = some (b2, .own 33 1 A.length (fcs ahQ A))) (hq : lookH H q = some (b3, .ab (frzP WA)))
    (hsd : s ≠ d) (hls : inL l [s, d] = false) (has : inL a [s, d] = false) (hqs : inL q [s, d] = false) (ok : SOk ⟨R, fly, last⟩) (h : BgOk ls R) (hA : A.length = R.length) (hW : ∀ y ∈ A, y ∈ WA) (hb5 : ∀ (i : Nat) (h1 : i < A.length) (h2 : i < ls.length), A[i].1 = b5T i ls[i].back) (zb : ∀ y ∈ ls, y.back.length ≤ 17592186043904) :
    FnH Tryz.prog 11 [.c (.nm s), .c (.nm d), .c (.nm l), .c (.nm a)] H nx ⟨.t (.c (.b true)), [], [(s, some (.ab (sfB R fly node b bd bk))), (d, some (.ab (dkP ⟨R, fly, last⟩ node bk)))], []⟩ := by
  have hle := h.le
  refine fnAs (fn := Tryz.f11) 73 rfl rfl rfl (args' := [.c (.nm 0), .c (.nm 1), .c (.nm 2), .c (.nm 3)]) [(s, sfB R fly node b bd bk, sfB R fly node b bd bk), (d, dkP ⟨R, fly, last⟩ node bk, dkP ⟨R, fly, last⟩ node bk)] [(l, .rd 4 ls.length (scells ls)), (a, .own 33 1 A.length (fcs ahQ A)), (q, .ab (frzP WA))] ⟨⟨hs, ptr b, sfB_pins _ _ _ _ _ _, sfB_pins _ _ _ _ _ _⟩, ⟨hd, ptr bk, disk_pins _ _ _ _, disk_pins _ _ _ _⟩, trivial⟩ ⟨⟨⟨_, hl⟩, fun _ => rfl, hls⟩, ⟨⟨_, ha⟩, fun _ => rfl, has⟩, ⟨⟨_, hq⟩, fun _ => rfl, hqs⟩, trivial⟩ (by simp [hsd]) rfl rfl rfl rfl (v' := .t (.c (.b true))) (news' := []) rfl rfl rfl rfl rfl fun w Wh => ?_
  refine rn [] rfl (by repeat' (first | exact trivial | exact rfl | refine And.intro ?_ ?_)) ?_
  refine At.loop (X := (i : Nat) ×' (i ≤ R.length)) 7 (fun x => R.length - x.1)
    (fun x => [(0, .t (.c (.nm 0))), (3, .t (.c (.nm 3))), (5, .t (.c (.p 5 0))), (6, .t (.c (.p 6 0))), (9, .t (.c (.fn (.func 26) [(5, 0), (6, 0)]))), (18, .t (.c (.nm 3))), (19, .t (.c (iT (A.length : Nat)))), (20, .t (.c (iT (x.1 : Nat))))])
    (fun _ => [(0, some (true, .ab (sfB R fly node b bd bk))), (1, some (true, .ab (dkP ⟨R, fly, last⟩ node bk))), (2, some (false, .rd 4 ls.length (scells ls))), (3, some (false, .own 33 1 A.length (fcs ahQ A))), (4, some (false, .ab (frzP WA))), (5, some (true, .cells [.nm 1] 24)), (6, some (true, .cells [.nm 2] 22))]) ⟨0, by omega⟩ [] (fun x => wf rfl rfl) (by repeat' (first | exact trivial | exact rfl | refine And.intro ?_ ?_)) (by repeat' (first | exact trivial | exact rfl | refine And.intro ?_ ?_)) rfl fun x => ?_
  obtain ⟨i, hi⟩ := x
  have w3 : IntKind.i64.wrap ((i : Int) + 1) = ((i + 1 : Nat) : Int) := by rw [wrap_sm (by omega) (by omega)]; omega
  refine rn [] rfl (by repeat' (first | exact trivial | exact rfl | refine And.intro ?_ ?_)) ?_
  refine ⟨fun h1 => ?_, fun h1 => ?_⟩
  · have hiA : i < A.length := by have : (i : Int) < (A.length : Int) := of_decide_eq_true h1; omega
    clear h1
    have hiR : i < R.length := by omega
    have hlt : i < ls.length := by omega
    obtain ⟨r0, r1, r2, r3⟩ := scells_at hlt
    have b0 : (0 : Int) ≤ (i : Int) := by omega
    have b1 : (i : Int) < (ls.length : Int) := by omega
    have c5 : (i : Int).toNat * 4 < (scells ls).length := by rw [scells_len]; omega
    have c6 : (i : Int) < (A.length : Int) := by omega
    have a6 := among0 ls[i].at' 6 (by decide) (by decide)
    have n0 := Int.emod_nonneg ls[i].at' (show (6 : Int) ≠ 0 by decide)
    have n6 := Int.emod_lt_of_pos ls[i].at' (show (0 : Int) < 6 by decide)
    have hk : IntKind.i64.wrap (2 + ls[i].at' % 6) = R[i].at' := by rw [wrap_sm (by omega) (by omega)]; exact (h.at' i hiR hlt).symm
    have hkr : 2 ≤ R[i].at' ∧ R[i].at' < 8 := by rw [h.at' i hiR hlt]; omega
    have hr := fun (H : HL) (nx : Nat) (h0 : lookH H 0 = some (true, .ab (sfB R fly node b bd bk))) (h1 : lookH H 1 = some (true, .ab (dkP ⟨R, fly, last⟩ node bk))) => softRead (nx := nx) h0 h1 (by decide) ok (by omega) (k := IntKind.i64.wrap (2 + ls[i].at' % 6)) (by rw [hk]; omega)
    have hsn : snT R (IntKind.i64.wrap (2 + ls[i].at' % 6)) = S (alB R R[i].at') := by rw [hk, snT, if_neg (by omega)]
    rw [hsn] at hr
    obtain ⟨t1, t2⟩ := h.seen1 hiR
    have hg := get0 (S (alB R R[i].at')) (i : Int) 1 (by rw [sz_S (show (alB R R[i].at').length = 64 by rw [alB, imgB_len, zB_len])]; decide)
    rw [t1, t2] at hg
    generalize S (alB R R[i].at') = tx at *
    have w4 : IntKind.i64.wrap (1 + (i : Int)) = 1 + (i : Int) := wrap_sm (by omega) (by omega)
    have w5 : IntKind.i64.wrap ((i : Int) + 1) = 1 + (i : Int) := by rw [w3]; omega
    have g1 : (1 + (i : Int) != IntKind.i64.wrap (1 + (i : Int))) = false := by rw [w4]; simp
    have hth := fun (H : HL) (nx : Nat) (h1 : lookH H 1 = some (true, .ab (dkP ⟨R, fly, last⟩ node bk))) (h2 : lookH H 2 = some (false, .rd 4 ls.length (scells ls))) (h5 : lookH H 5 = some (true, .cells [.nm 1] 24)) (h6 : lookH H 6 = some (true, .cells [.nm 2] 22)) => there_h (nx := nx) h5 h6 h1 h2 h hiR
    cases hs0 : R[i].st == 0 with
    | false =>
      rw [hs0] at hth
      refine rn [(29, .ld [iT ls[i].at']), (30, .ret (.t (.c (iT (ls[i].at' % 6))))), (32, .spec ⟨.tup [.c (.s tx), .c (iT 0)], [], [(0, some (.ab (sfB R fly node b bd bk))), (1, some (.ab (dkP ⟨R, fly, last⟩ node bk)))], []⟩), (38, .ret (.tup [.c (iT (1 + (i : Int))), .c (iT 0)])), (52, .dec false), (55, .spec ⟨.t (.c (.b false)), [], [], []⟩), (56, .dec true)] rfl (by (repeat' (first | exact trivial | exact rfl | exact trivial | exact fun _ => trivial | first | exact r0 | exact ⟨r0, trivial⟩ | exact b0 | exact b1 | exact c5 | exact a6 | exact hr _ _ rfl rfl | exact hg | exact g1 | exact hth _ _ rfl rfl rfl rfl | rfl | decide | refine And.intro ?_ ?_))) ?_
      exact roundEnd ⟨i + 1, by omega⟩ [] (by show R.length - (i + 1) < R.length - i; omega) (by (repeat' (first | exact trivial | exact rfl | exact w3 | exact fun _ => w3 | refine And.intro ?_ ?_))) (by repeat' (first | exact trivial | exact rfl | refine And.intro ?_ ?_)) rfl
    | true =>
      have hst : R[i].st = 0 := by simpa using hs0
      rw [hs0] at hth
      have e5 := ahQ_at hiA
      refine rn [(29, .ld [iT ls[i].at']), (30, .ret (.t (.c (iT (ls[i].at' % 6))))), (32, .spec ⟨.tup [.c (.s tx), .c (iT 0)], [], [(0, some (.ab (sfB R fly node b bd bk))), (1, some (.ab (dkP ⟨R, fly, last⟩ node bk)))], []⟩), (38, .ret (.tup [.c (iT (1 + (i : Int))), .c (iT 0)])), (52, .dec false), (55, .spec ⟨.t (.c (.b true)), [], [], []⟩), (56, .dec false), (60, .ld [.raw (.slice A[i].2.1 A[i].1.length A[i].2.2)])] rfl (by (repeat' (first | exact trivial | exact rfl | exact trivial | exact fun _ => trivial | first | exact r0 | exact ⟨r0, trivial⟩ | exact b0 | exact b1 | exact c5 | exact c6 | exact a6 | exact hr _ _ rfl rfl | exact hg | exact g1 | exact hth _ _ rfl rfl rfl rfl | exact e5 | exact ⟨e5, trivial⟩ | rfl | decide | refine And.intro ?_ ?_))) ?_
      refine At.rawF (xs := A[i].1) (A := A[i].2.1) (m := A[i].2.2) 60 4 rfl (hW _ (List.getElem_mem hiA)) rfl ?_
      have hA5 := hb5 i hiA hlt
      have zA : A[i].1.length ≤ 17592186043904 := by
        rw [hA5]
        have h1 := b5T_le i ls[i].back
        have h2 := zb _ (List.getElem_mem hlt)
        omega
      have hah : ∀ n ∈ A[i].1, 1 ≤ n ∧ ∃ hj : n.toNat - 1 < R.length, R[n.toNat - 1].st = 0 := fun n hn => h.ahead ok.dep hiR hlt hst (hA5 ▸ hn)
      refine At.loop (X := (k : Nat) ×' (k ≤ A[i].1.length)) 8 (fun x => A[i].1.length - x.1)
        (fun x => [(0, .t (.c (.nm 0))), (3, .t (.c (.nm 3))), (5, .t (.c (.p 5 0))), (6, .t (.c (.p 6 0))), (9, .t (.c (.fn (.func 26) [(5, 0), (6, 0)]))), (18, .t (.c (.nm 3))), (19, .t (.c (iT (A.length : Nat)))), (20, .t (.c (iT (i : Nat)))), (60, .t (.c (.nm 7))), (61, .t (.c (iT (A[i].1.length : Nat)))), (62, .t (.c (iT (x.1 : Nat))))])
        (fun _ => [(0, some (true, .ab (sfB R fly node b bd bk))), (1, some (true, .ab (dkP ⟨R, fly, last⟩ node bk))), (2, some (false, .rd 4 ls.length (scells ls))), (3, some (false, .own 33 1 A.length (fcs ahQ A))), (4, some (false, .ab (frzP WA))), (5, some (true, .cells [.nm 1] 24)), (6, some (true, .cells [.nm 2] 22)), (7, some (false, .rd 1 A[i].1.length (ivs A[i].1)))]) ⟨0, by omega⟩ [] (fun x => wf rfl rfl) (by repeat' (first | exact trivial | exact rfl | refine And.intro ?_ ?_)) (by repeat' (first | exact trivial | exact rfl | refine And.intro ?_ ?_)) rfl fun x => ?_
      obtain ⟨k, hk'⟩ := x
      have w6 : IntKind.i64.wrap ((k : Int) + 1) = ((k + 1 : Nat) : Int) := by rw [wrap_sm (by omega) (by omega)]; omega
      refine rn [] rfl (by repeat' (first | exact trivial | exact rfl | refine And.intro ?_ ?_)) ?_
      refine ⟨fun h1 => ?_, fun h1 => ?_⟩
      · have hkl : k < A[i].1.length := by have : (k : Int) < (A[i].1.length : Int) := of_decide_eq_true h1; omega
        clear h1
        have e1 : (ivs A[i].1)[(k : Int).toNat * 1]? = some (.int .i64 A[i].1[k]) := by simpa using ivs_at hkl
        have d0 : (0 : Int) ≤ (k : Int) := by omega
        have d1 : (k : Int) < (A[i].1.length : Int) := by omega
        obtain ⟨q1, q2, q3⟩ := hah _ (List.getElem_mem hkl)
        have hsm := (b5T_mem (n := i) ls[i].back (by rw [← hA5]; exact List.getElem_mem hkl) : 1 ≤ A[i].1[k] ∧ A[i].1[k] ≤ (i : Int))
        have w7 : IntKind.i64.wrap (A[i].1[k] - 1) = ((A[i].1[k].toNat - 1 : Nat) : Int) := by rw [wrap_sm (by omega) (by omega)]; omega
        have hth2 := fun (H : HL) (nx : Nat) (h1 : lookH H 1 = some (true, .ab (dkP ⟨R, fly, last⟩ node bk))) (h2 : lookH H 2 = some (false, .rd 4 ls.length (scells ls))) (h5 : lookH H 5 = some (true, .cells [.nm 1] 24)) (h6 : lookH H 6 = some (true, .cells [.nm 2] 22)) => there_h (nx := nx) h5 h6 h1 h2 h q2
        rw [← w7, q3, show ((0 : Int) == 0) = true from rfl] at hth2
        refine rn [(65, .ld [iT A[i].1[k]]), (69, .spec ⟨.t (.c (.b true)), [], [], []⟩), (70, .dec false)] rfl (by (repeat' (first | exact trivial | exact rfl | exact trivial | exact fun _ => trivial | first | exact e1 | exact ⟨e1, trivial⟩ | exact d0 | exact d1 | exact hth2 _ _ rfl rfl rfl rfl | rfl | decide | refine And.intro ?_ ?_))) ?_
        exact roundEnd ⟨k + 1, by omega⟩ [] (by show A[i].1.length - (k + 1) < A[i].1.length - k; omega) (by (repeat' (first | exact trivial | exact rfl | exact w6 | exact fun _ => w6 | refine And.intro ?_ ?_))) (by repeat' (first | exact trivial | exact rfl | refine And.intro ?_ ?_)) rfl
      · refine rn [] rfl (by repeat' (first | exact trivial | exact rfl | refine And.intro ?_ ?_)) (roundExit rfl ?_)
        refine rnA [] rfl (by repeat' (first | exact trivial | exact rfl | refine And.intro ?_ ?_)) ?_
        exact roundEnd ⟨i + 1, by omega⟩ [] (by show R.length - (i + 1) < R.length - i; omega) (by (repeat' (first | exact trivial | exact rfl | exact w3 | exact fun _ => w3 | refine And.intro ?_ ?_))) (by repeat' (first | exact trivial | exact rfl | refine And.intro ?_ ?_)) rfl
  · refine rn [] rfl (by repeat' (first | exact trivial | exact rfl | refine And.intro ?_ ?_)) (roundExit rfl ?_)
    refine rnA [] rfl (by repeat' (first | exact trivial | exact rfl | refine And.intro ?_ ?_)) ?_
    exact retM tysOk [] rfl (by repeat' (first | exact trivial | exact rfl | refine And.intro ?_ ?_)) (by repeat' (first | exact trivial | exact rfl | refine And.intro ?_ ?_)) rfl rfl
end
end Cw
