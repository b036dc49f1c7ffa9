/- Functions that change several things, and read others. -/
import Derived.Test.YtclcibpghonidaaGreatDoorVcAb
namespace Vc
open Go Go.RowKit
/-- The names of what a function changes, then of what it reads. -/
def gOf (ds : List (Nat × AbP × AbP)) (rs : List (Nat × Ob)) (n : Nat) : Nat := (((ds.map (·.1)) ++ (rs.map (·.1)))[n]?).getD 0
def obsOf (ds : List (Nat × AbP × AbP)) (rs : List (Nat × Ob)) : List (Bool × Ob) := app (ds.map fun x => (true, Ob.ab x.2.1)) (rs.map fun x => (false, x.2))
def chgOk (H : HL) : List (Nat × AbP × AbP) → Prop
  | [] => True
  | (d, φ, φ') :: l => (lookH H d = some (true, .ab φ) ∧ ∃ v0, Pins φ v0 ∧ Pins φ' v0) ∧ chgOk H l
theorem chgOk_mem {H : HL} : ∀ {ds : List (Nat × AbP × AbP)}, chgOk H ds → ∀ x ∈ ds, lookH H x.1 = some (true, .ab x.2.1) ∧ ∃ v0, Pins x.2.1 v0 ∧ Pins x.2.2 v0
  | (d, φ, φ') :: l, h, x, hx => (List.mem_cons.1 hx).elim (fun e => e ▸ h.1) fun hx => chgOk_mem h.2 x hx
def redOk (H : HL) (ds : List (Nat × AbP × AbP)) : List (Nat × Ob) → Prop
  | [] => True
  | (q, o) :: l => ((∃ b, lookH H q = some (b, o)) ∧ (∀ g : Nat → Nat, o.re g = o) ∧ inL q (ds.map (·.1)) = false) ∧ redOk H ds l
theorem redOk_mem {H : HL} {ds : List (Nat × AbP × AbP)} : ∀ {rs : List (Nat × Ob)}, redOk H ds rs → ∀ x ∈ rs, (∃ b, lookH H x.1 = some (b, x.2)) ∧ (∀ g : Nat → Nat, x.2.re g = x.2) ∧ inL x.1 (ds.map (·.1)) = false
  | (q, o) :: l, h, x, hx => (List.mem_cons.1 hx).elim (fun e => e ▸ h.1) fun hx => redOk_mem h.2 x hx
/-- A function that changes things, and reads others. -/
theorem fnAs {P : Program} {f : FuncId} {fn : Func} {c : Code} (N : Nat) (hf : P.funcs[f]? = some fn) (hb : fn.body = some c) (hN : fn.ntmps = N) {args args' : List TV} {H : HL} {nx : Nat} {v v' : SV} {news news' : List (Bool × Ob)} {upd : List (Nat × Option Ob)} (ds : List (Nat × AbP × AbP)) (rs : List (Nat × Ob))
    (hds : chgOk H ds) (hrs : redOk H ds rs) (hnd : (ds.map (·.1)).Nodup) (ha : reT (gOf ds rs) args' = args)
    (hl : Nat.ble args'.length N = true) (hW : wfL (ds.length + rs.length) (argsL 0 (args'.map .t)) = true) (hW2 : wfH (ds.length + rs.length) (newsH 0 (obsOf ds rs)) = true)
    (hv : v'.re (fun n => nx + (n - ds.length)) = v) (hnw : reN (fun n => nx + (n - ds.length)) news' = news) (hu : ds.map (fun x => (x.1, some (Ob.ab x.2.2))) = upd)
    (hvr : inR ds.length (ds.length + news'.length) v'.ns = true) (hnr : newsR ds.length (ds.length + news'.length) news' = true)
    (hg : ∀ w W, At P ⟨w, W, N⟩ (bodyPost P fn (MPost w W v' (app (ds.map fun x => (true, Ob.ab x.2.2)) news'))) c [] (argsL 0 (args'.map .t)) (newsH 0 (obsOf ds rs)) (ds.length + rs.length)) : FnH P f args H nx ⟨v, news, upd, []⟩ := by
  subst ha hu
  have hul : (ds.map fun x => (x.1, x.2.2)).length = ds.length := List.length_map _
  have hml : (ds.map fun x => (x.1, x.2.2)).map (fun u => (true, Ob.ab u.2)) = ds.map fun x => (true, Ob.ab x.2.2) := by rw [List.map_map]; rfl
  have hlook : ∀ n z, lookH (newsH 0 (obsOf ds rs)) n = some z → (∃ x ∈ ds, gOf ds rs n = x.1 ∧ z = (true, .ab x.2.1) ∧ n < ds.length ∧ (ds.map (·.1))[n]? = some x.1) ∨ (∃ x ∈ rs, gOf ds rs n = x.1 ∧ z = (false, x.2)) := by
    intro n z h
    rw [lookH_newsH, if_pos (Nat.zero_le _), Nat.sub_zero, obsOf, app_eq] at h
    by_cases hn : n < ds.length
    · rw [List.getElem?_append_left (by simpa using hn), List.getElem?_map, List.getElem?_eq_getElem hn] at h
      cases h
      refine .inl ⟨ds[n], List.getElem_mem hn, ?_, rfl, hn, ?_⟩
      · rw [gOf, List.getElem?_append_left (by simpa using hn), List.getElem?_map, List.getElem?_eq_getElem hn]; rfl
      · rw [List.getElem?_map, List.getElem?_eq_getElem hn]; rfl
    · rw [List.getElem?_append_right (by simpa using hn), List.length_map, List.getElem?_map] at h
      cases hr : rs[n - ds.length]? with
      | none => rw [hr] at h; cases h
      | some x =>
        rw [hr] at h
        cases h
        refine .inr ⟨x, List.mem_of_getElem? hr, ?_, rfl⟩
        rw [gOf, List.getElem?_append_right (by simpa using hn), List.length_map, List.getElem?_map, hr]; rfl
  refine fnM N hf hb hN (args' := args') (H' := newsH 0 (obsOf ds rs)) (nx' := ds.length + rs.length) (v' := v') (news' := news') (ds.map fun x => (x.1, x.2.2)) (fun e w M => ?_) hl hW hW2 (fun e w M u hu v1 F w' h => ?_) (fun u hu => ?_) ?_ ?_ ?_ ?_ ?_ ?_ ?_
  · refine ⟨e.comp (gOf ds rs), ⟨fun n b o hn => ?_, fun n o m c q hn hm hne g hg hg' => ?_⟩, ?_⟩
    · rcases hlook n _ hn with ⟨x, hx, hgx, hz, _⟩ | ⟨x, hx, hgx, hz⟩
      · cases hz
        obtain ⟨h1, _⟩ := chgOk_mem hds x hx
        obtain ⟨h2, h3⟩ := M.ob _ _ _ h1
        refine ⟨Ob.re_back (r := gOf ds rs) (n := n) (by rw [hgx]; exact h2), fun g hg => ?_⟩
        have hg2 : e.fp (gOf ds rs n) g := hg
        rw [hgx] at hg2
        exact ⟨h3 g hg2, fun _ => ⟨(x.1, x.2.2), List.mem_map.2 ⟨x, hx, rfl⟩, hg2⟩⟩
      · cases hz
        obtain ⟨⟨b, h1⟩, h2, _⟩ := redOk_mem hrs x hx
        obtain ⟨h3, h4⟩ := M.ob _ _ _ h1
        refine ⟨Ob.re_back (r := gOf ds rs) (n := n) (by rw [hgx, h2]; exact h3), fun g hg => ⟨h4 g ?_, fun h => by cases h⟩⟩
        have hg2 : e.fp (gOf ds rs n) g := hg
        rwa [hgx] at hg2
    · have hg1 : e.fp (gOf ds rs n) g := hg
      have hg2 : e.fp (gOf ds rs m) g := hg'
      rcases hlook n _ hn with ⟨x, hx, hgx, hz, hnl, hnx⟩ | ⟨x, hx, hgx, hz⟩
      · cases hz
        obtain ⟨h1, _⟩ := chgOk_mem hds x hx
        rw [hgx] at hg1
        rcases hlook m _ hm with ⟨y, hy, hgy, hz', hml', hmy⟩ | ⟨y, hy, hgy, hz'⟩
        · cases hz'
          obtain ⟨h2, _⟩ := chgOk_mem hds y hy
          rw [hgy] at hg2
          refine M.dj _ _ _ _ _ h1 h2 (fun hxy => hne ?_) g hg1 hg2
          rw [← hxy] at hmy
          obtain ⟨h3, h4⟩ := List.getElem?_eq_some_iff.1 hnx
          obtain ⟨h5, h6⟩ := List.getElem?_eq_some_iff.1 hmy
          exact (List.getElem_inj hnd).1 (h4.trans h6.symm)
        · cases hz'
          obtain ⟨⟨b, h2⟩, _, h3⟩ := redOk_mem hrs y hy
          rw [hgy] at hg2
          refine M.dj _ _ _ _ _ h1 h2 (fun hxy => ?_) g hg1 hg2
          rw [← hxy] at h3
          exact inL_iff h3 (List.mem_map.2 ⟨x, hx, rfl⟩)
      · cases hz
    · rw [reT_eq, List.map_map]
      exact List.map_congr_left fun a _ => TV.comp_den e (gOf ds rs) a
  · obtain ⟨x, hx, rfl⟩ := List.mem_map.1 hu
    obtain ⟨h1, v0, p0, p1⟩ := chgOk_mem hds x hx
    rw [p1 _ _ _ h]
    exact (p0 _ _ _ (M.ob _ _ _ h1).1.1).symm
  · obtain ⟨x, hx, rfl⟩ := List.mem_map.1 hu
    exact ⟨_, (chgOk_mem hds x hx).1⟩
  · rw [List.map_map]; exact hnd
  · rw [hul]; exact hv
  · rw [hul]; exact hnw
  · rw [List.map_map]; rfl
  · rw [hul]; exact hvr
  · rw [hul]; exact hnr
  · intro w W
    have := hg w W
    rw [app_eq] at this
    rwa [hml]
end Vc
