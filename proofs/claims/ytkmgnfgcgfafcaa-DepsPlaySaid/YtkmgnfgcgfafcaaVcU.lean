/- Functions that write the cells of structs that are told by names: contracts. No program in sight. -/
import Derived.Test.YtkmgnfgcgfafcaaBufV
namespace Vc
open Go Go.RowKit
/-- The blocks of the names from j on have these numbers. -/
def pinsL (bs : Nat → Nat) : Nat → Nat → List (Bool × Ob)
  | _, 0 => []
  | j, n + 1 => (false, .pin j (bs j)) :: pinsL bs (j + 1) n
theorem pinsL_get (bs : Nat → Nat) : ∀ (n j i : Nat), i < n → (pinsL bs j n)[i]? = some (false, .pin (j + i) (bs (j + i)))
  | 0, _, _, h => by omega
  | n + 1, j, 0, _ => rfl
  | n + 1, j, i + 1, h => by
    have := pinsL_get bs n (j + 1) i (by omega)
    rw [pinsL, List.getElem?_cons_succ, this, show j + 1 + i = j + (i + 1) by omega]
theorem pinsL_length (bs : Nat → Nat) : ∀ (n j : Nat), (pinsL bs j n).length = n
  | 0, _ => rfl
  | n + 1, j => by rw [pinsL, List.length_cons, pinsL_length bs n]
/-- A value that is told by blocks' numbers alone. -/
def CV.blkB (k : Nat) : CV → Bool
  | .p n _ | .sl n _ _ _ | .mp n => Nat.blt n k
  | .fn _ caps => caps.all fun x => Nat.blt x.1 k
  | .nm _ | .el .. | .sub .. => false
  | _ => true
theorem CV.blk_den {k : Nat} {r : Nat → Nat} {e e1 : Env} (h : ∀ j, j < k → e1.blk j = e.blk (r j)) {c : CV} (hc : c.blkB k = true) : (c.re r).den e = c.den e1 := by
  cases c with
  | p n o => simp only [CV.blkB, Nat.blt_eq] at hc; simp only [CV.re, CV.den, h n hc]
  | sl n => simp only [CV.blkB, Nat.blt_eq] at hc; simp only [CV.re, CV.den, h n hc]
  | mp n => simp only [CV.blkB, Nat.blt_eq] at hc; simp only [CV.re, CV.den, h n hc]
  | nm n => cases hc
  | el n => cases hc
  | sub n => cases hc
  | fn f caps =>
    simp only [CV.blkB, List.all_eq_true, Nat.blt_eq] at hc
    simp only [CV.re, CV.den, List.map_map]
    congr 2
    exact List.map_congr_left fun x hx => by simp only [Function.comp, h x.1 (hc x hx)]
  | _ => rfl
theorem blk_dens {k : Nat} {r : Nat → Nat} {e e1 : Env} (h : ∀ j, j < k → e1.blk j = e.blk (r j)) {cs : List CV} (hc : cs.all (CV.blkB k) = true) : (reC r cs).map (CV.den e) = cs.map (CV.den e1) := by
  rw [reC_eq, List.map_map]
  exact List.map_congr_left fun c hm => CV.blk_den h (List.all_eq_true.1 hc c hm)
/-- What a call leaves that writes structs: the value, and the blocks. -/
def UPost (w : World) (W : Nat → Prop) (v : SV) (us : List (Nat × List CV × TypeId)) (bs : Nat → Nat) (k : Nat) (en : Ending) (w' : World) : Prop :=
  ∃ e, en = .returned (v.den e) ∧ Keeps ⟨w, W, 0⟩ w' ∧ (∀ j, j < k → e.blk j = bs j) ∧ ∀ u ∈ us, w'.heap[bs u.1]? = some (.cells (u.2.1.map (CV.den e)).toArray u.2.2 (0, 0))
def usOk (H : HL) : List (Nat × List CV × TypeId) → Prop
  | [] => True
  | u :: l => (∃ b cs, lookH H u.1 = some (b, .cells cs u.2.2) ∧ cs = u.2.1) ∧ usOk H l
theorem usOk_mem {H : HL} : ∀ {us : List (Nat × List CV × TypeId)}, usOk H us → ∀ u ∈ us, ∃ b, lookH H u.1 = some (b, .cells u.2.1 u.2.2)
  | [], _, u, h => by cases h
  | x :: l, ⟨⟨b, cs, h1, h2⟩, h3⟩, u, h => by
    rcases List.mem_cons.1 h with rfl | h
    · exact ⟨b, by rw [h1, h2]⟩
    · exact usOk_mem h3 u h
def pinOk (H : HL) (bs : Nat → Nat) (k : Nat) : Nat → Prop
  | 0 => True
  | j + 1 => lookH H (k + j) = some (false, .pin j (bs j)) ∧ pinOk H bs k j
theorem pinOk_at {H : HL} {bs : Nat → Nat} {k : Nat} : ∀ {n : Nat}, pinOk H bs k n → ∀ j, j < n → lookH H (k + j) = some (false, .pin j (bs j))
  | 0, _, j, h => by omega
  | n + 1, ⟨h1, h2⟩, j, h => by
    by_cases hj : j = n
    · subst hj; exact h1
    · exact pinOk_at h2 j (by omega)
theorem upost_of {F : Frm} {L : LL} {H : HL} {e : Env} {a : Act} {w : World} {w0 : World} {W : Nat → Prop} {N k : Nat} {v : SV} {us : List (Nat × List CV × TypeId)} {bs : Nat → Nat} (hF : F = ⟨w0, W, N⟩) (S : Sat F (fun t => look t L) (lookH H) e a w) (hu : usOk H us) (hk : us.all (fun u => Nat.blt u.1 k) = true) (hp : pinOk H bs k k) : UPost w0 W v us bs k (.returned (v.den e)) w := by
  subst hF
  have hb : ∀ j, j < k → e.blk j = bs j := fun j hj => (S.ob _ _ _ (pinOk_at hp j hj)).1.2
  refine ⟨e, rfl, ⟨S.fr.os, S.fr.tape, S.fr.out, S.fr.size, S.fr.block⟩, hb, fun u h => ?_⟩
  obtain ⟨b, h1⟩ := usOk_mem hu u h
  have h2 := List.all_eq_true.1 hk u h
  simp only [Nat.blt_eq] at h2
  rw [← hb u.1 h2]
  exact (S.ob _ _ _ h1).1.2
theorem retU {P : Program} {w0 : World} {W : Nat → Prop} {N k : Nat} {L : LL} {H : HL} {nx : Nat} {tys : List (Nat × Ty)} (hty : TysOk P tys) {fn : Func} {v : SV} {us : List (Nat × List CV × TypeId)} {bs : Nat → Nat} {vs : List TV} (h : outV (fun t => look t tys) L H fn.results.toList = some vs)
    (hv : retS vs = v) (hu : usOk H us) (hk : us.all (fun u => Nat.blt u.1 k) = true) (hp : pinOk H bs k k) : Done ⟨w0, W, N⟩ (bodyPost P fn (UPost w0 W v us bs k) .ret) L H nx := by
  subst hv
  exact ⟨fun _ _ _ _ S => ⟨S.df, _, run_results hty S h, upost_of rfl S hu hk hp⟩⟩
theorem endU {P : Program} {w0 : World} {W : Nat → Prop} {N k : Nat} {L : LL} {H : HL} {nx : Nat} {tys : List (Nat × Ty)} (hty : TysOk P tys) {fn : Func} {v : SV} {us : List (Nat × List CV × TypeId)} {bs : Nat → Nat} {vs : List TV} (h : outV (fun t => look t tys) L H fn.results.toList = some vs)
    (hv : retS vs = v) (hu : usOk H us) (hk : us.all (fun u => Nat.blt u.1 k) = true) (hp : pinOk H bs k k) : Done ⟨w0, W, N⟩ (bodyPost P fn (UPost w0 W v us bs k) .normal) L H nx := by
  subst hv
  exact ⟨fun _ _ _ _ S => ⟨S.df, _, run_results hty S h, upost_of rfl S hu hk hp⟩⟩
/-- The things of the callee, found by the caller's names. -/
def usedOk (r : Nat → Nat) (H : HL) (us : List (Nat × List CV × TypeId)) : Nat → List (Bool × Ob) → Prop
  | _, [] => True
  | j, (b, o) :: l => (match b with | true => lookH H (r j) = some (true, o.re r) ∧ us.any (fun u => u.1 == j) = true | false => ∃ b0, lookH H (r j) = some (b0, o.re r)) ∧ usedOk r H us (j + 1) l
theorem usedOk_at {r : Nat → Nat} {H : HL} {us : List (Nat × List CV × TypeId)} : ∀ {l : List (Bool × Ob)} {k : Nat}, usedOk r H us k l → ∀ i b o, l[i]? = some (b, o) → ∃ b0, lookH H (r (k + i)) = some (b0, o.re r) ∧ (b = true → b0 = true ∧ ∃ u ∈ us, u.1 = k + i)
  | [], _, _, i, b, o, h => by cases h
  | (b', o') :: l, k, ⟨h1, h2⟩, i, b, o, h => by
    cases i with
    | zero =>
      cases h
      cases b' with
      | true =>
        obtain ⟨h3, h4⟩ := h1
        obtain ⟨u, hu, h5⟩ := List.any_eq_true.1 h4
        exact ⟨true, h3, fun _ => ⟨rfl, u, hu, by simpa using h5⟩⟩
      | false => exact ⟨h1.choose, h1.choose_spec, fun h => by cases h⟩
    | succ i =>
      rw [List.getElem?_cons_succ] at h
      have := usedOk_at h2 i b o h
      rwa [show k + 1 + i = k + (i + 1) by omega] at this
def cellsUp (O : List (Bool × Ob)) : List (Nat × List CV × TypeId) → Bool
  | [] => true
  | u :: l => (match O[u.1]? with | some (true, .cells _ _) => true | _ => false) && cellsUp O l
theorem cellsUp_at {O : List (Bool × Ob)} : ∀ {us : List (Nat × List CV × TypeId)}, cellsUp O us = true → ∀ u ∈ us, ∃ cs T, O[u.1]? = some (true, .cells cs T)
  | [], _, u, h => by cases h
  | x :: l, hc, u, h => by
    unfold cellsUp at hc
    rw [Bool.and_eq_true] at hc
    rcases List.mem_cons.1 h with rfl | h
    · have := hc.1
      split at this
      · rename_i cs T ho
        exact ⟨cs, T, ho⟩
      · cases this
    · exact cellsUp_at hc.2 u h
/-- A function that writes structs that are told by names. -/
theorem fnU {P : Program} {f : FuncId} {fn : Func} {c : Code} (N : Nat) (hf : P.funcs[f]? = some fn) (hb : fn.body = some c) (hN : fn.ntmps = N) {args args' : List TV} {H : HL} {nx : Nat} {v : SV} {upd : List (Nat × Option Ob)} (r : Nat → Nat) (O : List (Bool × Ob)) (us : List (Nat × List CV × TypeId))
    (ha : reT r args' = args) (hbr : ∀ a ∈ args', ∀ n ∈ a.ns, n < O.length) (hO : usedOk r H us 0 O) (hc : cellsUp O us = true) (hinj : ∀ i j, i < O.length → j < O.length → r i = r j → i = j) (hnd : (us.map (·.1)).Nodup)
    (hons : newsR 0 O.length O = true)
    (hl : Nat.ble args'.length N = true) (hW : wfL (O.length + O.length) (argsL 0 (args'.map .t)) = true) (hW2 : ∀ bs, wfH (O.length + O.length) (newsH 0 (app O (pinsL bs 0 O.length))) = true)
    (hv : v.ns = []) (hbk : us.all (fun u => u.2.1.all (CV.blkB O.length)) = true) (hu : us.map (fun u => (r u.1, some (.cells (reC r u.2.1) u.2.2))) = upd)
    (hg : ∀ w W bs, At P ⟨w, W, N⟩ (bodyPost P fn (UPost w W v us bs O.length)) c [] (argsL 0 (args'.map .t)) (newsH 0 (app O (pinsL bs 0 O.length))) (O.length + O.length)) : FnH P f args H nx ⟨v, [], upd, []⟩ := by
  subst ha hu
  refine ⟨fun hwf _ e w M => ?_⟩
  let k := O.length
  let bs : Nat → Nat := fun j => e.blk (r j)
  let e' : Env := ⟨fun n => e.blk (r n), fun n => e.val (r n), fun n g => n < k ∧ e.fp (r n) g, fun n => e.one (r n)⟩
  have hlook : ∀ n x, lookH (newsH 0 (app O (pinsL bs 0 k))) n = some x → (n < k ∧ O[n]? = some x) ∨ (k ≤ n ∧ x = (false, .pin (n - k) (bs (n - k)))) := by
    intro n x h
    rw [lookH_newsH, if_pos (Nat.zero_le _), Nat.sub_zero, app_eq] at h
    by_cases hn : n < k
    · rw [List.getElem?_append_left hn] at h
      exact .inl ⟨hn, h⟩
    · rw [List.getElem?_append_right (by omega)] at h
      have hlt : n - k < k := by
        rcases Nat.lt_or_ge (n - k) k with h1 | h1
        · exact h1
        · rw [List.getElem?_eq_none (by rw [pinsL_length]; exact h1)] at h; cases h
      rw [pinsL_get bs k 0 (n - k) hlt, Nat.zero_add] at h
      cases h
      exact .inr ⟨by omega, rfl⟩
  have hmem : Mem (fun g => ∃ u ∈ us, e.fp (r u.1) g) (newsH 0 (app O (pinsL bs 0 k))) e' w := by
    refine ⟨fun n b o hn => ?_, fun n o m c q hn hm hne g hg hg' => ?_⟩
    · rcases hlook n _ hn with ⟨h1, h2⟩ | ⟨h1, h2⟩
      · obtain ⟨b0, h3, h4⟩ := usedOk_at hO n b o h2
        rw [Nat.zero_add] at h3 h4
        obtain ⟨h5, h6⟩ := M.ob _ _ _ h3
        have hs : (e.comp r).same e' n := ⟨rfl, rfl, by funext g; exact propext ⟨fun h => h.2, fun h => ⟨h1, h⟩⟩⟩
        refine ⟨Ob.same hs (Ob.re_back h5) fun m _ => ⟨rfl, rfl⟩, fun g hg => ⟨h6 g hg.2, fun hb => ?_⟩⟩
        obtain ⟨_, u, hu, h7⟩ := h4 hb
        exact ⟨u, hu, by rw [h7]; exact hg.2⟩
      · cases h2
        exact ⟨⟨fun g hg => by have := hg.1; omega, rfl⟩, fun g hg => absurd hg.1 (by omega)⟩
    · rcases hlook n _ hn with ⟨h1, h2⟩ | ⟨h1, h2⟩
      · rcases hlook m _ hm with ⟨h3, h4⟩ | ⟨h3, h4⟩
        · obtain ⟨b0, h5, h6⟩ := usedOk_at hO n true o h2
          obtain ⟨b1, h7, _⟩ := usedOk_at hO m c q h4
          rw [Nat.zero_add] at h5 h6 h7
          obtain ⟨h6, _⟩ := h6 rfl
          subst h6
          exact M.dj _ _ _ _ _ h5 h7 (fun h => hne (hinj n m h1 h3 h)) g hg.2 hg'.2
        · have := hg'.1; omega
      · cases h2
  have := call_at N hf hb hN (args'.map .t) e' _ (k + k) _ (w := w) (by simpa using Nat.le_of_ble_eq_true hl) (wf hW (hW2 bs)) hmem (hg w _ bs)
  rw [List.map_map] at this
  have hargs : (reT r args').map (TV.den e) = args'.map (SV.den e' ∘ SV.t) := by
    rw [reT_eq, List.map_map]
    exact List.map_congr_left fun a _ => TV.re_den (e := e') (e' := e) fun n _ => ⟨rfl, rfl⟩
  rw [hargs]
  refine Calls.mono this ?_
  rintro en w' ⟨e1, rfl, K, h1, h2⟩
  have hblk : ∀ j, j < k → e1.blk j = e.blk (r j) := h1
  have hup : ∀ u ∈ us, ∃ cs T, O[u.1]? = some (true, .cells cs T) ∧ u.1 < k := by
    intro u hu
    obtain ⟨cs, T, h⟩ := cellsUp_at hc u hu
    refine ⟨cs, T, h, ?_⟩
    rcases Nat.lt_or_ge u.1 k with h1 | h1
    · exact h1
    · rw [List.getElem?_eq_none h1] at h; cases h
  have hcl : ∀ u ∈ us, ∀ g, e.fp (r u.1) g ↔ g = e.blk (r u.1) := by
    intro u hu
    obtain ⟨cs, T, h, _⟩ := hup u hu
    obtain ⟨b0, h3, _⟩ := usedOk_at hO u.1 _ _ h
    rw [Nat.zero_add] at h3
    exact (M.ob _ _ _ h3).1.1
  refine ⟨e, ?_, .old ⟨fun n _ => ⟨rfl, rfl, rfl⟩, K.os, K.tape, K.out, K.size, fun g hg hno => K.block g hg fun ⟨u, hu, hgf⟩ => hno (r u.1) _ (List.mem_map.2 ⟨u, hu, rfl⟩) hgf, fun k b o h => by simp at h, fun j k h => by simp at h, fun n o ho => ?_⟩⟩
  · show Ending.returned (v.den e1) = .returned (v.den e)
    rw [SV.den_same (e := e1) (e' := e) fun n hn => by rw [hv] at hn; cases hn]
  · obtain ⟨u, hu, he⟩ := List.mem_map.1 ho
    cases he
    refine ⟨hcl u hu, ?_⟩
    rw [blk_dens hblk (List.all_eq_true.1 hbk u hu)]
    exact h2 u hu
end Vc
