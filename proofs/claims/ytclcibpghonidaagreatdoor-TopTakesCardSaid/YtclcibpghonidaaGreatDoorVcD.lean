/- A walk by reckoning: loads and stores, comparisons, calls; the step of any operation; what a function returns. No program in sight. -/
import Derived.Test.YtclcibpghonidaaGreatDoorVcC
import Derived.Maps.AppendAt
import Derived.ArgAppend
import Derived.Laws.OwnMore
import Derived.Laws.BytesString
namespace Vc
open Go Go.RowKit

/-- Cells that are said to stand in a row from a place on. -/
def rowAt (xs : List Value) : Nat → List CV → Prop
  | _, [] => True
  | off, c :: cs => xs[off]? = some (c.den e0) ∧ rowAt xs (off + 1) cs
theorem rowAt_get {xs : List Value} : ∀ {cs : List CV} {off : Nat}, rowAt xs off cs → ∀ k u, (cs.map (CV.den e0))[k]? = some u → xs[off + k]? = some u
  | [], off, _, k, u, h => by simp at h
  | c :: cs, off, ⟨h1, h2⟩, 0, u, h => by simp at h; subst h; exact h1
  | c :: cs, off, ⟨h1, h2⟩, k + 1, u, h => by
    have := rowAt_get h2 k u (by simpa using h)
    rwa [show off + 1 + k = off + (k + 1) by omega] at this
def bare : List Nat → Bool
  | [] => true
  | _ :: _ => false
theorem bare_nil {l : List Nat} (h : bare l = true) : l = [] := by cases l <;> first | rfl | cases h
theorem bare_map {cs : List CV} (h : bare (flatN (cs.map CV.ns)) = true) (e : Env) : cs.map (CV.den e) = cs.map (CV.den e0) := cells_same fun n hn => by rw [bare_nil h] at hn; cases hn
theorem bare_tv {v : TV} (h : bare v.ns = true) (e : Env) : v.den e = v.den e0 := TV.den_same fun n hn => by rw [bare_nil h] at hn; cases hn
theorem bare_sv {v : SV} (h : bare v.ns = true) (e : Env) : v.den e = v.den e0 := SV.den_same fun n hn => by rw [bare_nil h] at hn; cases hn

theorem run_loadVar {P : Program} {w : World} {T : TypeId} {I : Ty} (hT : TyOk P T I) (a : Addr) {l : List CV} {v : TV} (e : Env) (hl : l.length = I.size) (hv : mkV I l = some v) (hc : ∀ j u, (l.map (CV.den e))[j]? = some u → w.cell? (a.add j) = some u) : (loadVar T a).run P w = .ok (v.den e) w := by
  rw [mkV_cells hv e]
  unfold loadVar
  simp only [Sem.run_bind, hT.run_agg, Result.andThen_ok]
  cases hb : I.d.agg with
  | true =>
    have := run_loadCells_list (P := P) w a (l.map (CV.den e)) hc
    rw [List.length_map, hl] at this
    simp only [if_true, Sem.run_bind, hT.run_size, Result.andThen_ok, this, Sem.run_pure]
  | false =>
    unfold mkV at hv
    rw [hb] at hv
    simp only at hv
    split at hv
    · rename_i c
      have := hc 0 (c.den e) (by simp)
      rw [show a.add 0 = a by simp [Addr.add]] at this
      simp [this]
    · cases hv
/-- Where the cells of a name are. -/
theorem row_cell {e : Env} {n : Nat} {w : World} {o : Ob} (h : o.holds e n w) : match o with
    | .rd _ _ xs | .own _ _ _ xs => ∀ j u, xs[j]? = some u → ∃ a l c, e.val n = .slice (some a) l c ∧ w.cell? (a.add j) = some u
    | _ => True := by
  cases o with
  | cells => trivial
  | row => trivial
  | ab => trivial
  | mp => trivial
  | pin => trivial
  | rd s l xs =>
    obtain ⟨A, c, h1, ⟨_, _, _, _, h2⟩, _⟩ := h
    intro j u hu
    obtain ⟨a, rfl, h3⟩ := h2 j u hu
    exact ⟨a, l, c, h1, h3⟩
  | own t s l xs =>
    intro j u hu
    obtain ⟨h1, _⟩ := h
    rcases h1.2 with ⟨_, _⟩ | ⟨g, cap, cur, hv, hb, hg, hnc, hcm, hcs, htk⟩
    · rename_i h2 h3
      have := h1.1
      rw [h3] at this
      simp at this
      subst this
      simp at hu
    · exact ⟨_, l, cap, hv, h1.cells (g := g) (by rw [hv]; rfl) j u hu⟩

def ldOf (d : Option Tmp) (orc : List (Nat × Orc)) : Option (List CV) := match d with
  | some d => match look d orc with
    | some (.ld vs) => some vs
    | _ => none
  | none => none
def ldRow (I : Ty) (xs : List Value) (off : Nat) : Option (List CV) → Option Eff
  | some (c :: vs) => match Nat.beq (lenC (c :: vs)) I.size with
    | true => match bare (flatN ((c :: vs).map CV.ns)) with
      | true => match mkV I (c :: vs) with
        | some v => some ⟨.t v, [], [], [rowAt xs off (c :: vs)]⟩
        | none => none
      | false => none
    | false => none
  | _ => none
theorem mkV_ns {I : Ty} {vs : List CV} {v : TV} (h : mkV I vs = some v) (h2 : flatN (vs.map CV.ns) = []) : v.ns = [] := by
  unfold mkV at h
  split at h
  · cases h; exact h2
  · split at h
    · rename_i c
      cases h
      have : c.ns = [] := by simpa [flatN] using h2
      exact this
    · cases h
theorem ldRow_ok {P : Program} {T : TypeId} {I : Ty} (hT : TyOk P T I) {xs : List Value} {off : Nat} {vs : Option (List CV)} {E : Eff} (h : ldRow I xs off vs = some E) (ho : allP E.obs) : ∃ v, E.v = .t v ∧ E.news = [] ∧ E.upd = [] ∧ v.ns = [] ∧ (∃ u, xs[off]? = some u) ∧ ∀ (e : Env) (w : World) (a : Addr), (∀ j u, xs[off + j]? = some u → w.cell? (a.add j) = some u) → (loadVar T a).run P w = .ok (v.den e) w := by
  unfold ldRow at h
  split at h
  · rename_i c vs
    split at h
    · rename_i h1
      split at h
      · rename_i h2
        split at h
        · rename_i v hv
          cases h
          rw [beq_nat, lenC_eq] at h1
          refine ⟨v, rfl, rfl, rfl, mkV_ns hv (bare_nil h2), ⟨_, ho.1.1⟩, fun e w a hc => ?_⟩
          refine run_loadVar hT a e h1 hv fun j u hu => hc j u ?_
          rw [bare_map h2 e] at hu
          exact rowAt_get ho.1 j u hu
        · cases h
      · cases h
    · cases h
  · cases h
def stLoad (ty : TypeId → Option Ty) (orc : List (Nat × Orc)) (L : LL) (H : HL) (d : Option Tmp) (T : TypeId) (x : Operand) : Option Eff := match ty T with
  | some I => match ev L x with
    | some (.c (.p n off)) => match lookH H n with
      | some (_, .cells cs _) => match takeC I.size (dropC off cs) with
        | some l => match mkV I l with
          | some v => some ⟨.t v, [], [], []⟩
          | none => none
        | none => none
      | some (_, .row xs _) => ldRow I xs off (ldOf d orc)
      | _ => none
    | some (.c (.el n j)) => match lookH H n with
      | some (_, .rd _ _ xs) => ldRow I xs j (ldOf d orc)
      | some (_, .own _ _ _ xs) => ldRow I xs j (ldOf d orc)
      | _ => none
    | _ => none
  | none => none
theorem eff_eq {E : Eff} {v : TV} (h1 : E.v = .t v) (h2 : E.news = []) (h3 : E.upd = []) : E = ⟨.t v, [], [], E.obs⟩ := by
  obtain ⟨a, b, c, d⟩ := E
  simp only at h1 h2 h3
  subst h1 h2 h3
  rfl
theorem stLoad_ok {P : Program} {F : Frm} {L : LL} {H : HL} {nx : Nat} {tys : List (Nat × Ty)} (hty : TysOk P tys) {orc : List (Nat × Orc)} {o : Oper} {T : TypeId} {x : Operand} {E : Eff} (hop : o.op = .load T x) (h : stLoad (fun t => look t tys) orc L H o.dst T x = some E) (ho : allP E.obs) : StepOK P F (fun t => look t L) (lookH H) nx o E := by
  unfold stLoad at h
  split at h
  · rename_i I hI
    have hT := hty _ _ hI
    have key : ∀ v : TV, (∀ e a w, Sat F (fun t => look t L) (lookH H) e a w → ∃ ad, a.eval x = .pointer (some ad) ∧ (loadVar T ad).run P w = .ok (v.den e) w) → ∀ obs, StepOK P F (fun t => look t L) (lookH H) nx o ⟨.t v, [], [], obs⟩ := by
      intro v hv obs
      refine step_pure fun e a w S => ?_
      obtain ⟨ad, h1, h2⟩ := hv e a w S
      simp only [execOp, hop, h1, Instr.loadAt, Instr.sureAddr, Sem.run_bind, Sem.run_pure, Result.andThen_ok, h2]
      rfl
    split at h
    · rename_i n off hx
      split at h
      · rename_i b cs T' hn
        split at h
        · rename_i l hl
          split at h
          · rename_i v hv
            cases h
            obtain ⟨h1, h2⟩ := takeC_ok hl
            rw [dropC_eq] at h1
            refine key v (fun e a w S => ⟨_, ev_ok S hx, ?_⟩) _
            obtain ⟨⟨_, hblk⟩, _⟩ := S.ob n b _ hn
            refine run_loadVar hT _ e h2 hv fun j u hu => ?_
            rw [lit_add, cell_of_row w (e.blk n) (off + j) _ T' (0, 0) hblk]
            rw [h1, List.getElem?_map] at hu
            simp only [List.getElem?_toArray, List.getElem?_map]
            cases hq : (List.take I.size (List.drop off cs))[j]? with
            | none => rw [hq] at hu; cases hu
            | some c =>
              rw [List.getElem?_take] at hq
              split at hq
              · rw [List.getElem?_drop] at hq
                rw [hq]
                have : (List.take I.size (List.drop off cs))[j]? = some c := by
                  rw [List.getElem?_take, if_pos (by assumption), List.getElem?_drop]; exact hq
                rw [this] at hu
                exact hu
              · cases hq
          · cases h
        · cases h
      · rename_i b xs T' hn
        obtain ⟨v, e1, e2, e3, _, _, hl⟩ := ldRow_ok hT h ho
        rw [eff_eq e1 e2 e3]
        refine key v (fun e a w S => ⟨_, ev_ok S hx, hl e w _ fun j u hu => ?_⟩) _
        obtain ⟨⟨_, hblk⟩, _⟩ := S.ob n b _ hn
        rw [lit_add, cell_of_row w (e.blk n) (off + j) _ T' (0, 0) hblk]
        simpa using hu
      · cases h
    · rename_i n j hx
      have go : ∀ b ob xs, lookH H n = some (b, ob) → (∀ (e : Env) (w : World), ob.holds e n w → ∀ j u, xs[j]? = some u → ∃ a l c, e.val n = .slice (some a) l c ∧ w.cell? (a.add j) = some u) → ldRow I xs j (ldOf o.dst orc) = some E → StepOK P F (fun t => look t L) (lookH H) nx o E := by
        intro b ob xs hn hrow h
        have hh := ldRow_ok hT h ho
        obtain ⟨v, e1, e2, e3, _, hu0, hl⟩ := hh
        rw [eff_eq e1 e2 e3]
        refine key v (fun e a w S => ?_) _
        have hr := hrow e w (S.ob n b _ hn).1
        have hxv := ev_ok S hx
        obtain ⟨u, hu⟩ := hu0
        obtain ⟨ad, l, c, hval, _⟩ := hr j u hu
        refine ⟨ad.add j, ?_, hl e w _ fun k u' hu' => ?_⟩
        · rw [hxv]
          simp [TV.den, CV.den, hval]
        · obtain ⟨ad', l', c', hval', hc⟩ := hr (j + k) u' hu'
          rw [hval] at hval'
          cases hval'
          have : (ad.add j).add k = ad.add (j + k) := by
            obtain ⟨b1, o1, s1⟩ := ad
            rcases Nat.eq_zero_or_pos j with rfl | h1
            · simp [Addr.add]
            · rcases Nat.eq_zero_or_pos k with rfl | h2
              · simp [Addr.add]
              · have e1 : j ≠ 0 := by omega
                have e2 : k ≠ 0 := by omega
                simp [Addr.add, e1, e2, Nat.add_assoc]
          rw [this]
          exact hc
      split at h
      · rename_i b s l xs hn
        exact go b _ xs hn (fun e w hh => row_cell hh) h
      · rename_i b t s l xs hn
        exact go b _ xs hn (fun e w hh => row_cell hh) h
      · cases h
    · cases h
  · cases h
end Vc
namespace Vc
open Go Go.RowKit

def upd1 (n : Nat) (ob : Ob) (obs : List Prop) : Option Eff := some ⟨.t (.c (.raw undef)), [], [(n, some ob)], obs⟩
def setAt (xs : List Value) (off : Nat) (vs : List Value) : List Value := xs.take off ++ vs ++ xs.drop (off + vs.length)
/-- A block that is written anew. -/
theorem step_write {P : Program} {F : Frm} {L : LF} {H : HF} {nx : Nat} {o : Oper} {n : Nat} {ob : Ob} {obs : List Prop} 
    (hrun : ∀ e a w, Sat F L H e a w → ∃ (new : Array Value), (execOp a.eval o).run P w = .ok .skip (w.setRow (e.blk n) new) ∧ (∀ g, e.fp n g ↔ g = e.blk n) ∧ ob.holds e n (w.setRow (e.blk n) new)) : StepOK P F L H nx o ⟨.t (.c (.raw undef)), [], [(n, some ob)], obs⟩ := by
  intro _ e a w S K Q hK
  obtain ⟨new, h1, h2, h3⟩ := hrun e a w S
  refine wp_skipped h1 (hK e _ ?_)
  refine .old ⟨fun _ _ => ⟨rfl, rfl, rfl⟩, rfl, rfl, rfl, by simp, fun g hg hno => ?_, fun k b o hk => (by simp at hk), fun j k hj => (by simp at hj), fun m o hm => ?_⟩
  · have : g ≠ e.blk n := fun he => hno n (some ob) (by simp) ((h2 g).2 he)
    exact setRow_other w _ g _ this
  · simp at hm
    obtain ⟨rfl, rfl⟩ := hm
    exact h3
theorem splice_map {cs zs : List CV} {off : Nat} (h : off + cs.length ≤ zs.length) (e : Env) : (zs.map (CV.den e)).take off ++ cs.map (CV.den e) ++ (zs.map (CV.den e)).drop (off + cs.length) = (fillC cs off zs).map (CV.den e) := by
  apply List.ext_getElem?
  intro i
  rw [List.getElem?_map, fillC_get]
  by_cases h1 : i < off
  · rw [if_neg (by omega), List.append_assoc, List.getElem?_append_left (by simp; omega), List.getElem?_take_of_lt h1, List.getElem?_map]
  · by_cases h2 : i < off + cs.length
    · rw [if_pos (by omega), List.append_assoc, List.getElem?_append_right (by simp; omega), List.getElem?_append_left (by simp; omega), List.getElem?_map]
      simp only [List.length_take, List.length_map]
      rw [show min off zs.length = off by omega]
    · rw [if_neg (by omega), List.getElem?_append_right (by simp; omega), List.getElem?_drop, List.getElem?_map]
      simp only [List.length_append, List.length_take, List.length_map]
      rw [show off + cs.length + (i - (min off zs.length + cs.length)) = i by omega]
def stStore (ty : TypeId → Option Ty) (L : LL) (H : HL) (T : TypeId) (x y : Operand) : Option Eff := match ty T with
  | some I => match ev L x with
    | some (.c (.p n off)) => match ev L y with
      | some v => match flats v.cells with
        | true => match Nat.beq (lenC v.cells) I.size with
          | true => match lookH H n with
            | some (true, .cells cs T') => match Nat.ble (off + I.size) (lenC cs) with
              | true => upd1 n (.cells (fillC v.cells off cs) T') []
              | false => none
            | some (true, .row xs T') => match bare v.ns with
              | true => upd1 n (.row (setAt xs off (v.cells.map (CV.den e0))) T') [off + I.size ≤ xs.length]
              | false => none
            | _ => none
          | false => none
        | false => none
      | none => none
    | some (.c (.el n j)) => match ev L y with
      | some v => match flats v.cells with
        | true => match Nat.beq (lenC v.cells) I.size with
          | true => match lookH H n with
            | some (true, .own T' s len xs) => match bare v.ns with
              | true => match I.size with
                | 0 => none
                | z + 1 => upd1 n (.own T' s len (setAt xs j (v.cells.map (CV.den e0)))) [j + (z + 1) ≤ xs.length]
              | false => none
            | _ => none
          | false => none
        | false => none
      | none => none
    | _ => none
  | none => none
theorem take_setAt {c vs : List Value} {m j : Nat} (h : j + vs.length ≤ m) (hm : m ≤ c.length) : (c.take j ++ vs ++ c.drop (j + vs.length)).take m = setAt (c.take m) j vs := by
  unfold setAt
  rw [List.take_take, Nat.min_eq_left (by omega), List.drop_take, List.take_append, List.take_of_length_le (by simp; omega)]
  congr 1
  simp only [List.length_append, List.length_take]
  rw [Nat.min_eq_left (by omega)]
theorem setAt_length {xs vs : List Value} {j : Nat} (h : j + vs.length ≤ xs.length) : (setAt xs j vs).length = xs.length := by
  simp [setAt]; omega
/-- A block that is written anew, by its number. -/
theorem step_writeG {P : Program} {F : Frm} {L : LF} {H : HF} {nx : Nat} {o : Oper} {n : Nat} {ob : Ob} {obs : List Prop} 
    (hrun : ∀ e a w, Sat F L H e a w → ∃ (g0 : Nat) (new : Array Value), (execOp a.eval o).run P w = .ok .skip (w.setRow g0 new) ∧ (∀ g, e.fp n g ↔ g = g0) ∧ ob.holds e n (w.setRow g0 new)) : StepOK P F L H nx o ⟨.t (.c (.raw undef)), [], [(n, some ob)], obs⟩ := by
  intro _ e a w S K Q hK
  obtain ⟨g0, new, h1, h2, h3⟩ := hrun e a w S
  refine wp_skipped h1 (hK e _ ?_)
  refine .old ⟨fun _ _ => ⟨rfl, rfl, rfl⟩, rfl, rfl, rfl, by simp, fun g hg hno => ?_, fun k b o hk => (by simp at hk), fun j k hj => (by simp at hj), fun m o hm => ?_⟩
  · have : g ≠ g0 := fun he => hno n (some ob) (by simp) ((h2 g).2 he)
    exact setRow_other w _ g _ this
  · simp at hm
    obtain ⟨rfl, rfl⟩ := hm
    exact h3
theorem flats_flat {v : TV} (h : flats v.cells = true) : v.flat = true := by
  cases v with
  | c x =>
    simp only [TV.cells] at h
    unfold flats at h
    split at h
    · assumption
    · cases h
  | agg _ => rfl
theorem stStore_ok {P : Program} {F : Frm} {L : LL} {H : HL} {nx : Nat} {tys : List (Nat × Ty)} (hty : TysOk P tys) {o : Oper} {T : TypeId} {x y : Operand} {E : Eff} (hop : o.op = .store T x y) (h : stStore (fun t => look t tys) L H T x y = some E) (ho : allP E.obs) : StepOK P F (fun t => look t L) (lookH H) nx o E := by
  unfold stStore at h
  split at h
  · rename_i I hI
    have hT := hty _ _ hI
    split at h
    · rename_i n off hx
      split at h
      · rename_i v hv
        split at h
        · rename_i hfl
          split at h
          · rename_i hlen
            rw [beq_nat, lenC_eq] at hlen
            have hrun : ∀ (e : Env) (a : Act) (w : World), Sat F (fun t => look t L) (lookH H) e a w → ∀ (cur : Array Value) (T' : TypeId), w.heap[e.blk n]? = some (.cells cur T' (0, 0)) → off + I.size ≤ cur.size →
                (execOp a.eval o).run P w = .ok .skip (w.setRow (e.blk n) (cur.toList.take off ++ v.cells.map (CV.den e) ++ cur.toList.drop (off + v.cells.length)).toArray) := by
              intro e a w S cur T' hblk hle
              have hc : (v.den e).cells = (v.cells.map (CV.den e)).toArray := TV.cells_den (flats_flat hfl) e
              have h1 : ¬ ((v.cells.map (CV.den e)).toArray.size ≠ I.size) := by simp [hlen]
              have h2 := run_storeCells_at (P := P) (e.blk n) off T' (v.cells.map (CV.den e)) 0 cur w hblk (by simp; omega) (flats_one hfl e)
              simp only [Nat.add_zero, List.length_map] at h2
              have hx' : a.eval x = .pointer (some ⟨e.blk n, off, none⟩) := ev_ok S hx
              have hv' := ev_ok S hv
              generalize v.den e = V at *
              simp only [execOp, hop, hx', hv', Instr.storeAt, Instr.sureAddr, storeVar, Sem.run_bind, Sem.run_pure, Result.andThen_ok, hT.run_size, hc, if_neg h1, h2]
            split at h
            · rename_i cs T' hn
              split at h
              · rename_i hle
                cases h
                have hle' := Nat.le_of_ble_eq_true hle
                rw [lenC_eq] at hle'
                refine step_write fun e a w S => ?_
                obtain ⟨⟨hfp, hblk⟩, _⟩ := S.ob n true _ hn
                refine ⟨_, hrun e a w S _ T' hblk (by simp; omega), hfp, hfp, ?_⟩
                rw [setRow_heap w _ _ _ _ _ hblk]
                rw [splice_map (by omega) e]
              · cases h
            · rename_i xs T' hn
              split at h
              · rename_i hb
                cases h
                have hle : off + I.size ≤ xs.length := ho.1
                refine step_write fun e a w S => ?_
                obtain ⟨⟨hfp, hblk⟩, _⟩ := S.ob n true _ hn
                refine ⟨_, hrun e a w S _ T' hblk (by simpa using hle), hfp, hfp, ?_⟩
                rw [setRow_heap w _ _ _ _ _ hblk]
                simp only [setAt, List.length_map]
                rw [bare_map (e := e) (by rw [TV.cells_ns]; exact hb)]
              · cases h
            · cases h
          · cases h
        · cases h
      · cases h
    · rename_i n j hx
      split at h
      · rename_i v hv
        split at h
        · rename_i hfl
          split at h
          · rename_i hlen
            rw [beq_nat, lenC_eq] at hlen
            split at h
            · rename_i T' s len xs hn
              split at h
              · rename_i hb
                split at h
                · cases h
                · rename_i z hz
                  cases h
                  have hle : j + (z + 1) ≤ xs.length := ho.1
                  refine step_writeG fun e a w S => ?_
                  obtain ⟨⟨hown, hfp⟩, _⟩ := S.ob n true _ hn
                  have hxl := hown.1
                  rcases hown.2 with ⟨_, h0⟩ | ⟨g, cap, cur, hval, h1, hblk, h3, h4, h5, h6⟩
                  · subst h0; omega
                  have hcap : len * s ≤ cap * s := Nat.mul_le_mul_right _ h3
                  have hc : (v.den e).cells = (v.cells.map (CV.den e)).toArray := TV.cells_den (flats_flat hfl) e
                  have hk1 : ¬ ((v.cells.map (CV.den e)).toArray.size ≠ I.size) := by simp [hlen]
                  have h2 := run_storeCells_at (P := P) g j T' (v.cells.map (CV.den e)) 0 cur w hblk (by simp; omega) (flats_one hfl e)
                  simp only [Nat.add_zero, List.length_map] at h2
                  have hx' : a.eval x = .pointer (some ⟨g, j, none⟩) := by
                    refine (ev_ok S hx).trans ?_
                    simp only [TV.den, CV.den, hval, lit_add, Nat.zero_add]
                  have hv' := ev_ok S hv
                  have hfp' : ∀ k, e.fp n k ↔ k = g := fun k => by
                    rw [hfp k, hval]
                    exact ⟨fun h => (Option.some.inj h).symm, fun h => h ▸ rfl⟩
                  have hbm := bare_map (e := e) (cs := v.cells) (by rw [TV.cells_ns]; exact hb)
                  refine ⟨g, (cur.toList.take j ++ v.cells.map (CV.den e) ++ cur.toList.drop (j + v.cells.length)).toArray, ?_, hfp', ⟨?_, .inr ⟨g, cap, (cur.toList.take j ++ v.cells.map (CV.den e) ++ cur.toList.drop (j + v.cells.length)).toArray, hval, h1, ?_, h3, h4, ?_, ?_⟩⟩, hfp⟩
                  · generalize v.den e = V at *
                    simp only [execOp, hop, hx', hv', Instr.storeAt, Instr.sureAddr, storeVar, Sem.run_bind, Sem.run_pure, Result.andThen_ok, hT.run_size, hc, if_neg hk1, h2]
                  · rw [setAt_length (by simp; omega)]; exact hxl
                  · exact setRow_heap w _ _ _ _ _ hblk
                  · simp; omega
                  · have := take_setAt (c := cur.toList) (vs := v.cells.map (CV.den e)) (m := len * s) (j := j) (by simp; omega) (by simp; omega)
                    rw [h6, List.length_map] at this
                    rw [← hbm]
                    simpa using this
              · cases h
            · cases h
          · cases h
        · cases h
      · cases h
    · cases h
  · cases h

theorem add_add (a : Addr) (i j : Nat) : (a.add i).add j = a.add (i + j) := by
  obtain ⟨b1, o1, s1⟩ := a
  rcases Nat.eq_zero_or_pos i with rfl | h1
  · simp [Addr.add]
  · rcases Nat.eq_zero_or_pos j with rfl | h2
    · simp [Addr.add]
    · have e1 : i ≠ 0 := by omega
      have e2 : j ≠ 0 := by omega
      simp [Addr.add, e1, e2, Nat.add_assoc]
/-- The cells of a slice that has a name. -/
def rowOf (H : HL) (n : Nat) : Option (List Value) := match lookH H n with
  | some (_, .rd _ _ xs) => some xs
  | some (_, .own _ _ _ xs) => some xs
  | _ => none
theorem rowOf_ok {F : Frm} {L : LF} {H : HL} {e : Env} {a : Act} {w : World} (S : Sat F L (lookH H) e a w) {n : Nat} {xs : List Value} (h : rowOf H n = some xs) {j : Nat} (hj : j < xs.length) : ∃ ad l c, e.val n = .slice (some ad) l c := by
  unfold rowOf at h
  split at h
  · rename_i b s l xs' hn
    cases h
    obtain ⟨ad, l, c, h1, _⟩ := row_cell (S.ob n b _ hn).1 j _ (List.getElem?_eq_getElem hj)
    exact ⟨ad, l, c, h1⟩
  · rename_i b t s l xs' hn
    cases h
    obtain ⟨ad, l, c, h1, _⟩ := row_cell (S.ob n b _ hn).1 j _ (List.getElem?_eq_getElem hj)
    exact ⟨ad, l, c, h1⟩
  · cases h
def stFieldAddr (ty : TypeId → Option Ty) (L : LL) (H : HL) (T : TypeId) (x : Operand) (f : Nat) : Option Eff := match ty T with
  | some I => match I.d with
    | .struct fs => match nth f fs with
      | some (off, t) => match ty t with
        | some J => match J.size with
          | 0 => none
          | _ + 1 => match ev L x with
            | some (.c (.p n o)) => one (.p n (o + off))
            | some (.c (.el n j)) => match rowOf H n with
              | some xs => oneP (.el n (j + off)) [j < xs.length]
              | none => none
            | _ => none
        | none => none
      | none => none
    | _ => none
  | none => none
theorem run_fieldAt {P : Program} {w : World} {T : TypeId} {fields : Array Field} (hu : P.underlying T = some (.struct fields)) {f : Nat} {fd : Field} (hf : fields[f]? = some fd) {J : Ty} (hJ : TyOk P fd.type J) (h0 : J.size ≠ 0) (a : Addr) : (Instr.fieldAt T (.pointer (some a)) f).run P w = .ok (.pointer (some (a.add fd.offset))) w := by
  simp [Instr.fieldAt, run_underlying hu, hf, Instr.sureAddr, fieldPlace, hJ.run_size, h0]
theorem field_of {fields : Array Field} {f off : Nat} {t : TypeId} (h : nth f (fields.toList.map fun f => (f.offset, f.type)) = some (off, t)) : ∃ fd, fields[f]? = some fd ∧ fd.offset = off ∧ fd.type = t := by
  rw [nth_eq, List.getElem?_map] at h
  cases hfd : fields.toList[f]? with
  | none => rw [hfd] at h; cases h
  | some fd =>
    rw [hfd] at h
    simp only [Option.map_some, Option.some.injEq, Prod.mk.injEq] at h
    exact ⟨fd, by simpa using hfd, h.1, h.2⟩
theorem stFieldAddr_ok {P : Program} {F : Frm} {L : LL} {H : HL} {nx : Nat} {tys : List (Nat × Ty)} (hty : TysOk P tys) {o : Oper} {T : TypeId} {x : Operand} {f : Nat} {E : Eff} (hop : o.op = .fieldAddr T x f)
    (h : stFieldAddr (fun t => look t tys) L H T x f = some E) (ho : allP E.obs) : StepOK P F (fun t => look t L) (lookH H) nx o E := by
  unfold stFieldAddr at h
  split at h
  · rename_i I hI
    obtain ⟨d, hd, hId⟩ := (hty _ _ hI).und
    split at h
    · rename_i fs hfs
      rw [hfs] at hId
      obtain ⟨fields, rfl, rfl⟩ := hId
      split at h
      · rename_i off t hf
        obtain ⟨fd, hfd, rfl, rfl⟩ := field_of hf
        split at h
        · rename_i J hJ
          split at h
          · cases h
          · rename_i k hk
            split at h
            · rename_i n o' hx
              cases h
              refine step_pure fun e a w S => ?_
              have hx' : a.eval x = .pointer (some ⟨e.blk n, o', none⟩) := ev_ok S hx
              simp only [execOp, hop, hx', Sem.run_bind, run_fieldAt hd hfd (hty _ _ hJ) (by omega), Result.andThen_ok, Sem.run_pure, lit_add]
              rfl
            · rename_i n j hx
              split at h
              · rename_i xs hxs
                cases h
                refine step_pure fun e a w S => ?_
                obtain ⟨ad, l, c, hval⟩ := rowOf_ok S hxs ho.1
                have hx' : a.eval x = .pointer (some (ad.add j)) := by rw [ev_ok S hx]; simp [TV.den, CV.den, hval]
                simp only [execOp, hop, hx', Sem.run_bind, run_fieldAt hd hfd (hty _ _ hJ) (by omega), Result.andThen_ok, Sem.run_pure, add_add]
                simp [SV.den, TV.den, CV.den, hval]
              · cases h
            · cases h
        · cases h
      · cases h
    · cases h
  · cases h
def stField (ty : TypeId → Option Ty) (L : LL) (T : TypeId) (x : Operand) (f : Nat) : Option Eff := match ty T with
  | some I => match I.d with
    | .struct fs => match nth f fs with
      | some (off, t) => match ty t with
        | some J => match ev L x with
          | some (.agg cs) => match takeC J.size (dropC off cs) with
            | some l => match mkV J l with
              | some v => some ⟨.t v, [], [], []⟩
              | none => none
            | none => none
          | _ => none
        | none => none
      | none => none
    | _ => none
  | none => none
theorem stField_ok {P : Program} {F : Frm} {L : LL} {H : HF} {nx : Nat} {tys : List (Nat × Ty)} (hty : TysOk P tys) {o : Oper} {T : TypeId} {x : Operand} {f : Nat} {E : Eff} (hop : o.op = .field T x f) (h : stField (fun t => look t tys) L T x f = some E) : StepOK P F (fun t => look t L) H nx o E := by
  unfold stField at h
  split at h
  · rename_i I hI
    obtain ⟨d, hd, hId⟩ := (hty _ _ hI).und
    split at h
    · rename_i fs hfs
      rw [hfs] at hId
      obtain ⟨fields, rfl, rfl⟩ := hId
      split at h
      · rename_i off t hf
        obtain ⟨fd, hfd, rfl, rfl⟩ := field_of hf
        split at h
        · rename_i J hJ
          split at h
          · rename_i cs hx
            split at h
            · rename_i l hl
              split at h
              · rename_i v hv
                cases h
                refine step_pure fun e a w S => ?_
                have hx' : a.eval x = .agg (cs.map (CV.den e)).toArray := ev_ok S hx
                simp only [execOp, hop, hx', Instr.field, Sem.run_bind, run_underlying hd, Result.andThen_ok, hfd, asAgg, Sem.run_pure, run_part (hty _ _ hJ) hl hv e]
                rfl
              · cases h
            · cases h
          · cases h
        · cases h
      · cases h
    · cases h
  · cases h
def stIndexAddr (ty : TypeId → Option Ty) (L : LL) (H : HL) (T : TypeId) (x ix : Operand) : Option Eff := match ty T with
  | some I => match ev L ix with
    | some (.c (.i _ i)) => match I.d with
      | .slice e => match ty e with
        | some J => match ev L x with
          | some (.c (.sl n off len _)) => oneP (.p n (off + i.toNat * J.size)) [0 ≤ i ∧ i < (len : Int)]
          | some (.c (.nm n)) => match lookH H n with
            | some (_, .rd s len _) => match Nat.beq s J.size with
              | true => oneP (.el n (i.toNat * J.size)) [0 ≤ i ∧ i < (len : Int), 0 < J.size]
              | false => none
            | some (_, .own _ s len _) => match Nat.beq s J.size with
              | true => oneP (.el n (i.toNat * J.size)) [0 ≤ i ∧ i < (len : Int), 0 < J.size]
              | false => none
            | _ => none
          | _ => none
        | none => none
      | .arr len e => match ty e with
        | some J => match ev L x with
          | some (.c (.p n off)) => oneP (.p n (off + i.toNat * J.size)) [0 ≤ i ∧ i < (len : Int)]
          | _ => none
        | none => none
      | _ => none
    | _ => none
  | none => none
theorem run_indexAt_sl {P : Program} {w : World} {T E : TypeId} {J : Ty} (hu : P.underlying T = some (.slice E)) (hJ : TyOk P E J) (a : Addr) (len cap : Nat) (k : IntKind) (i : Int) (h : 0 ≤ i ∧ i < (len : Int)) : (Instr.indexAt T (.slice (some a) len cap) (.int k i)).run P w = .ok (.pointer (some (a.add (i.toNat * J.size)))) w := by
  simp [Instr.indexAt, asIntOf, run_underlying hu, h, hJ.run_size]
theorem run_indexAt_arr {P : Program} {w : World} {T E : TypeId} {J : Ty} {len : Nat} (hu : P.underlying T = some (.array len E)) (hJ : TyOk P E J) (a : Addr) (k : IntKind) (i : Int) (h : 0 ≤ i ∧ i < (len : Int)) : (Instr.indexAt T (.pointer (some a)) (.int k i)).run P w = .ok (.pointer (some (a.add (i.toNat * J.size)))) w := by
  simp [Instr.indexAt, asIntOf, run_underlying hu, h, hJ.run_size, Instr.sureAddr]
theorem stIndexAddr_ok {P : Program} {F : Frm} {L : LL} {H : HL} {nx : Nat} {tys : List (Nat × Ty)} (hty : TysOk P tys) {o : Oper} {T : TypeId} {x ix : Operand} {E : Eff} (hop : o.op = .indexAddr T x ix)
    (h : stIndexAddr (fun t => look t tys) L H T x ix = some E) (ho : allP E.obs) : StepOK P F (fun t => look t L) (lookH H) nx o E := by
  unfold stIndexAddr at h
  split at h
  · rename_i I hI
    obtain ⟨d, hd, hId⟩ := (hty _ _ hI).und
    split at h
    · rename_i k i hix
      split at h
      · rename_i El hEl
        rw [hEl] at hId
        simp only [TyD.is] at hId
        subst hId
        split at h
        · rename_i J hJ
          split at h
          · rename_i n off len cap hx
            cases h
            refine step_pure fun e a w S => ?_
            have hx' : a.eval x = .slice (some ⟨e.blk n, off, none⟩) len cap := ev_ok S hx
            have hi' : a.eval ix = .int k i := ev_ok S hix
            simp only [execOp, hop, hx', hi', Sem.run_bind, run_indexAt_sl hd (hty _ _ hJ) _ _ _ _ _ ho.1, Result.andThen_ok, Sem.run_pure, lit_add]
            rfl
          · rename_i n hx
            have go : ∀ (b : Bool) (ob : Ob) (s len : Nat) (xs : List Value), lookH H n = some (b, ob) → Nat.beq s J.size = true → (∀ (e : Env) (w : World), ob.holds e n w → (∃ A c, e.val n = .slice A len c) ∧ xs.length = len * s ∧ ∀ j u, xs[j]? = some u → ∃ a l c, e.val n = .slice (some a) l c ∧ w.cell? (a.add j) = some u) →
                oneP (.el n (i.toNat * J.size)) [0 ≤ i ∧ i < (len : Int), 0 < J.size] = some E → StepOK P F (fun t => look t L) (lookH H) nx o E := by
              intro b ob s len xs hn hs hob h
              cases h
              rw [beq_nat] at hs
              subst hs
              obtain ⟨hb, hp, _⟩ := ho
              refine step_pure fun e a w S => ?_
              obtain ⟨⟨A, c, hA⟩, hlen, hrow⟩ := hob e w (S.ob n b _ hn).1
              have h0 : 0 < xs.length := by
                rw [hlen]
                exact Nat.mul_pos (by omega) hp
              obtain ⟨ad, l, c', hval, _⟩ := hrow 0 _ (List.getElem?_eq_getElem h0)
              have hx' : a.eval x = .slice (some ad) len c' := by
                rw [ev_ok S hx]
                rw [hval] at hA
                cases hA
                exact hval
              have hi' : a.eval ix = .int k i := ev_ok S hix
              simp only [execOp, hop, hx', hi', Sem.run_bind, run_indexAt_sl hd (hty _ _ hJ) _ _ _ _ _ hb, Result.andThen_ok, Sem.run_pure]
              simp [SV.den, TV.den, CV.den, hval]
            split at h
            · rename_i b s len xs hn
              split at h
              · rename_i hs
                exact go b _ s len xs hn hs (fun e w hh => ⟨by obtain ⟨A, c, h1, _⟩ := hh; exact ⟨A, c, h1⟩, by obtain ⟨A, c, _, ⟨h1, _⟩, _⟩ := hh; exact h1, row_cell hh⟩) h
              · cases h
            · rename_i b t s len xs hn
              split at h
              · rename_i hs
                refine go b _ s len xs hn hs (fun e w hh => ⟨?_, hh.1.1, row_cell hh⟩) h
                rcases hh.1.2 with ⟨h1, h2⟩ | ⟨g, cap, cur, h1, _⟩
                · subst h2; exact ⟨_, _, h1⟩
                · exact ⟨_, _, h1⟩
              · cases h
            · cases h
          · cases h
        · cases h
      · rename_i len El hEl
        rw [hEl] at hId
        simp only [TyD.is] at hId
        subst hId
        split at h
        · rename_i J hJ
          split at h
          · rename_i n off hx
            cases h
            refine step_pure fun e a w S => ?_
            have hx' : a.eval x = .pointer (some ⟨e.blk n, off, none⟩) := ev_ok S hx
            have hi' : a.eval ix = .int k i := ev_ok S hix
            simp only [execOp, hop, hx', hi', Sem.run_bind, run_indexAt_arr hd (hty _ _ hJ) _ _ _ ho.1, Result.andThen_ok, Sem.run_pure, lit_add]
            rfl
          · cases h
        · cases h
      · cases h
    · cases h
  · cases h
def byteAt (s : ByteArray) (j : Nat) : Int := ((s[j]?).map (fun b : UInt8 => (b.toNat : Int))).getD 0
def stIndex (ty : TypeId → Option Ty) (orc : List (Nat × Orc)) (L : LL) (d : Option Tmp) (T : TypeId) (x ix : Operand) : Option Eff := match ty T with
  | some I => match ev L ix with
    | some (.c (.i _ i)) => match ev L x with
      | some (.c (.s s)) => match I.d with
        | .str => oneP (.i .u8 (byteAt s i.toNat)) [0 ≤ i ∧ i < (s.size : Int)]
        | _ => none
      | some (.agg cs) => match I.d with
        | .arr len e => match ty e with
          | some J => match ldOf d orc with
            | some vs => match bare (flatN (cs.map CV.ns)), bare (flatN (vs.map CV.ns)), Nat.beq (lenC vs) J.size, mkV J vs with
              | true, true, true, some v => some ⟨.t v, [], [], [0 ≤ i ∧ i < (len : Int), rowAt (cs.map (CV.den e0)) (i.toNat * J.size) vs]⟩
              | _, _, _, _ => none
            | none => match takeC J.size (dropC (i.toNat * J.size) cs) with
              | some l => match mkV J l with
                | some v => some ⟨.t v, [], [], [0 ≤ i ∧ i < (len : Int)]⟩
                | none => none
              | none => none
          | none => none
        | _ => none
      | _ => none
    | _ => none
  | none => none
theorem run_part_at {P : Program} {w : World} {T : TypeId} {I : Ty} (hT : TyOk P T I) {xs : List Value} {l : List CV} {off : Nat} {v : TV} (hl : l.length = I.size) (hv : mkV I l = some v) (hr : rowAt xs off l) (e : Env) (hb : l.map (CV.den e) = l.map (CV.den e0)) : (part T xs.toArray off).run P w = .ok (v.den e) w := by
  have hget := rowAt_get hr
  rw [mkV_cells hv e, hb]
  unfold part
  simp only [Sem.run_bind, hT.run_agg, Result.andThen_ok]
  cases hbb : I.d.agg with
  | true =>
    simp only [if_true, Sem.run_bind, hT.run_size, Result.andThen_ok, Sem.run_pure]
    congr 2
    simp only [List.extract_toArray, List.extract_eq_take_drop, Nat.add_sub_cancel_left]
    congr 2
    apply List.ext_getElem?
    intro j
    rw [List.getElem?_take, List.getElem?_drop]
    by_cases hj : j < I.size
    · rw [if_pos hj]
      have : (l.map (CV.den e0))[j]? = some ((l.map (CV.den e0))[j]'(by simp; omega)) := List.getElem?_eq_getElem _
      rw [this]
      exact hget j _ this
    · rw [if_neg hj, List.getElem?_eq_none (by simp; omega)]
  | false =>
    unfold mkV at hv
    rw [hbb] at hv
    simp only at hv
    split at hv
    · rename_i c
      have := hget 0 (c.den e0) (by simp)
      simp at this
      simp [this]
    · cases hv
theorem stIndex_ok {P : Program} {F : Frm} {L : LL} {H : HF} {nx : Nat} {tys : List (Nat × Ty)} (hty : TysOk P tys) {orc : List (Nat × Orc)} {o : Oper} {T : TypeId} {x ix : Operand} {E : Eff} (hop : o.op = .index T x ix)
    (h : stIndex (fun t => look t tys) orc L o.dst T x ix = some E) (ho : allP E.obs) : StepOK P F (fun t => look t L) H nx o E := by
  unfold stIndex at h
  split at h
  · rename_i I hI
    obtain ⟨d, hd, hId⟩ := (hty _ _ hI).und
    split at h
    · rename_i k i hix
      split at h
      · rename_i s hx
        split at h
        · rename_i hs
          rw [hs] at hId
          simp only [TyD.is] at hId
          subst hId
          cases h
          refine step_pure fun e a w S => ?_
          have hx' : a.eval x = .string s := ev_ok S hx
          have hi' : a.eval ix = .int k i := ev_ok S hix
          obtain ⟨h1, h2⟩ : 0 ≤ i ∧ i < (s.size : Int) := ho.1
          have hlt : i.toNat < s.size := by omega
          have hg : s[i.toNat]? = some s[i.toNat] := by rw [getElem?_pos s i.toNat hlt]
          simp [execOp, hop, hx', hi', Instr.index, asIntOf, run_underlying hd, h1, hg, SV.den, TV.den, CV.den, byteAt]
        · cases h
      · rename_i cs hx
        split at h
        · rename_i len El hEl
          rw [hEl] at hId
          simp only [TyD.is] at hId
          subst hId
          split at h
          · rename_i J hJ
            have hTJ := hty _ _ hJ
            split at h
            · rename_i vs hvs
              split at h
              · rename_i v hb1 hb2 hlen hv
                cases h
                obtain ⟨hi, hr, _⟩ := ho
                rw [beq_nat, lenC_eq] at hlen
                refine step_pure fun e a w S => ?_
                have hx' : a.eval x = .agg (cs.map (CV.den e)).toArray := ev_ok S hx
                rw [bare_map hb1 e] at hx'
                have hi' : a.eval ix = .int k i := ev_ok S hix
                have := run_part_at (P := P) (w := w) hTJ hlen hv hr e (bare_map hb2 e)
                simp [execOp, hop, hx', hi', Instr.index, asIntOf, run_underlying hd, hi, hTJ.run_size, this, SV.den]
              · cases h
            · split at h
              · rename_i l hl
                split at h
                · rename_i v hv
                  cases h
                  refine step_pure fun e a w S => ?_
                  have hx' : a.eval x = .agg (cs.map (CV.den e)).toArray := ev_ok S hx
                  have hi' : a.eval ix = .int k i := ev_ok S hix
                  have hi : 0 ≤ i ∧ i < (len : Int) := ho.1
                  have := run_part (P := P) (w := w) hTJ hl hv e
                  simp [execOp, hop, hx', hi', Instr.index, asIntOf, run_underlying hd, hi, hTJ.run_size, this, SV.den]
                · cases h
              · cases h
          · cases h
        · cases h
      · cases h
    · cases h
  · cases h
end Vc
namespace Vc
open Go Go.RowKit

def stExtract (L : LL) (x : Operand) (k : Nat) : Option Eff := match evS L x with
  | some (.tup vs) => match nth k vs with
    | some v => some ⟨.t v, [], [], []⟩
    | none => none
  | _ => none
theorem stExtract_ok {P : Program} {F : Frm} {L : LL} {H : HF} {nx : Nat} {o : Oper} {x : Operand} {k : Nat} {E : Eff} (hop : o.op = .extract x k) (h : stExtract L x k = some E) : StepOK P F (fun t => look t L) H nx o E := by
  unfold stExtract at h
  split at h
  · rename_i vs hx
    split at h
    · rename_i v hv
      cases h
      rw [nth_eq] at hv
      refine step_pure fun e a w S => ?_
      have hx' : a.eval x = .tuple (vs.map (TV.den e)).toArray := evS_ok S hx
      simp [execOp, hop, hx', Instr.extract, hv, SV.den]
    · cases h
  · cases h
def stUn (L : LL) (op : UnOp) (x : Operand) : Option Eff := match ev L x with
  | some (.c c) => unO op c
  | _ => none
theorem stUn_ok {P : Program} {F : Frm} {L : LL} {H : HF} {nx : Nat} {o : Oper} {op : UnOp} {T : TypeId} {x : Operand} {E : Eff} (hop : o.op = .unOp op T x) (h : stUn L op x = some E) : StepOK P F (fun t => look t L) H nx o E := by
  unfold stUn at h
  split at h
  · rename_i c hx
    unfold unO at h
    split at h
    · rename_i b
      cases h
      refine step_pure fun e a w S => ?_
      have hx' : a.eval x = .bool b := ev_ok S hx
      simp [execOp, hop, hx', Op.unary, SV.den, TV.den, CV.den]
    · rename_i k i
      cases h
      refine step_pure fun e a w S => ?_
      have hx' : a.eval x = .int k i := ev_ok S hx
      simp [execOp, hop, hx', Op.unary, Op.intArith, SV.den, TV.den, CV.den]
    · cases h
  · cases h
def stConv (ty : TypeId → Option Ty) (L : LL) (src dst : TypeId) (x : Operand) : Option Eff := match ty src, ty dst with
  | some _, some J => match J.d with
    | .int k => match ev L x with
      | some (.c (.i _ n)) => one (.i k (k.wrap n))
      | _ => none
    | .str => match ev L x with
      | some (.c (.s s)) => one (.s s)
      | _ => none
    | _ => none
  | _, _ => none
theorem stConv_ok {P : Program} {F : Frm} {L : LL} {H : HF} {nx : Nat} {tys : List (Nat × Ty)} (hty : TysOk P tys) {o : Oper} {src dst : TypeId} {x : Operand} {E : Eff} (hop : o.op = .convert src dst x) (h : stConv (fun t => look t tys) L src dst x = some E) : StepOK P F (fun t => look t L) H nx o E := by
  unfold stConv at h
  split at h
  · rename_i I J hI hJ
    obtain ⟨d, hd, hId⟩ := (hty _ _ hI).und
    obtain ⟨d', hd', hJd⟩ := (hty _ _ hJ).und
    split at h
    · rename_i k hk
      rw [hk] at hJd
      simp only [TyD.is] at hJd
      subst hJd
      split at h
      · rename_i k' n hx
        cases h
        refine step_pure fun e a w S => ?_
        have hx' : a.eval x = .int k' n := ev_ok S hx
        simp [execOp, hop, hx', convert, run_underlying hd, run_underlying hd', Conv.intToInt, SV.den, TV.den, CV.den]
      · cases h
    · rename_i hk
      rw [hk] at hJd
      simp only [TyD.is] at hJd
      subst hJd
      split at h
      · rename_i s hx
        cases h
        refine step_pure fun e a w S => ?_
        have hx' : a.eval x = .string s := ev_ok S hx
        simp [execOp, hop, hx', convert, run_underlying hd, run_underlying hd', SV.den, TV.den, CV.den]
      · cases h
    · cases h
  · cases h
def stNil (L : LL) (x : Operand) : Option Eff := match ev L x with
  | some (.c (.p n o)) => one (.p n o)
  | _ => none
theorem stNil_ok {P : Program} {F : Frm} {L : LL} {H : HF} {nx : Nat} {o : Oper} {x : Operand} {E : Eff} (hop : o.op = .nilCheck x) (h : stNil L x = some E) : StepOK P F (fun t => look t L) H nx o E := by
  unfold stNil at h
  split at h
  · rename_i n off hx
    cases h
    refine step_pure fun e a w S => ?_
    have hx' : a.eval x = .pointer (some ⟨e.blk n, off, none⟩) := ev_ok S hx
    simp [execOp, hop, hx', SV.den, TV.den, CV.den]
  · cases h
def isEq : BinOp → Option Bool
  | .eql => some true
  | .neq => some false
  | _ => none
def isNilV : CV → Option Bool
  | .np => some true
  | .p _ _ => some false
  | .nsl => some true
  | .sl _ _ _ _ => some false
  | _ => none
theorem eq_bool (d : Nat) {P : Program} {w : World} {T : TypeId} (h : P.underlying T = some .bool) (p q : Bool) : (Op.equalIn (d + 1) T (.bool p) (.bool q)).run P w = .ok (p == q) w := by simp [Op.equalIn, run_underlying h]
theorem eq_nn (d : Nat) {P : Program} {w : World} {T el : TypeId} (h : P.underlying T = some (.pointer el)) : (Op.equalIn (d + 1) T (.pointer none) (.pointer none)).run P w = .ok true w := by simp [Op.equalIn, run_underlying h]
theorem eq_pn (d : Nat) {P : Program} {w : World} {T el : TypeId} (h : P.underlying T = some (.pointer el)) (a : Addr) : (Op.equalIn (d + 1) T (.pointer (some a)) (.pointer none)).run P w = .ok false w := by simp [Op.equalIn, run_underlying h]
theorem eq_sn (d : Nat) {P : Program} {w : World} {T el : TypeId} (h : P.underlying T = some (.slice el)) (a : Option Addr) (l c : Nat) : (Op.equalIn (d + 1) T (.slice a l c) (.slice none 0 0)).run P w = .ok a.isNone w := run_equalIn_slice_nil w d T el a l c h
def polB (pos r : Bool) : Bool := match pos with
  | true => r
  | false => !r
/-- Two values held against one another. -/
def stEq (ty : TypeId → Option Ty) (T : TypeId) (pos : Bool) : TV → TV → Option Eff
  | .agg cs, .agg ds => match ty T with
    | some I => match I.eqb, I.d.agg with
      | true, true => match eqT ty 30 T cs ds with
        | some r => one (.b (polB pos r))
        | none => none
      | _, _ => none
    | none => none
  | .c (.b x), .c (.b y) => match ty T with
    | some I => match I.d with
      | .bool => one (.b (polB pos (x == y)))
      | _ => none
    | none => none
  | .c x, .c .np => match ty T with
    | some I => match I.d, x with
      | .ptr, .np => one (.b (polB pos true))
      | .ptr, .p _ _ => one (.b (polB pos false))
      | _, _ => none
    | none => none
  | .c x, .c .nsl => match ty T with
    | some I => match I.d, x with
      | .slice _, .nsl => one (.b (polB pos true))
      | .slice _, .sl _ _ _ _ => one (.b (polB pos false))
      | _, _ => none
    | none => none
  | _, _ => none
def stBin (ty : TypeId → Option Ty) (L : LL) (op : BinOp) (T : TypeId) (x y : Operand) : Option Eff := match ev L x, ev L y with
  | some (.c (.i k a)), some (.c (.i k' b)) => binI op k a k' b
  | some (.c (.s a)), some (.c (.s b)) => binS op a b
  | some v, some u => match isEq op with
    | some pos => stEq ty T pos v u
    | none => none
  | _, _ => none
theorem run_eq {P : Program} {w : World} {op : BinOp} {pos : Bool} (hop : isEq op = some pos) {T : TypeId} {x y : Value} {r : Bool} (h : (Op.equal T x y).run P w = .ok r w) (hx : ∀ k n, x ≠ .int k n) (hs : ∀ s, x ≠ .string s) (hf : ∀ k n, x ≠ .float k n) (hc : ∀ k a b, x ≠ .complex k a b) : (binOp op T x y).run P w = .ok (.bool (polB pos r)) w := by
  cases op <;> cases hop
  all_goals
    unfold binOp
    split <;> first | (simp_all; done) | skip
  all_goals simp [h, polB]
theorem stEq_ok {P : Program} {w : World} {tys : List (Nat × Ty)} (hty : TysOk P tys) {T : TypeId} {op : BinOp} {pos : Bool} (hop : isEq op = some pos) {v u : TV} {E : Eff} (h : stEq (fun t => look t tys) T pos v u = some E) (x y : Operand) : E.news = [] ∧ E.upd = [] ∧ ∃ c : CV, E.v = .t (.c c) ∧ ∀ e, (do eqGuard op T x y (v.den e) (u.den e); binOp op T (v.den e) (u.den e)).run P w = .ok (c.den e) w := by
  unfold stEq at h
  split at h
  · rename_i cs ds
    split at h
    · rename_i I hI
      split at h
      · rename_i hb hag
        split at h
        · rename_i r hr
          cases h
          refine ⟨rfl, rfl, _, rfl, fun e => ?_⟩
          obtain ⟨q1, q2, q3⟩ := (hty _ _ hI).eqs hb
          obtain ⟨_, heq⟩ := eqT_ok hty 30 10000 (by decide) T I cs ds r e w hI hr
          simp only [valC, hag, if_true] at heq
          have hg : (eqGuard op T x y (.agg (cs.map (CV.den e)).toArray) (.agg (ds.map (CV.den e)).toArray)).run P w = .ok () w := by
            cases op <;> cases hop
            all_goals simp [eqGuard, q2]
          have hbin := run_eq (w := w) hop (T := T) (x := .agg (cs.map (CV.den e)).toArray) (y := .agg (ds.map (CV.den e)).toArray) (r := r) heq (by simp) (by simp) (by simp) (by simp)
          simp only [TV.den, Sem.run_bind, hg, Result.andThen_ok, hbin, CV.den]
        · cases h
      · cases h
    · cases h
  · rename_i p q
    split at h
    · rename_i I hI
      obtain ⟨d, hd, hId⟩ := (hty _ _ hI).und
      split at h
      · rename_i hb
        rw [hb] at hId
        simp only [TyD.is] at hId
        subst hId
        cases h
        refine ⟨rfl, rfl, _, rfl, fun e => ?_⟩
        have heq : (Op.equal T (.bool p) (.bool q)).run P w = .ok (p == q) w := eq_bool 9999 hd p q
        have hbin := run_eq (w := w) hop (T := T) (x := .bool p) (y := .bool q) (r := (p == q)) heq (by simp) (by simp) (by simp) (by simp)
        have hg : (eqGuard op T x y (.bool p) (.bool q)).run P w = .ok () w := by cases op <;> rfl
        simp only [TV.den, CV.den, Sem.run_bind, hg, Result.andThen_ok, hbin]
      · cases h
    · cases h
  · split at h
    · rename_i I hI
      obtain ⟨d, hd, hId⟩ := (hty _ _ hI).und
      split at h
      · rename_i hb
        rw [hb] at hId
        obtain ⟨el, rfl⟩ := hId
        cases h
        refine ⟨rfl, rfl, _, rfl, fun e => ?_⟩
        have heq : (Op.equal T (.pointer none) (.pointer none)).run P w = .ok true w := eq_nn 9999 hd
        have hbin := run_eq (w := w) hop (T := T) (x := .pointer none) (y := .pointer none) (r := true) heq (by simp) (by simp) (by simp) (by simp)
        have hg : (eqGuard op T x y (.pointer none) (.pointer none)).run P w = .ok () w := by cases op <;> rfl
        simp only [TV.den, CV.den, Sem.run_bind, hg, Result.andThen_ok, hbin]
      · rename_i n off hb
        rw [hb] at hId
        obtain ⟨el, rfl⟩ := hId
        cases h
        refine ⟨rfl, rfl, _, rfl, fun e => ?_⟩
        have heq : (Op.equal T (.pointer (some ⟨e.blk n, off, none⟩)) (.pointer none)).run P w = .ok false w := eq_pn 9999 hd _
        have hbin := run_eq (w := w) hop (T := T) (x := .pointer (some ⟨e.blk n, off, none⟩)) (y := .pointer none) (r := false) heq (by simp) (by simp) (by simp) (by simp)
        have hg : (eqGuard op T x y (.pointer (some ⟨e.blk n, off, none⟩)) (.pointer none)).run P w = .ok () w := by cases op <;> rfl
        simp only [TV.den, CV.den, Sem.run_bind, hg, Result.andThen_ok, hbin]
      · cases h
    · cases h
  · split at h
    · rename_i I hI
      obtain ⟨d, hd, hId⟩ := (hty _ _ hI).und
      split at h
      · rename_i el hb
        rw [hb] at hId
        simp only [TyD.is] at hId
        subst hId
        cases h
        refine ⟨rfl, rfl, _, rfl, fun e => ?_⟩
        have heq : (Op.equal T (.slice none 0 0) (.slice none 0 0)).run P w = .ok true w := eq_sn 9999 hd none 0 0
        have hbin := run_eq (w := w) hop (T := T) (x := .slice none 0 0) (y := .slice none 0 0) (r := true) heq (by simp) (by simp) (by simp) (by simp)
        have hg : (eqGuard op T x y (.slice none 0 0) (.slice none 0 0)).run P w = .ok () w := by cases op <;> rfl
        simp only [TV.den, CV.den, Sem.run_bind, hg, Result.andThen_ok, hbin]
      · rename_i el n off len cap hb
        rw [hb] at hId
        simp only [TyD.is] at hId
        subst hId
        cases h
        refine ⟨rfl, rfl, _, rfl, fun e => ?_⟩
        have heq : (Op.equal T (.slice (some ⟨e.blk n, off, none⟩) len cap) (.slice none 0 0)).run P w = .ok false w := eq_sn 9999 hd _ len cap
        have hbin := run_eq (w := w) hop (T := T) (x := .slice (some ⟨e.blk n, off, none⟩) len cap) (y := .slice none 0 0) (r := false) heq (by simp) (by simp) (by simp) (by simp)
        have hg : (eqGuard op T x y (.slice (some ⟨e.blk n, off, none⟩) len cap) (.slice none 0 0)).run P w = .ok () w := by cases op <;> rfl
        simp only [TV.den, CV.den, Sem.run_bind, hg, Result.andThen_ok, hbin]
      · cases h
    · cases h
  · cases h
theorem stBin_ok {P : Program} {F : Frm} {L : LL} {H : HF} {nx : Nat} {tys : List (Nat × Ty)} (hty : TysOk P tys) {o : Oper} {op : BinOp} {T T' : TypeId} {x y : Operand} {E : Eff} (hop : o.op = .binOp op T x y T') (h : stBin (fun t => look t tys) L op T x y = some E) (ho : allP E.obs) : StepOK P F (fun t => look t L) H nx o E := by
  have key : ∀ (v u : TV) (c : CV), ev L x = some v → ev L y = some u → E.news = [] → E.upd = [] → E.v = .t (.c c) → (∀ e w, (do eqGuard op T x y (v.den e) (u.den e); binOp op T (v.den e) (u.den e)).run P w = .ok (c.den e) w) → StepOK P F (fun t => look t L) H nx o E := by
    intro v u c hv hu h1 h2 h3 hr
    rw [eff_eq h3 h1 h2]
    refine step_pure fun e a w S => ?_
    have := hr e w
    simp only [Sem.run_bind] at this
    simp only [execOp, hop, Sem.run_bind, ev_ok S hv, ev_ok S hu, this, Result.andThen_ok, Sem.run_pure]
    rfl
  unfold stBin at h
  split at h
  · rename_i k a k' b hx hy
    obtain ⟨h1, h2, c, h3, _, _⟩ := cmp_ok (P := P) (w := default) (T := T) h ho
    refine key _ _ c hx hy h1 h2 h3 fun e w => ?_
    obtain ⟨_, _, c', h3', _, h4⟩ := cmp_ok (P := P) (w := w) (T := T) h ho
    rw [h3] at h3'
    cases h3'
    simp only [TV.den, CV.den, Sem.run_bind, eqGuard_int, Result.andThen_ok, h4 e]
  · rename_i a b hx hy
    obtain ⟨h1, h2, c, h3, _⟩ := binS_ok (P := P) (w := default) (T := T) h ho
    refine key _ _ c hx hy h1 h2 h3 fun e w => ?_
    obtain ⟨_, _, c', h3', h4⟩ := binS_ok (P := P) (w := w) (T := T) h ho
    rw [h3] at h3'
    cases h3'
    simp only [TV.den, CV.den, Sem.run_bind, eqGuard_str, Result.andThen_ok, h4 e]
  · rename_i v u _ _ hx hy
    split at h
    · rename_i pos hpos
      obtain ⟨h1, h2, c, h3, _⟩ := stEq_ok (P := P) (w := default) hty hpos h x y
      refine key _ _ c hx hy h1 h2 h3 fun e w => ?_
      obtain ⟨_, _, c', h3', h4⟩ := stEq_ok (P := P) (w := w) hty hpos h x y
      rw [h3] at h3'
      cases h3'
      exact h4 e
    · cases h
  · cases h
end Vc
namespace Vc
open Go Go.RowKit

/-- A new name for a value that owns its block. -/
def isSl (v : Value) : Bool := match v with
  | .slice .. => true
  | _ => false
def Env.newV (e : Env) (n : Nat) (v : Value) : Env := ⟨e.blk, fun m => if m = n then (if v.oneCell' = true then v else uv) else e.val m, fun m => if m = n then (fun g => v.ownBlock = some g) else e.fp m, fun m => by
  show (if m = n then (if v.oneCell' = true then v else uv) else e.val m).oneCell' = true
  split
  · split
    · assumption
    · rfl
  · exact e.one m⟩
theorem Env.newV_same (e : Env) {n m : Nat} {v : Value} (h : m ≠ n) : e.same (e.newV n v) m := ⟨rfl, by simp [Env.newV, h], by simp [Env.newV, h]⟩
theorem Env.newV_val (e : Env) (n : Nat) {v : Value} (h : v.oneCell' = true) : (e.newV n v).val n = v := by simp [Env.newV, h]
theorem own_one {w : World} {B : Nat} {e : TypeId} {size n : Nat} {v : Value} {xs : List Value} (h : w.ownsRow B e size v n xs) : v.oneCell' = true := by
  rcases h.2 with ⟨rfl, _⟩ | ⟨g, cap, cur, rfl, _⟩ <;> rfl
theorem Env.newV_fp (e : Env) (n : Nat) (v : Value) (g : Nat) : (e.newV n v).fp n g ↔ v.ownBlock = some g := by simp [Env.newV]
theorem own_down {w : World} {B : Nat} {e : TypeId} {size n : Nat} {v : Value} {xs : List Value} (h : w.ownsRow B e size v n xs) : w.ownsRow 0 e size v n xs := by
  refine ⟨h.1, ?_⟩
  rcases h.2 with h2 | ⟨g, cap, cur, h3, _, h5⟩
  · exact .inl h2
  · exact .inr ⟨g, cap, cur, h3, Nat.zero_le _, h5⟩
/-- A row that has grown, under a new name; k: the name of the one that was. -/
theorem Mv.own {nx : Nat} {t : TypeId} {size len : Nat} {xs : List Value} {upd : List (Nat × Option Ob)} {obs : List Prop} {e : Env} {w w' : World} {v : Value} {row : Option Nat} (hg : w.grownBy w' row) (hown : w'.ownsRow 0 t size v len xs)
    (hrow : ∀ g, row = some g → ∃ n, (n, none) ∈ upd ∧ e.fp n g) (hnew : ∀ g, v.ownBlock = some g → (∃ n, (n, none) ∈ upd ∧ e.fp n g) ∨ w.heap.size ≤ g) (hu : ∀ n o, (n, o) ∈ upd → o = none) :
    Mv nx ⟨.t (.c (.nm nx)), [(true, .own t size len xs)], upd, obs⟩ e (e.newV nx v) w w' := by
  have h1v := own_one hown
  refine .old ⟨fun n hn => Env.newV_same e (by simp only [List.length_cons, List.length_nil] at hn; omega), hg.os, hg.tape, hg.output, hg.size, fun g hlt hno => ?_, fun k b o hk => ?_, fun j k hj hk hne => ?_, fun n o ho => by cases hu n _ ho⟩
  · refine hg.block g hlt fun he => ?_
    obtain ⟨n, hn, hfp⟩ := hrow g he.symm
    exact hno n none hn hfp
  · cases k with
    | zero =>
      cases hk
      refine ⟨⟨by rw [Nat.add_zero, Env.newV_val _ _ h1v]; exact hown, fun g => by rw [Nat.add_zero, Env.newV_fp, Env.newV_val _ _ h1v]⟩, fun g hgf => ?_⟩
      rw [Nat.add_zero, Env.newV_fp] at hgf
      refine ⟨(hown.lt g hgf).2, ?_⟩
      rcases hnew g hgf with h | h
      · exact .inr h
      · exact .inl h
    | succ k => simp at hk
  · simp at hj hk
    omega

/-- A slice that has a name: its elements' size, how many they are, the cells. -/
def rowInfo (H : HL) (n : Nat) : Option (Nat × Nat × List Value) := match lookH H n with
  | some (_, .rd s len xs) => some (s, len, xs)
  | some (_, .own _ s len xs) => some (s, len, xs)
  | _ => none
theorem rowInfo_ok {F : Frm} {L : LF} {H : HL} {e : Env} {a : Act} {w : World} (S : Sat F L (lookH H) e a w) {n s len : Nat} {xs : List Value} (h : rowInfo H n = some (s, len, xs)) :
    ∃ A c, e.val n = .slice A len c ∧ Rds w A len c s xs := by
  unfold rowInfo at h
  split at h
  · rename_i b s' len' xs' hn
    cases h
    obtain ⟨⟨A, c, h1, h2, _⟩, _⟩ := S.ob n b _ hn
    exact ⟨A, c, h1, h2⟩
  · rename_i b t s' len' xs' hn
    cases h
    obtain ⟨⟨hown, _⟩, _⟩ := S.ob n b _ hn
    rcases hown.2 with ⟨h1, h2⟩ | ⟨g, cap, cur, hv, _, _, h3, h4, _⟩
    · subst h2
      have hx : xs = [] := List.eq_nil_of_length_eq_zero (by simpa using hown.1)
      subst hx
      exact ⟨none, 0, h1, by simp, Nat.le_refl _, by decide, fun _ => rfl, fun j u hu => (by simp at hu)⟩
    · exact ⟨_, cap, hv, hown.1, h3, h4, fun h => (by cases h), fun j u hu => ⟨_, rfl, hown.cells (g := g) (by rw [hv]; rfl) j u hu⟩⟩
  · cases h
/-- What is appended: the cells, and how many elements. -/
def srcOf (H : HL) (size : Nat) : TV → Option (List Value × Nat × List Prop)
  | .c (.sl k off len _) => match lookH H k with
    | some (_, .cells cs _) => match takeC (len * size) (dropC off cs) with
      | some l => match flats l, bare (flatN (l.map CV.ns)) with
        | true, true => some (l.map (CV.den e0), len, [])
        | _, _ => none
      | none => none
    | _ => none
  | .c (.nm k) => match lookH H k with
    | some (_, .rd s len xs) => match Nat.beq s size with
      | true => some (xs, len, [∀ u ∈ xs, u.oneCell' = true])
      | false => none
    | some (_, .own _ s len xs) => match Nat.beq s size with
      | true => some (xs, len, [∀ u ∈ xs, u.oneCell' = true])
      | false => none
    | _ => none
  | .c .nsl => some ([], 0, [])
  | .c (.sub k off j len) => match rowInfo H k with
    | some (s, rl, xs) => match Nat.beq s size with
      | true => some ((xs.drop off).take (len * size), len, [∀ u ∈ xs, u.oneCell' = true, off = j * size, j + len ≤ rl])
      | false => none
    | none => none
  | _ => none
theorem srcOf_ok {F : Frm} {L : LL} {H : HL} {e : Env} {a : Act} {w : World} (S : Sat F (fun t => look t L) (lookH H) e a w) {size : Nat} {v : TV} {ys : List Value} {m : Nat} {ps : List Prop} (h : srcOf H size v = some (ys, m, ps)) (hp : allP ps) :
    ys.length = m * size ∧ (∀ u ∈ ys, u.oneCell' = true) ∧ ((v.den e = .slice none 0 0 ∧ m = 0) ∨ ∃ ad c, v.den e = .slice (some ad) m c ∧ ∀ j u, ys[j]? = some u → w.cell? (ad.add j) = some u) := by
  have named : ∀ (k : Nat) (b : Bool) (ob : Ob) (len : Nat) (xs : List Value), lookH H k = some (b, ob) → (∀ u ∈ xs, u.oneCell' = true) → (xs.length = len * size) → ((e.val k = .slice none 0 0 ∧ len = 0) ∨ ∃ ad c, e.val k = .slice (some ad) len c ∧ ∀ j u, xs[j]? = some u → w.cell? (ad.add j) = some u) →
      xs.length = len * size ∧ (∀ u ∈ xs, u.oneCell' = true) ∧ (((TV.c (.nm k)).den e = .slice none 0 0 ∧ len = 0) ∨ ∃ ad c, (TV.c (.nm k)).den e = .slice (some ad) len c ∧ ∀ j u, xs[j]? = some u → w.cell? (ad.add j) = some u) := fun k b ob len xs _ h1 h2 h3 => ⟨h2, h1, h3⟩
  unfold srcOf at h
  split at h
  · rename_i k off len cap
    split at h
    · rename_i b cs T hn
      split at h
      · rename_i l hl
        split at h
        · rename_i hf hb
          cases h
          obtain ⟨h1, h2⟩ := takeC_ok hl
          rw [dropC_eq] at h1
          refine ⟨by simp [h2], flats_one hf e0, .inr ⟨⟨e.blk k, off, none⟩, cap, rfl, fun j u hu => ?_⟩⟩
          obtain ⟨⟨_, hblk⟩, _⟩ := S.ob k b _ hn
          rw [lit_add, cell_of_row w (e.blk k) (off + j) _ T (0, 0) hblk]
          rw [← bare_map hb e, h1, List.getElem?_map, List.getElem?_take] at hu
          simp only [List.getElem?_toArray, List.getElem?_map]
          split at hu
          · rw [List.getElem?_drop] at hu; exact hu
          · cases hu
        · cases h
      · cases h
    · cases h
  · rename_i k
    split at h
    · rename_i b s len xs hn
      split at h
      · rename_i hs
        cases h
        rw [beq_nat] at hs
        subst hs
        obtain ⟨⟨A, c, h1, hR, _⟩, _⟩ := S.ob k b _ hn
        refine named k b _ _ _ hn hp.1 hR.1 ?_
        cases A with
        | none =>
          have hc := hR.2.2.2.1 rfl
          have hle := hR.2.1
          subst hc
          exact .inl ⟨by rw [h1]; simp only [Value.slice.injEq, true_and, and_true]; omega, by omega⟩
        | some ad =>
          refine .inr ⟨ad, c, h1, fun j u hu => ?_⟩
          obtain ⟨a', e', hc⟩ := hR.2.2.2.2 j u hu
          cases e'
          exact hc
      · cases h
    · rename_i b t s len xs hn
      split at h
      · rename_i hs
        cases h
        rw [beq_nat] at hs
        subst hs
        obtain ⟨⟨hown, _⟩, _⟩ := S.ob k b _ hn
        refine named k b _ _ _ hn hp.1 hown.1 ?_
        rcases hown.2 with ⟨h1, h2⟩ | ⟨g, cap, cur, hv, _⟩
        · exact .inl ⟨h1, h2⟩
        · exact .inr ⟨_, cap, hv, fun j u hu => hown.cells (g := g) (by rw [hv]; rfl) j u hu⟩
      · cases h
    · cases h
  · cases h
    exact ⟨by simp, by simp, .inl ⟨rfl, rfl⟩⟩
  · rename_i k off q len
    split at h
    · rename_i s rl xs hn
      split at h
      · rename_i hs
        cases h
        rw [beq_nat] at hs
        subst hs
        obtain ⟨p1, p2, p3, _⟩ := hp
        obtain ⟨A, c, h1, hR1, hR2, hR3, hR4, hR5⟩ := rowInfo_ok S hn
        have hle : (q + m) * s ≤ rl * s := Nat.mul_le_mul_right _ p3
        rw [Nat.add_mul] at hle
        refine ⟨by simp; omega, fun u hu => p1 u (List.mem_of_mem_drop (List.mem_of_mem_take hu)), ?_⟩
        cases A with
        | none =>
          have := hR4 rfl
          exact .inl ⟨by simp only [TV.den, CV.den, h1, Value.slice.injEq]; split <;> simp <;> omega, by omega⟩
        | some ad =>
          refine .inr ⟨if c = q then ad else ad.add off, c - q, by simp only [TV.den, CV.den, h1]; split <;> rfl, fun j u hu => ?_⟩
          rw [List.getElem?_take] at hu
          split at hu
          · rename_i hj
            rw [List.getElem?_drop] at hu
            have hc : c ≠ q := fun h => by
              have : m = 0 := by omega
              subst this
              omega
            rw [if_neg hc, add_add]
            obtain ⟨a', e', hcell⟩ := hR5 _ u hu
            cases e'
            exact hcell
          · cases hu
      · cases h
    · cases h
  · cases h
def stAppend (ty : TypeId → Option Ty) (L : LL) (H : HL) (nx : Nat) (T : TypeId) (x y : Operand) : Option Eff := match ty T with
  | some I => match I.d with
    | .slice E => match ty E with
      | some J => match J.size with
        | 0 => none
        | _ + 1 => match ev L x, ev L y with
          | some v, some u => match srcOf H J.size u with
            | some (ys, m, ps) => match v with
              | .c .nsl => some ⟨.t (.c (.nm nx)), [(true, .own E J.size (0 + m) (app [] ys))], [], (0 + m ≤ maxLen) :: ((0 + m) * J.bytes ≤ 140737488355328) :: ps⟩
              | .c (.nm n) => match lookH H n with
                | some (true, .own E' s len xs) => match Nat.beq E E', Nat.beq s J.size with
                  | true, true => some ⟨.t (.c (.nm nx)), [(true, .own E J.size (len + m) (app xs ys))], [(n, none)], (len + m ≤ maxLen) :: ((len + m) * J.bytes ≤ 140737488355328) :: ps⟩
                  | _, _ => none
                | _ => none
              | .c (.sl k off len cap) => match srcOf H J.size (.c (.sl k off len cap)) with
                | some (xs, _, qs) => some ⟨.t (.c (.nm nx)), [(true, .own E J.size (len + m) (app xs ys))], [], (cap < len + m) :: (0 < m) :: (len + m ≤ maxLen) :: ((len + m) * J.bytes ≤ 140737488355328) :: app ps qs⟩
                | none => none
              | _ => none
            | none => none
          | _, _ => none
      | none => none
    | _ => none
  | none => none
theorem stAppend_ok {P : Program} {F : Frm} {L : LL} {H : HL} {nx : Nat} {tys : List (Nat × Ty)} (hty : TysOk P tys) {o : Oper} {T T' : TypeId} {x y : Operand} {E : Eff} (hop : o.op = .call { callee := .builtin .append, args := #[x, y], argTypes := #[T, T'] }) (hTT : Nat.beq T T' = true)
    (h : stAppend (fun t => look t tys) L H nx T x y = some E) (ho : allP E.obs) : StepOK P F (fun t => look t L) (lookH H) nx o E := by
  rw [beq_nat] at hTT
  subst hTT
  unfold stAppend at h
  split at h
  · rename_i I hI
    obtain ⟨d, hd, hId⟩ := (hty _ _ hI).und
    split at h
    · rename_i El hEl
      rw [hEl] at hId
      simp only [TyD.is] at hId
      subst hId
      split at h
      · rename_i J hJ
        have hTJ := hty _ _ hJ
        obtain ⟨i, z, hi, hi1, hi2, hz, hzc⟩ := hTJ.info
        have hzs : z.cells.size = J.size := by rw [← Array.length_toList, hzc, List.length_map, hTJ.zlen]
        split at h
        · cases h
        · rename_i sz hsz
          have hpos : 0 < J.size := by omega
          split at h
          · rename_i v u hv hu
            split at h
            · rename_i ys m ps hsrc
              -- the run of the operation out of the run of the builtin
              have wp_of : ∀ (a : Act) (w w' : World) (r : Value) (K : Act → World → Prop) (Q : Exit → Act → World → Prop), (Builtin.append_ #[T, T] o.type #[a.eval x, a.eval y]).run P w = .ok r w' → K (a.put o.dst r) w' → o.wp P a w K Q := by
                intro a w w' r K Q hr hK
                refine wp_value ?_ hK
                simp [execOp, hop, resolve, invoke, builtin, hr]
              -- a row of its own, or nil, is appended to
              have grow : ∀ (e : Env) (a : Act) (w : World), Sat F (fun t => look t L) (lookH H) e a w → ∀ (r : Value) (n : Nat) (xs : List Value), a.eval x = r → w.ownsRow 0 El J.size r n xs → allP ps → n + m ≤ maxLen → (n + m) * J.bytes ≤ 140737488355328 →
                  ∃ v' w', (Builtin.append_ #[T, T] o.type #[a.eval x, a.eval y]).run P w = .ok v' w' ∧ w'.ownsRow 0 El J.size v' (n + m) (xs ++ ys) ∧ w.grownBy w' r.ownBlock ∧ (v'.ownBlock = r.ownBlock ∨ v'.ownBlock = some w.heap.size) := by
                intro e a w S r n xs hr hown hps h63 hby
                obtain ⟨s1, s2, s3⟩ := srcOf_ok S hsrc hps
                have hyv := ev_ok S hu
                rw [hr]
                rcases s3 with ⟨s4, s5⟩ | ⟨ad, c, s4, s5⟩
                · subst s5
                  have hys : ys = [] := List.eq_nil_of_length_eq_zero (by simpa using s1)
                  subst hys
                  refine ⟨r, w, ?_, ?_, ⟨rfl, rfl, rfl, Nat.le_refl _, fun _ _ _ => rfl⟩, .inl rfl⟩
                  · rw [hyv, s4]
                    exact run_append_owned_none (P := P) w 0 T o.type El i J.size hd hi r n xs hown
                  · simpa using hown
                · obtain ⟨v', w', g1, g2, g3, _, g5⟩ := run_append_own_at (P := P) (w := w) 0 T o.type El i z J.size J.bytes hd hi hz hi1 hi2 hzs hpos r n xs hown ad m c ys s1 s5 s2 h63 hby (Nat.zero_le _)
                  exact ⟨v', w', by rw [hyv, s4]; exact g1, g2, g3, g5⟩
              split at h
              · cases h
                obtain ⟨h1, h2, h3⟩ := ho
                intro hlow e a w S K Q hK
                obtain ⟨v', w', g1, g2, g3, g4⟩ := grow e a w S _ 0 [] (ev_ok S hv) ⟨by simp, .inl ⟨rfl, rfl⟩⟩ h3 h1 h2
                refine wp_of a w w' v' K Q g1 ?_
                have := hK (e.newV nx v') w' (Mv.own (row := none) ⟨g3.os, g3.tape, g3.output, g3.size, fun k hk _ => g3.block k hk (show ¬ some k = Value.ownBlock (.slice none 0 0) by simp [Value.ownBlock])⟩ (by rw [app_eq]; exact g2) (fun g hg => by cases hg) (fun g hg => ?_) (fun n o hm => by cases hm))
                · simpa [SV.den, TV.den, CV.den, Env.newV_val _ _ (own_one g2)] using this
                · rcases g4 with g4 | g4
                  · rw [hg] at g4; cases g4
                  · rw [hg] at g4; cases g4; exact .inr (Nat.le_refl _)
              · rename_i n
                split at h
                · rename_i E' s len xs hn
                  split at h
                  · rename_i hb1 hb2
                    rw [beq_nat] at hb1 hb2
                    subst hb1 hb2
                    cases h
                    obtain ⟨h1, h2, h3⟩ := ho
                    intro hlow e a w S K Q hK
                    obtain ⟨⟨hown, hfp⟩, _⟩ := S.ob n true _ hn
                    obtain ⟨v', w', g1, g2, g3, g4⟩ := grow e a w S (e.val n) len xs (ev_ok S hv) hown h3 h1 h2
                    refine wp_of a w w' v' K Q g1 ?_
                    have := hK (e.newV nx v') w' (Mv.own g3 (by rw [app_eq]; exact g2) (fun g hg => ⟨n, by simp, (hfp g).2 hg⟩) (fun g hg => ?_) (fun n' o hm => by simp at hm; exact hm.2))
                    · simpa [SV.den, TV.den, CV.den, Env.newV_val _ _ (own_one g2)] using this
                    · rcases g4 with g4 | g4
                      · exact .inl ⟨n, by simp, (hfp g).2 (by rw [← g4]; exact hg)⟩
                      · rw [hg] at g4; cases g4; exact .inr (Nat.le_refl _)
                  · cases h
                · cases h
              · rename_i k off len cap
                split at h
                · rename_i xs n' qs hsrc2
                  cases h
                  obtain ⟨hcap, hm, h1, h2, h3⟩ := ho
                  have hpq := allP_app.1 h3
                  intro hlow e a w S K Q hK
                  obtain ⟨s1, s2, s3⟩ := srcOf_ok S hsrc hpq.1
                  obtain ⟨q1, _, q3⟩ := srcOf_ok S hsrc2 hpq.2
                  have hlen : n' = len := by
                    unfold srcOf at hsrc2
                    simp only at hsrc2
                    split at hsrc2
                    · split at hsrc2
                      · split at hsrc2
                        · cases hsrc2; rfl
                        · cases hsrc2
                      · cases hsrc2
                    · cases hsrc2
                  subst hlen
                  have hxv : a.eval x = .slice (some ⟨e.blk k, off, none⟩) n' cap := ev_ok S hv
                  have hcell : ∀ j u, xs[j]? = some u → w.cell? ((⟨e.blk k, off, none⟩ : Addr).add j) = some u := by
                    rcases q3 with ⟨q4, _⟩ | ⟨ad, c, q4, q5⟩
                    · simp [TV.den, CV.den] at q4
                    · simp [TV.den, CV.den] at q4
                      obtain ⟨rfl, rfl⟩ := q4
                      exact q5
                  have hyv := ev_ok S hu
                  rcases s3 with ⟨s4, s5⟩ | ⟨ad, c, s4, s5⟩
                  · -- nothing is appended: there would be room
                    omega
                  · obtain ⟨v', w', g1, g2, g3⟩ := run_append_arg_grows (P := P) w T o.type El i z J.size J.bytes hd hi hz hi1 hi2 hzs hpos ⟨e.blk k, off, none⟩ n' cap xs q1 hcell ad m c ys s1 s5 hcap h1 h2
                    refine wp_of a w w' v' K Q (by rw [hxv, hyv, s4]; exact g1) ?_
                    have := hK (e.newV nx v') w' (Mv.own g3 (by rw [app_eq]; exact own_down g2) (fun g hg => by cases hg) (fun g hg => .inr (g2.lt g hg).1) (fun n o hm => by cases hm))
                    simpa [SV.den, TV.den, CV.den, Env.newV_val _ _ (own_one g2)] using this
                · cases h
              · cases h
            · cases h
          · cases h
      · cases h
    · cases h
  · cases h
end Vc
namespace Vc
open Go Go.RowKit

def stSliceArr (ty : TypeId → Option Ty) (L : LL) (T : TypeId) (x : Operand) : Option Eff := match ty T with
  | some I => match I.d with
    | .arr n E => match ty E with
      | some _ => match ev L x with
        | some (.c (.p k off)) => one (.sl k off n n)
        | _ => none
      | none => none
    | _ => none
  | none => none
theorem stSliceArr_ok {P : Program} {F : Frm} {L : LL} {H : HF} {nx : Nat} {tys : List (Nat × Ty)} (hty : TysOk P tys) {o : Oper} {T : TypeId} {x : Operand} {E : Eff} (hop : o.op = .slice T x none none none)
    (h : stSliceArr (fun t => look t tys) L T x = some E) : StepOK P F (fun t => look t L) H nx o E := by
  unfold stSliceArr at h
  split at h
  · rename_i I hI
    obtain ⟨d, hd, hId⟩ := (hty _ _ hI).und
    split at h
    · rename_i n El hEl
      rw [hEl] at hId
      simp only [TyD.is] at hId
      subst hId
      split at h
      · rename_i J hJ
        split at h
        · rename_i k off hx
          cases h
          refine step_pure fun e a w S => ?_
          have hx' : a.eval x = .pointer (some ⟨e.blk k, off, none⟩) := ev_ok S hx
          simp [execOp, hop, Instr.sliceAt, Instr.sureAddr, run_underlying hd, hx', Instr.sliceBounds, (hty _ _ hJ).run_size, SV.den, TV.den, CV.den, lit_add]
        · cases h
      · cases h
    · cases h
  · cases h

def capsO (L : LL) : List Operand → Option (List (Nat × Nat))
  | [] => some []
  | x :: l => match ev L x with
    | some (.c (.p n o)) => match capsO L l with
      | some r => some ((n, o) :: r)
      | none => none
    | _ => none
def stFunc (L : LL) (f : Fn) (first caps : List Operand) : Option Eff := match first with
  | [] => match capsO L caps with
    | some r => one (.fn f r)
    | none => none
  | _ :: _ => none
theorem capsO_ok {F : Frm} {L : LL} {H : HF} {e : Env} {a : Act} {w : World} (S : Sat F (fun t => look t L) H e a w) : ∀ {l : List Operand} {r : List (Nat × Nat)}, capsO L l = some r → l.map a.eval = r.map fun x => Value.pointer (some ⟨e.blk x.1, x.2, none⟩)
  | [], r, h => by cases h; rfl
  | x :: l, r, h => by
    unfold capsO at h
    split at h
    · rename_i n o hx
      split at h
      · rename_i r' hr
        cases h
        rw [List.map_cons, List.map_cons, capsO_ok S hr, ev_ok S hx]
        rfl
      · cases h
    · cases h
theorem stFunc_ok {P : Program} {F : Frm} {L : LL} {H : HF} {nx : Nat} {o : Oper} {f : Fn} {first caps : Array Operand} {E : Eff} (hop : o.op = .makeFunc f first caps)
    (h : stFunc L f first.toList caps.toList = some E) : StepOK P F (fun t => look t L) H nx o E := by
  unfold stFunc at h
  split at h
  · rename_i hf
    split at h
    · rename_i r hr
      cases h
      refine step_pure fun e a w S => ?_
      have h1 : first = #[] := by simpa using hf
      have h2 : caps.map a.eval = (r.map fun x => Value.pointer (some ⟨e.blk x.1, x.2, none⟩)).toArray := by
        rw [← capsO_ok S hr, ← List.map_toArray]
      simp [execOp, hop, Instr.makeFunc, h1, h2, SV.den, TV.den, CV.den]
    · cases h
  · cases h

/-- make of a slice, all of its length in use. -/
def stMake (ty : TypeId → Option Ty) (orc : List (Nat × Orc)) (L : LL) (nx : Nat) (d : Option Tmp) (T : TypeId) (x y : Operand) : Option Eff := match ty T with
  | some I => match I.d with
    | .slice E => match ty E with
      | some J => match J.size with
        | 0 => none
        | _ + 1 => match ev L x, ev L y with
          | some (.c (.i _ n)), some (.c (.i _ m)) => match (match d with | some d => look d orc | none => none) with
            | some (.dec true) => some ⟨.t (.c (.sl nx 0 n.toNat n.toNat)), [(true, .cells (repl n.toNat J.zero) E)], [], [n = m, 0 ≤ n, J.bytes * n.toNat ≤ 281474976710656, n.toNat ≤ maxLen]⟩
            | _ => some ⟨.t (.c (.nm nx)), [(true, .own E J.size n.toNat ((repl n.toNat J.zero).map (CV.den e0)))], [], [n = m, 0 ≤ n, J.bytes * n.toNat ≤ 281474976710656, n.toNat ≤ maxLen]⟩
          | _, _ => none
      | none => none
    | _ => none
  | none => none
theorem made_eq {z : Value} {J : Ty} (hz : z.cells.toList = J.zero.map (CV.den e0)) (hpos : 0 < J.zero.length) (n : Nat) : madeCells z.cells (n * J.zero.length) = ((repl n J.zero).map (CV.den e0)).toArray := by
  apply Array.ext'
  have h := repl_zero (J.zero.map (CV.den e0)) (by simpa using hpos) n
  rw [repl_map, ← h, List.length_map]
  have hs : z.cells.size = J.zero.length := by rw [← Array.length_toList, hz, List.length_map]
  unfold madeCells
  rw [Array.toList_map, Array.toList_range]
  refine List.map_congr_left fun i _ => ?_
  rw [hs, ← hz, Array.getElem?_toList]
  simp [Array.getElem!_eq_getD, Array.getD_eq_getD_getElem?]
theorem stMake_ok {P : Program} {F : Frm} {L : LL} {H : HF} {nx : Nat} {tys : List (Nat × Ty)} (hty : TysOk P tys) {orc : List (Nat × Orc)} {o : Oper} {T : TypeId} {x y : Operand} {E : Eff} (hop : o.op = .makeSlice T x y)
    (h : stMake (fun t => look t tys) orc L nx o.dst T x y = some E) (ho : allP E.obs) : StepOK P F (fun t => look t L) H nx o E := by
  unfold stMake at h
  split at h
  · rename_i I hI
    obtain ⟨d, hd, hId⟩ := (hty _ _ hI).und
    split at h
    · rename_i El hEl
      rw [hEl] at hId
      simp only [TyD.is] at hId
      subst hId
      split at h
      · rename_i J hJ
        have hTJ := hty _ _ hJ
        obtain ⟨i, z, hi, hi1, hi2, hz, hzc⟩ := hTJ.info
        split at h
        · cases h
        · rename_i sz hsz
          have hpos : 0 < J.zero.length := by rw [hTJ.zlen]; omega
          split at h
          · rename_i k n k' m hx hy
            split at h
            · cases h
              obtain ⟨h1, h2, h3, h4, _⟩ := ho
              subst h1
              refine step_newcells (T := El) (cs := repl n.toNat J.zero) (v := .sl nx 0 n.toNat n.toNat) (fun hlow m hm => ?_) fun e a w S => ?_
              · rw [mem_flatN] at hm
                obtain ⟨l, hl, hk⟩ := hm
                obtain ⟨c, hc, rfl⟩ := List.mem_map.1 hl
                have h2 : m ∈ flatN (J.zero.map CV.ns) := mem_flatN.2 ⟨_, List.mem_map.2 ⟨c, repl_mem hc, rfl⟩, hk⟩
                rw [hTJ.zns] at h2
                cases h2
              · have hb : (i.bytes : Int) * n ≤ 281474976710656 := by
                  have h5 : ((J.bytes * n.toNat : Nat) : Int) ≤ 281474976710656 := by omega
                  rw [Int.natCast_mul, Int.toNat_of_nonneg h2] at h5
                  rw [hi2]; exact h5
                have hr := run_make (P := P) w T El i z hd hi hz k k' n n h2 (Int.le_refl _) hb (by simp [maxLen] at h4; omega)
                have hm : madeCells z.cells (n.toNat * i.size) = ((repl n.toNat J.zero).map (CV.den e)).toArray := by
                  rw [hi1, ← hTJ.zlen, made_eq hzc hpos, repl_map, repl_map, hTJ.zero_den e]
                rw [hm] at hr
                have ex : a.eval x = .int k n := ev_ok S hx
                have ey : a.eval y = .int k' n := ev_ok S hy
                simp [execOp, hop, ex, ey, hr, CV.den, Env.new_blk]
            · cases h
              obtain ⟨h1, h2, h3, h4, _⟩ := ho
              subst h1
              intro hlow e a w S K Q hK
              obtain ⟨w', g1, g2, g3⟩ := run_make_full (P := P) w 0 T El i z J.size hd hi hz hi1 k k' n.toNat (by rw [hi2]; exact h3) h4 (Nat.zero_le _)
              rw [Int.toNat_of_nonneg h2] at g1
              have ex : a.eval x = .int k n := ev_ok S hx
              have ey : a.eval y = .int k' n := ev_ok S hy
              rw [← hTJ.zlen, made_eq hzc hpos, hTJ.zlen] at g2
              refine wp_value (w' := w') (v := .slice (some ⟨w.heap.size, 0, none⟩) n.toNat n.toNat) (by simp [execOp, hop, ex, ey, g1]) ?_
              have := hK (e.newV nx (.slice (some ⟨w.heap.size, 0, none⟩) n.toNat n.toNat)) w' (Mv.own (row := none) g3 g2 (fun g hg => by cases hg) (fun g hg => by cases hg; exact .inr (Nat.le_refl _)) (fun n o hm => by cases hm))
              simpa [SV.den, TV.den, CV.den, Env.newV_val (v := .slice (some ⟨w.heap.size, 0, none⟩) n.toNat n.toNat) _ _ rfl] using this
          · cases h
      · cases h
    · cases h
  · cases h

/-- A text out of bytes. -/
def bytesC : List CV → Option (List UInt8)
  | [] => some []
  | .i .u8 n :: l => match bytesC l with
    | some r => some (UInt8.ofNat n.toNat :: r)
    | none => none
  | _ => none
def stText (ty : TypeId → Option Ty) (orc : List (Nat × Orc)) (L : LL) (H : HL) (d : Option Tmp) (src dst : TypeId) (x : Operand) : Option Eff := match ty src, ty dst with
  | some I, some D => match I.d, D.d with
    | .slice E, .str => match ty E with
      | some J => match J.d with
        | .int .u8 => match ev L x with
          | some (.c .nsl) => one (.s ⟨#[]⟩)
          | some (.c (.sl k off len _)) => match lookH H k with
            | some (_, .cells cs _) => match takeC len (dropC off cs) with
              | some l => match bytesC l with
                | some bs => one (.s ⟨bs.toArray⟩)
                | none => none
              | none => none
            | _ => none
          | some (.c (.nm k)) => match lookH H k with
            | some (_, .own _ s len xs) => match Nat.beq s 1 with
              | true => match (match d with | some d => look d orc | none => none) with
                | some (.ret (.t (.c (.s b)))) => oneP (.s b) [xs = b.data.toList.map (fun c => Value.int .u8 c.toNat), len = b.size]
                | _ => none
              | false => none
            | _ => none
          | _ => none
        | _ => none
      | none => none
    | _, _ => none
  | _, _ => none
theorem bytesC_ok : ∀ {l : List CV} {bs : List UInt8}, bytesC l = some bs → ∃ ns : List Int, (∀ e, l.map (CV.den e) = ns.map (Value.int .u8)) ∧ bs = ns.map fun n => UInt8.ofNat n.toNat
  | [], bs, h => by cases h; exact ⟨[], by simp, rfl⟩
  | c :: l, bs, h => by
    unfold bytesC at h
    split at h
    · cases h; exact ⟨[], fun e => by simp_all, rfl⟩
    · rename_i n l' he
      cases he
      split at h
      · rename_i r hr
        cases h
        obtain ⟨ns, h1, h2⟩ := bytesC_ok hr
        exact ⟨n :: ns, fun e => by simp [h1, CV.den], by simp [h2]⟩
      · cases h
    · cases h
theorem run_text {P : Program} (w : World) {src dst e : TypeId} (hs : P.underlying src = some (.slice e)) (he : P.underlying e = some (.int .u8)) (hd : P.underlying dst = some .string)
    (a : Addr) (ns : List Int) (c : Nat) (h : ∀ j v, (ns.map (Value.int .u8))[j]? = some v → w.cell? (a.add j) = some v) :
    (convert src dst (.slice (some a) ns.length c)).run P w = .ok (.string ⟨(ns.map fun n => UInt8.ofNat n.toNat).toArray⟩) w := by
  rw [run_convert_bytes_string w src dst e (some a) ns.length c hs he hd]
  have hl := run_loadCells_list (P := P) w a (ns.map (Value.int .u8)) h
  rw [List.length_map] at hl
  rw [run_bytesToString w a ns.length c ns hl]
  have key : ∀ (l : List Int) (s : ByteArray), l.foldl (fun r n => r.push (UInt8.ofNat n.toNat)) s = ⟨s.data ++ (l.map fun n => UInt8.ofNat n.toNat).toArray⟩ := by
    intro l
    induction l with
    | nil => intro s; simp
    | cons b l ih => intro s; simp only [List.foldl_cons]; rw [ih]; simp [ByteArray.push]
  rw [key]
  simp
theorem run_text_nil {P : Program} (w : World) {src dst e : TypeId} (hs : P.underlying src = some (.slice e)) (he : P.underlying e = some (.int .u8)) (hd : P.underlying dst = some .string) :
    (convert src dst (.slice none 0 0)).run P w = .ok (.string ⟨#[]⟩) w := by
  rw [run_convert_bytes_string w src dst e none 0 0 hs he hd]
  simp [Conv.bytesToString]
  rfl
theorem bytes_back (b : ByteArray) : (⟨((b.data.toList.map fun c : UInt8 => (c.toNat : Int)).map fun n => UInt8.ofNat n.toNat).toArray⟩ : ByteArray) = b := by
  obtain ⟨⟨l⟩⟩ := b
  simp only [List.map_map]
  congr 2
  conv => rhs; rw [← List.map_id l]
  exact List.map_congr_left fun c _ => by simp
theorem stText_ok {P : Program} {F : Frm} {L : LL} {H : HL} {nx : Nat} {tys : List (Nat × Ty)} (hty : TysOk P tys) {orc : List (Nat × Orc)} {o : Oper} {src dst : TypeId} {x : Operand} {E : Eff} (hop : o.op = .convert src dst x)
    (h : stText (fun t => look t tys) orc L H o.dst src dst x = some E) (ho : allP E.obs) : StepOK P F (fun t => look t L) (lookH H) nx o E := by
  unfold stText at h
  split at h
  · rename_i I D hI hD
    obtain ⟨di, hdi, hId⟩ := (hty _ _ hI).und
    obtain ⟨dd, hdd, hDd⟩ := (hty _ _ hD).und
    split at h
    · rename_i El h1 h2
      rw [h1] at hId
      rw [h2] at hDd
      simp only [TyD.is] at hId hDd
      subst hId hDd
      split at h
      · rename_i J hJ
        obtain ⟨dj, hdj, hJd⟩ := (hty _ _ hJ).und
        split at h
        · rename_i hj
          rw [hj] at hJd
          simp only [TyD.is] at hJd
          subst hJd
          split at h
          · rename_i hx
            cases h
            refine step_pure fun e a w S => ?_
            have hx' : a.eval x = .slice none 0 0 := ev_ok S hx
            simp [execOp, hop, hx', run_text_nil w hdi hdj hdd, SV.den, TV.den, CV.den]
          · rename_i k off len cap hx
            split at h
            · rename_i b cs T hn
              split at h
              · rename_i l hl
                split at h
                · rename_i bs hbs
                  cases h
                  obtain ⟨ns, n1, n2⟩ := bytesC_ok hbs
                  obtain ⟨t1, t2⟩ := takeC_ok hl
                  rw [dropC_eq] at t1
                  refine step_pure fun e a w S => ?_
                  have hx' : a.eval x = .slice (some ⟨e.blk k, off, none⟩) len cap := ev_ok S hx
                  have hlen : ns.length = len := by
                    have := congrArg List.length (n1 e)
                    simp at this
                    omega
                  obtain ⟨⟨_, hblk⟩, _⟩ := S.ob k b _ hn
                  have hr := run_text (P := P) w hdi hdj hdd ⟨e.blk k, off, none⟩ ns cap fun j v hv => by
                    rw [lit_add, cell_of_row w (e.blk k) (off + j) _ T (0, 0) hblk]
                    rw [← n1 e, t1, List.getElem?_map, List.getElem?_take] at hv
                    simp only [List.getElem?_toArray, List.getElem?_map]
                    split at hv
                    · rw [List.getElem?_drop] at hv; exact hv
                    · cases hv
                  rw [hlen] at hr
                  simp [execOp, hop, hx', hr, SV.den, TV.den, CV.den, n2]
                · cases h
              · cases h
            · cases h
          · rename_i k hx
            split at h
            · rename_i b t s len xs hn
              split at h
              · rename_i hs
                rw [beq_nat] at hs
                subst hs
                split at h
                · rename_i bs _
                  cases h
                  obtain ⟨o1, o2, _⟩ := ho
                  refine step_pure fun e a w S => ?_
                  have hx' : a.eval x = e.val k := ev_ok S hx
                  obtain ⟨⟨hown, _⟩, _⟩ := S.ob k b _ hn
                  subst o1 o2
                  have hb := bytes_back bs
                  rcases hown.2 with ⟨q1, q2⟩ | ⟨g, cap, cur, hv, _⟩
                  · rw [q1] at hx'
                    have : bs = ⟨#[]⟩ := by
                      obtain ⟨⟨l⟩⟩ := bs
                      simp [ByteArray.size] at q2
                      subst q2
                      rfl
                    simp [execOp, hop, hx', run_text_nil w hdi hdj hdd, SV.den, TV.den, CV.den, this]
                  · have hr := run_text (P := P) w hdi hdj hdd ⟨g, 0, none⟩ (bs.data.toList.map fun c : UInt8 => (c.toNat : Int)) cap fun j v hu => hown.cells (g := g) (by rw [hv]; rfl) j v (by simpa using hu)
                    rw [hb] at hr
                    rw [hv] at hx'
                    have hl : (bs.data.toList.map fun c : UInt8 => (c.toNat : Int)).length = bs.size := by rw [List.length_map]; exact Array.length_toList
                    rw [hl] at hr
                    simp [execOp, hop, hx', hr, SV.den, TV.den, CV.den]
                · cases h
              · cases h
            · cases h
          · cases h
        · cases h
      · cases h
    · cases h
  · cases h
/-- A slice over a new block, as a row of its own. -/
theorem lit_own {P : Program} {F : Frm} {L : LF} {H : HF} {nx : Nat} {o : Oper} {T : TypeId} {cs : List CV} {n s : Nat} {obs : List Prop} (h : StepOK P F L H nx o ⟨.t (.c (.sl nx 0 n n)), [(true, .cells cs T)], [], obs⟩)
    (hb : bare (flatN (cs.map CV.ns)) = true) (hl : cs.length = n * s) (hm : n ≤ maxLen) : StepOK P F L H nx o ⟨.t (.c (.nm nx)), [(true, .own T s n (cs.map (CV.den e0)))], [], obs⟩ := by
  intro hlow e a w S K Q hK
  refine h hlow e a w S K Q fun e' w' M => ?_
  have hh : (Ob.cells cs T).holds e' nx w' ∧ ∀ g, e'.fp nx g → g < w'.heap.size ∧ w.heap.size ≤ g := by
    cases M with
    | old M =>
      obtain ⟨h1, h2⟩ := M.news 0 true _ rfl
      exact ⟨h1, fun g hg => ⟨(h2 g hg).1, (h2 g hg).2.elim id fun ⟨m, hm, _⟩ => (by cases hm)⟩⟩
    | anew M =>
      obtain ⟨h1, h2⟩ := M.news 0 true _ rfl
      exact ⟨h1, fun g hg => ⟨(h2 g hg).1, (h2 g hg).2.elim id fun ⟨m, q, hm, _⟩ => (by cases hm)⟩⟩
  obtain ⟨⟨hfp, hblk⟩, hlt⟩ := hh
  rw [bare_map hb e'] at hblk
  have hag : ∀ m, (m < nx ∨ nx + 1 ≤ m) → e.same e' m := by
    cases M with
    | old M => exact fun m hm => M.agree m hm
    | anew M => exact fun m hm => ⟨(M.agree m hm).1.1, (M.agree m hm).1.2, (M.agree m hm).2 fun o ho => (by cases ho)⟩
  have h1 : ∀ m, (if m = nx then Value.slice (some ⟨e'.blk nx, 0, none⟩) n n else e'.val m).oneCell' = true := fun m => by
    split
    · rfl
    · exact e'.one m
  have h2 := hK ⟨e'.blk, fun m => if m = nx then .slice (some ⟨e'.blk nx, 0, none⟩) n n else e'.val m, e'.fp, h1⟩ w' ?_
  · simpa [SV.den, TV.den, CV.den, Act.put] using h2
  refine .old ⟨fun m hm' => ?_, M.os, M.tape, M.out, M.size, fun g hg _ => M.block g hg fun _ _ h => (by cases h), fun k b q hk => ?_, fun j k hj hk hne => ?_, fun _ _ h => (by cases h)⟩
  · have hm' : m < nx ∨ nx + 1 ≤ m := hm'
    obtain ⟨h1, h2, h3⟩ := hag m hm'
    exact ⟨h1, (if_neg (by omega)).trans h2, h3⟩
  · cases k with
    | zero =>
      cases hk
      refine ⟨⟨⟨by simpa using hl, .inr ⟨e'.blk nx, n, (cs.map (CV.den e0)).toArray, if_pos rfl, Nat.zero_le _, hblk, Nat.le_refl _, hm, by simpa using hl, by rw [← hl]; show (cs.map (CV.den e0)).take cs.length = _; exact List.take_of_length_le (by simp)⟩⟩, fun g => ?_⟩, fun g hg => ⟨(hlt g hg).1, .inl (hlt g hg).2⟩⟩
      show e'.fp nx g ↔ Value.ownBlock (if nx + 0 = nx then Value.slice (some ⟨e'.blk nx, 0, none⟩) n n else e'.val (nx + 0)) = some g
      rw [if_pos (show nx + 0 = nx from rfl), hfp g]
      exact ⟨fun h => by rw [h]; rfl, fun h => (Option.some.inj h).symm⟩
    | succ k => simp at hk
  · simp at hj hk
    omega
def stLit (ty : TypeId → Option Ty) (L : LL) (nx : Nat) (T : TypeId) (n : Nat) (parts : List (Nat × Operand)) : Option Eff := match ty T with
  | some I => match I.d with
    | .slice e => match ty e with
      | some J => match stBuildSlice ty L nx T n parts with
        | some ⟨.t (.c (.sl a 0 b c)), [(true, .cells cs e')], [], []⟩ => match Nat.beq a nx, Nat.beq b n, Nat.beq c n, bare (flatN (cs.map CV.ns)), Nat.beq (lenC cs) (n * J.size), Nat.ble n 16777216 with
          | true, true, true, true, true, true => some ⟨.t (.c (.nm nx)), [(true, .own e' J.size n (cs.map (CV.den e0)))], [], []⟩
          | _, _, _, _, _, _ => none
        | _ => none
      | none => none
    | _ => none
  | none => none
theorem stLit_ok {P : Program} {F : Frm} {L : LL} {H : HF} {nx : Nat} {tys : List (Nat × Ty)} (hty : TysOk P tys) {o : Oper} {T : TypeId} {n : Nat} {parts : Array (Nat × Operand)} {E : Eff} (hop : o.op = .buildSlice T n parts) (h : stLit (fun t => look t tys) L nx T n parts.toList = some E) : StepOK P F (fun t => look t L) H nx o E := by
  unfold stLit at h
  split at h
  · split at h
    · split at h
      · split at h
        · rename_i hE
          split at h
          · rename_i h1 h2 h3 h4 h5 h6
            cases h
            rw [beq_nat] at h1 h2 h3 h5
            subst h1 h2 h3
            rw [lenC_eq] at h5
            exact lit_own (stBuildSlice_ok hty hop hE) h4 h5 (Nat.le_trans (Nat.le_of_ble_eq_true h6) (by decide))
          · cases h
        · cases h
      · cases h
    · cases h
  · cases h
end Vc
namespace Vc
open Go Go.RowKit

theorem TyOk.run_zeroV {P : Program} {T : TypeId} {I : Ty} (h : TyOk P T I) (w : World) : (zeroValue T).run P w = .ok (zVal I.d.agg (I.zero.map (CV.den e0))) w := by
  obtain ⟨i, hi, hz⟩ := h.zv
  simp [zeroValue, typeInfo, hi, hz]
/-- A map from integers: its values' type. -/
def mapT (ty : TypeId → Option Ty) (T : TypeId) : Option Ty := match ty T with
  | some I => match I.d with
    | .map kt et => match ty kt, ty et with
      | some K, some Z => match K.d with
        | .int .i64 => some Z
        | _ => none
      | _, _ => none
    | _ => none
  | none => none
theorem mapT_ok {P : Program} {tys : List (Nat × Ty)} (hty : TysOk P tys) {T : TypeId} {Z : Ty} (h : mapT (fun t => look t tys) T = some Z) : ∃ kt et, P.underlying T = some (.map kt et) ∧ P.underlying kt = some (.int .i64) ∧ ∀ w, (zeroValue et).run P w = .ok (zVal Z.d.agg (Z.zero.map (CV.den e0))) w := by
  unfold mapT at h
  split at h
  · rename_i I hI
    obtain ⟨d, hd, hId⟩ := (hty _ _ hI).und
    split at h
    · rename_i kt et hk
      rw [hk] at hId
      simp only [TyD.is] at hId
      subst hId
      split at h
      · rename_i K Z' hK hZ
        obtain ⟨d', hd', hKd⟩ := (hty _ _ hK).und
        split at h
        · rename_i hk'
          rw [hk'] at hKd
          simp only [TyD.is] at hKd
          subst hKd
          cases h
          exact ⟨kt, et, hd, hd', (hty _ _ hZ).run_zeroV⟩
        · cases h
      · cases h
    · cases h
  · cases h
def retOf (d : Option Tmp) (orc : List (Nat × Orc)) : Option SV := match d with
  | some d => match look d orc with
    | some (.ret v) => some v
    | _ => none
  | none => none
def mpOf (L : LL) (H : HL) (x : Operand) : Option (Option Nat × List (Int × Value)) := match ev L x with
  | some (.c (.mp n)) => match lookH H n with
    | some (_, .mp m) => some (some n, m)
    | _ => none
  | some (.c .nmp) => some (none, [])
  | _ => none
def stMakeMap (nx : Nat) : Option Eff := some ⟨.t (.c (.mp nx)), [(true, .mp [])], [], []⟩
theorem stMakeMap_ok {P : Program} {F : Frm} {L : LF} {H : HF} {nx : Nat} {o : Oper} {T : TypeId} {E : Eff} (hop : o.op = .makeMap T none) (h : stMakeMap nx = some E) : StepOK P F L H nx o E := by
  cases h
  intro hlow e a w S K Q hK
  refine wp_value (v := .map (some w.heap.size)) (w' := w.alloc (.map #[] 0)) (by simp [execOp, hop, Instr.makeMap, Result.andThen]) ?_
  have := hK (e.new nx w.heap.size) (w.alloc (.map #[] 0)) (Mv.new ⟨fun g => Env.new_fp e nx _ g, ?_⟩)
  · simpa [SV.den, TV.den, CV.den, Env.new_blk] using this
  · rw [Env.new_blk]
    exact ⟨#[], 0, heap_alloc_new w _, MapKept.stamped_empty 0, rfl, by simp⟩
def stLookup (ty : TypeId → Option Ty) (orc : List (Nat × Orc)) (L : LL) (H : HL) (d : Option Tmp) (T : TypeId) (x ix : Operand) (c : Bool) : Option Eff := match mapT ty T, mpOf L H x, ev L ix, retOf d orc with
  | some Z, some (_, m), some (.c (.i .i64 k)), some v => match bare v.ns with
    | true => some ⟨v, [], [], [lkV m k (zVal Z.d.agg (Z.zero.map (CV.den e0))) c = v.den e0]⟩
    | false => none
  | _, _, _, _ => none
theorem mpOf_ok {F : Frm} {L : LL} {H : HL} {e : Env} {a : Act} {w : World} (S : Sat F (fun t => look t L) (lookH H) e a w) {x : Operand} {r : Option Nat} {m : List (Int × Value)} (h : mpOf L H x = some (r, m)) :
    (∃ n b, r = some n ∧ ev L x = some (.c (.mp n)) ∧ lookH H n = some (b, .mp m) ∧ a.eval x = .map (some (e.blk n)) ∧ (∀ g, e.fp n g ↔ g = e.blk n) ∧ MapIs w (e.blk n) m) ∨ (r = none ∧ m = [] ∧ a.eval x = .map none) := by
  unfold mpOf at h
  split at h
  · rename_i n hx
    split at h
    · rename_i b m' hn
      cases h
      obtain ⟨⟨h1, h2⟩, _⟩ := S.ob n b _ hn
      exact .inl ⟨n, b, rfl, hx, hn, ev_ok S hx, h1, h2⟩
    · cases h
  · rename_i hx
    cases h
    exact .inr ⟨rfl, rfl, ev_ok S hx⟩
  · cases h
theorem stLookup_ok {P : Program} {F : Frm} {L : LL} {H : HL} {nx : Nat} {tys : List (Nat × Ty)} (hty : TysOk P tys) {orc : List (Nat × Orc)} {o : Oper} {T : TypeId} {x ix : Operand} {c : Bool} {E : Eff} (hop : o.op = .lookup T x ix c)
    (h : stLookup (fun t => look t tys) orc L H o.dst T x ix c = some E) (ho : allP E.obs) : StepOK P F (fun t => look t L) (lookH H) nx o E := by
  unfold stLookup at h
  split at h
  · rename_i Z r m k v hZ hx hk hv
    split at h
    · rename_i hb
      cases h
      have h1 : lkV m k _ c = v.den e0 := ho.1
      obtain ⟨kt, et, t1, t2, t3⟩ := mapT_ok hty hZ
      refine step_pure fun e a w S => ?_
      have hk' : a.eval ix = .int .i64 k := ev_ok S hk
      rw [bare_sv hb e, ← h1]
      rcases mpOf_ok S hx with ⟨n, b, rfl, _, _, hx', _, hm⟩ | ⟨rfl, rfl, hx'⟩
      · have := hm.run_lookup t1 t2 (t3 w) k c
        simp [execOp, hop, hx', hk', this]
      · have := run_lookup_nil (P := P) (w := w) t1 t2 (t3 w) k c
        simp [execOp, hop, hx', hk', this]
    · cases h
  · cases h
/-- A map that is written anew. -/
theorem mp_write {nx n : Nat} {v : SV} {obs : List Prop} {e : Env} {w : World} {m' : List (Int × Value)} {o : Obj} (hfp : ∀ g, e.fp n g ↔ g = e.blk n) (hm : MapIs { w with heap := w.heap.setIfInBounds (e.blk n) o } (e.blk n) m') :
    Mv nx ⟨v, [], [(n, some (.mp m'))], obs⟩ e e w { w with heap := w.heap.setIfInBounds (e.blk n) o } := by
  refine .old ⟨fun _ _ => ⟨rfl, rfl, rfl⟩, rfl, rfl, rfl, by simp, fun g hg hno => ?_, fun k b o hk => (by simp at hk), fun j k hj => (by simp at hj), fun q ob hq => ?_⟩
  · have : e.blk n ≠ g := fun he => hno n (some (.mp m')) (by simp) ((hfp g).2 he.symm)
    show (w.heap.setIfInBounds (e.blk n) o)[g]? = _
    rw [Array.getElem?_setIfInBounds_ne this]
  · simp at hq
    obtain ⟨rfl, rfl⟩ := hq
    exact ⟨hfp, hm⟩
def stMapUpdate (ty : TypeId → Option Ty) (L : LL) (H : HL) (T : TypeId) (x ix y : Operand) : Option Eff := match mapT ty T, mpOf L H x, ev L ix, ev L y with
  | some _, some (some n, m), some (.c (.i .i64 k)), some v => match bare v.ns with
    | true => upd1 n (.mp (mput k (v.den e0) m)) [inI64 k]
    | false => none
  | _, _, _, _ => none
theorem stMapUpdate_ok {P : Program} {F : Frm} {L : LL} {H : HL} {nx : Nat} {tys : List (Nat × Ty)} (hty : TysOk P tys) {o : Oper} {T : TypeId} {x ix y : Operand} {E : Eff} (hop : o.op = .mapUpdate T x ix y)
    (h : stMapUpdate (fun t => look t tys) L H T x ix y = some E) (ho : allP E.obs) : StepOK P F (fun t => look t L) (lookH H) nx o E := by
  unfold stMapUpdate at h
  split at h
  · rename_i Z n m k v hZ hx hk hv
    split at h
    · rename_i hb
      cases h
      have h1 : inI64 k := ho.1
      obtain ⟨kt, et, t1, t2, t3⟩ := mapT_ok hty hZ
      intro _ e a w S K Q hK
      have hk' : a.eval ix = .int .i64 k := ev_ok S hk
      have hv' : a.eval y = v.den e0 := by rw [ev_ok S hv, bare_tv hb e]
      rcases mpOf_ok S hx with ⟨n', b, hn', _, _, hx', hfp, hm⟩ | ⟨hn', _, _⟩
      · cases hn'
        obtain ⟨ob, r1, r2⟩ := hm.run_update t1 t2 k (v.den e0) h1
        refine wp_skipped (w' := { w with heap := w.heap.setIfInBounds (e.blk n) ob }) ?_ (hK e _ (mp_write hfp r2))
        simp [execOp, hop, hx', hk', hv', r1]
      · cases hn'
    · cases h
  · cases h
def stDelete (ty : TypeId → Option Ty) (L : LL) (H : HL) (T : TypeId) (x ix : Operand) : Option Eff := match mapT ty T, mpOf L H x, ev L ix with
  | some _, some (some n, m), some (.c (.i .i64 k)) => some ⟨.tup [], [], [(n, some (.mp (mdel k m)))], []⟩
  | _, _, _ => none
theorem stDelete_ok {P : Program} {F : Frm} {L : LL} {H : HL} {nx : Nat} {tys : List (Nat × Ty)} (hty : TysOk P tys) {o : Oper} {T T' : TypeId} {x ix : Operand} {E : Eff} (hop : o.op = .call { callee := .builtin .delete, args := #[x, ix], argTypes := #[T, T'] })
    (h : stDelete (fun t => look t tys) L H T x ix = some E) : StepOK P F (fun t => look t L) (lookH H) nx o E := by
  unfold stDelete at h
  split at h
  · rename_i Z n m k hZ hx hk
    cases h
    obtain ⟨kt, et, t1, t2, t3⟩ := mapT_ok hty hZ
    intro _ e a w S K Q hK
    have hk' : a.eval ix = .int .i64 k := ev_ok S hk
    rcases mpOf_ok S hx with ⟨n', b, hn', _, _, hx', hfp, hm⟩ | ⟨hn', _, _⟩
    · cases hn'
      obtain ⟨ob, r1, r2⟩ := hm.run_delete t1 t2 k (ats := #[T, T']) rfl o.type
      refine wp_value (v := .tuple #[]) (w' := { w with heap := w.heap.setIfInBounds (e.blk n) ob }) ?_ (by simpa [SV.den] using hK e _ (mp_write hfp r2))
      simp [execOp, hop, resolve, invoke, builtin, hx', hk', r1]
    · cases hn'
  · cases h
def stLenM (ty : TypeId → Option Ty) (L : LL) (H : HL) (T : TypeId) (x : Operand) : Option Eff := match mapT ty T, mpOf L H x with
  | some _, some (some _, m) => one (.i .i64 (m.length : Int))
  | _, _ => none
theorem stLenM_ok {P : Program} {F : Frm} {L : LL} {H : HL} {nx : Nat} {tys : List (Nat × Ty)} (hty : TysOk P tys) {o : Oper} {T : TypeId} {x : Operand} {E : Eff} (hop : o.op = .call { callee := .builtin .len, args := #[x], argTypes := #[T] })
    (h : stLenM (fun t => look t tys) L H T x = some E) : StepOK P F (fun t => look t L) (lookH H) nx o E := by
  unfold stLenM at h
  split at h
  · rename_i Z n m hZ hx
    cases h
    obtain ⟨kt, et, t1, t2, t3⟩ := mapT_ok hty hZ
    refine step_pure fun e a w S => ?_
    rcases mpOf_ok S hx with ⟨n', b, hn', _, _, hx', hfp, hm⟩ | ⟨hn', _, _⟩
    · have := hm.run_len t1 (ats := #[T]) rfl o.type
      simp [execOp, hop, resolve, invoke, builtin, hx', this, SV.den, TV.den, CV.den]
    · cases hn'
  · cases h
end Vc
namespace Vc
open Go Go.RowKit

/-- A function that only computes: what it returns of these arguments, whatever the memory. -/
structure Fn0 (P : Program) (f : FuncId) (args : List TV) (v : SV) : Prop where
  h : ∀ w, Calls P f (args.map (TV.den e0)).toArray w fun en w' => en = .returned (v.den e0) ∧ Below w.heap.size w w'
/-- What is known of the memory. -/
structure MemOk (H : HL) (e : Env) (w : World) : Prop where
  ob : ∀ n b o, lookH H n = some (b, o) → o.holds e n w ∧ ∀ g, e.fp n g → g < w.heap.size
  dj : ∀ n o m c q, lookH H n = some (true, o) → lookH H m = some (c, q) → n ≠ m → ∀ g, e.fp n g → ¬ e.fp m g
/-- A function that reads, makes or writes memory that has names. -/
structure FnH (P : Program) (f : FuncId) (args : List TV) (H : HL) (nx : Nat) (E : Eff) : Prop where
  h : (∀ n x, lookH H n = some x → n < nx ∧ ∀ m ∈ x.2.ns, m < nx) → (∀ v ∈ args, ∀ n ∈ v.ns, n < nx) → ∀ e w, MemOk H e w → Calls P f (args.map (TV.den e)).toArray w fun en w' => ∃ e', en = .returned (E.v.den e') ∧ Mv nx E e e' w w'
/-- Any operation, told by hand. -/
structure Spec (P : Program) (L : LL) (H : HL) (nx : Nat) (o : Oper) (E : Eff) : Prop where
  h : ∀ F, StepOK P F (fun t => look t L) (lookH H) nx o E
inductive Orc2 where
  | ret (v : SV)
  | call (E : Eff)
  | spec (E : Eff)

def fnB (P : Program) (f : FuncId) : Bool := match P.funcs[f]? with
  | some fn => fn.body.isSome && fn.name != "runtime.NumGoroutine"
  | none => false
def fnsB (P : Program) : List Nat → Bool
  | [] => true
  | f :: l => match fnB P f with
    | true => fnsB P l
    | false => false
theorem fnsB_ok {P : Program} {f : Nat} : ∀ {l : List Nat}, fnsB P l = true → inL f l = true → fnB P f = true
  | [], _, h => by cases h
  | g :: l, hb, h => by
    unfold fnsB at hb
    split at hb
    · rename_i h1
      unfold inL at h
      split at h
      · rename_i h2
        rw [(beq_nat f g).1 h2]; exact h1
      · exact fnsB_ok hb h
    · cases hb
theorem run_callFunc {P : Program} {w : World} {f : FuncId} (h : fnB P f = true) (args : Array Value) : (callFunc f args).run P w = .ok (.enter f args) w := by
  unfold fnB at h
  split at h
  · rename_i fn hf
    simp only [Bool.and_eq_true, Option.isSome_iff_ne_none] at h
    obtain ⟨h1, h2⟩ := h
    have h5 : fn.name ≠ "runtime.NumGoroutine" := by simpa using h2
    simp [callFunc, hf, h5, h1]
  · cases h
def evs (L : LL) : List Operand → Option (List TV)
  | [] => some []
  | x :: l => match ev L x with
    | some v => match evs L l with
      | some vs => some (v :: vs)
      | none => none
    | none => none
def capsV : List (Nat × Nat) → List TV
  | [] => []
  | (n, o) :: l => .c (.p n o) :: capsV l
def bares : List TV → Bool
  | [] => true
  | v :: l => match bare v.ns with
    | true => bares l
    | false => false
def stCall (P : Program) (fns : List Nat) (orc : List (Nat × Orc)) (L : LL) (H : HL) (nx : Nat) (d : Option Tmp) (f : Operand) (args : List Operand) : Option Eff := match ev L f with
  | some (.c (.fn (.func f) caps)) => match inL f fns with
    | true => match evs L args with
      | some vs => match d with
        | some d => match look d orc with
          | some (.ret v) => match bares (app vs (capsV caps)), bare v.ns with
            | true, true => fTs (app vs (capsV caps)) fun as => some ⟨v, [], [], [Fn0 P f as v]⟩
            | _, _ => none
          | some (.spec E) => match H with
            | [] => none
            | _ :: _ => fTs (app vs (capsV caps)) fun as => some ⟨E.v, E.news, E.upd, FnH P f as H nx E :: E.obs⟩
          | _ => none
        | none => none
      | none => none
    | false => none
  | _ => none
theorem evs_ok {F : Frm} {L : LL} {H : HF} {e : Env} {a : Act} {w : World} (S : Sat F (fun t => look t L) H e a w) : ∀ {l : List Operand} {vs : List TV}, evs L l = some vs → l.map a.eval = vs.map (TV.den e)
  | [], vs, h => by cases h; rfl
  | x :: l, vs, h => by
    unfold evs at h
    split at h
    · rename_i v hv
      split at h
      · rename_i vs' hvs
        cases h
        rw [List.map_cons, List.map_cons, evs_ok S hvs, ev_ok S hv]
      · cases h
    · cases h
theorem evs_low {L : LL} {H : HF} {nx : Nat} (hlow : Low (fun t => look t L) H nx) : ∀ {l : List Operand} {vs : List TV}, evs L l = some vs → ∀ v ∈ vs, ∀ n ∈ v.ns, n < nx
  | [], vs, h => by cases h; simp
  | x :: l, vs, h => by
    unfold evs at h
    split at h
    · rename_i v hv
      split at h
      · rename_i vs' hvs
        cases h
        intro y hy
        rcases List.mem_cons.1 hy with rfl | hy
        · exact ev_low hlow hv
        · exact evs_low hlow hvs y hy
      · cases h
    · cases h
theorem capsV_den (e : Env) : ∀ l : List (Nat × Nat), (capsV l).map (TV.den e) = l.map fun x => Value.pointer (some ⟨e.blk x.1, x.2, none⟩)
  | [] => rfl
  | (n, o) :: l => by rw [capsV, List.map_cons, List.map_cons, capsV_den e l]; rfl
theorem bares_den {l : List TV} (h : bares l = true) (e : Env) : l.map (TV.den e) = l.map (TV.den e0) := by
  induction l with
  | nil => rfl
  | cons v l ih =>
    unfold bares at h
    split at h
    · rename_i hb
      rw [List.map_cons, List.map_cons, ih h, bare_tv hb e]
    · cases h
theorem capsV_ns {n : Nat} : ∀ {l : List (Nat × Nat)} {v : TV}, v ∈ capsV l → n ∈ v.ns → n ∈ l.map (·.1)
  | [], v, h, _ => by cases h
  | (m, o) :: l, v, h, hn => by
    rcases List.mem_cons.1 h with rfl | h
    · have : n = m := by simpa [TV.ns, CV.ns] using hn
      subst this; simp
    · exact List.mem_cons.2 (.inr (capsV_ns h hn))
theorem Sat.memOk {F : Frm} {L : LF} {H : HL} {e : Env} {a : Act} {w : World} (S : Sat F L (lookH H) e a w) : MemOk H e w :=
  ⟨fun n b o h => ⟨(S.ob n b o h).1, fun g hg => ((S.ob n b o h).2 g hg).1⟩, S.dj⟩
theorem Mv.of_below {nx : Nat} {v : SV} {obs : List Prop} {e : Env} {w w' : World} (h : Below w.heap.size w w') : Mv nx ⟨v, [], [], obs⟩ e e w w' :=
  .old ⟨fun _ _ => ⟨rfl, rfl, rfl⟩, h.os, h.tape, h.output, h.size, fun g hg _ => h.block g hg, fun k b o hk => (by simp at hk), fun j k hj => (by simp at hj), fun n o ho => (by cases ho)⟩
theorem stCall_ok {P : Program} {F : Frm} {L : LL} {H : HL} {nx : Nat} {fns : List Nat} (hfn : fnsB P fns = true) {orc : List (Nat × Orc)} {o : Oper} {f : Operand} {args : Array Operand} {ats : Array TypeId} {E : Eff} (hop : o.op = .call { callee := .value f, args := args, argTypes := ats })
    (h : stCall P fns orc L H nx o.dst f args.toList = some E) (ho : allP E.obs) : StepOK P F (fun t => look t L) (lookH H) nx o E := by
  unfold stCall at h
  split at h
  · rename_i fid caps hf
    split at h
    · rename_i hin
      split at h
      · rename_i vs hvs
        have hwp : ∀ e (a : Act) w, Sat F (fun t => look t L) (lookH H) e a w → ∀ K Q, (Calls P fid ((app vs (capsV caps)).map (TV.den e)).toArray w fun en w' => ∃ v, en = .returned v ∧ K (a.put o.dst v) w') → o.wp P a w K Q := by
          intro e a w S K Q hc
          have hf' : a.eval f = .func (.func fid) #[] (caps.map fun x => Value.pointer (some ⟨e.blk x.1, x.2, none⟩)).toArray := ev_ok S hf
          have hargs : args.map a.eval = (vs.map (TV.den e)).toArray := by
            apply Array.ext'
            rw [Array.toList_map]
            simpa using evs_ok S hvs
          have hrun : (execOp a.eval o).run P w = .ok (.enter fid ((app vs (capsV caps)).map (TV.den e)).toArray) w := by
            simp only [execOp, hop, resolve, hf', hargs, Deferred.ofValue, invoke, Sem.run_bind, Sem.run_pure, Result.andThen_ok, run_callFunc (fnsB_ok hfn hin)]
            rw [app_eq, List.map_append, capsV_den]
            simp
          unfold Oper.wp
          rw [hrun, Oper.upon_enter]
          refine hc.mono ?_
          rintro en w' ⟨v, rfl, hk⟩
          exact hk
        split at h
        · rename_i d
          split at h
          · rename_i v hv
            split at h
            · rename_i hb1 hb2
              rw [fTs_eq] at h
              cases h
              obtain ⟨⟨hc⟩, _⟩ := ho
              intro _ e a w S K Q hK
              refine hwp e a w S K Q ?_
              rw [bares_den hb1 e]
              refine (hc w).mono ?_
              rintro en w' ⟨rfl, hb⟩
              refine ⟨_, rfl, ?_⟩
              have := hK e w' (Mv.of_below hb)
              simp only at this
              rwa [bare_sv hb2 e] at this
            · cases h
          · rename_i E' hE'
            split at h
            · cases h
            · rename_i hd tl
              rw [fTs_eq] at h
              cases h
              obtain ⟨⟨hc⟩, _⟩ := ho
              intro hlow e a w S K Q hK
              refine hwp e a w S K Q ?_
              refine (hc hlow.2 ?_ e w S.memOk).mono ?_
              · intro v hv n hn
                rw [app_eq] at hv
                rcases List.mem_append.1 hv with hv | hv
                · exact evs_low hlow hvs v hv n hn
                · exact ev_low hlow hf n (capsV_ns hv hn)
              · rintro en w' ⟨e', rfl, M⟩
                exact ⟨_, rfl, hK e' w' M.as⟩
          · cases h
        · cases h
      · cases h
    · cases h
  · cases h
/-- The length of a text or a slice. -/
def stLen (ty : TypeId → Option Ty) (L : LL) (H : HL) (T : TypeId) (x : Operand) : Option Eff := match ty T with
  | some I => match I.d, ev L x with
    | .str, some (.c (.s s)) => one (.i .i64 (s.size : Int))
    | .slice _, some (.c (.sl _ _ len _)) => one (.i .i64 (len : Int))
    | .slice _, some (.c .nsl) => one (.i .i64 0)
    | .slice _, some (.c (.raw (.slice _ len _))) => one (.i .i64 (len : Int))
    | .slice _, some (.c (.nm n)) => match lookH H n with
      | some (_, .rd _ len _) => one (.i .i64 (len : Int))
      | some (_, .own _ _ len _) => one (.i .i64 (len : Int))
      | _ => none
    | .slice _, some (.c (.sub n _ _ len)) => match rowInfo H n with
      | some _ => one (.i .i64 (len : Int))
      | none => none
    | _, _ => none
  | none => none
theorem stLen_ok {P : Program} {F : Frm} {L : LL} {H : HL} {nx : Nat} {tys : List (Nat × Ty)} (hty : TysOk P tys) {o : Oper} {T : TypeId} {x : Operand} {E : Eff} (hop : o.op = .call { callee := .builtin .len, args := #[x], argTypes := #[T] })
    (h : stLen (fun t => look t tys) L H T x = some E) : StepOK P F (fun t => look t L) (lookH H) nx o E := by
  unfold stLen at h
  split at h
  · rename_i I hI
    obtain ⟨d, hd, hId⟩ := (hty _ _ hI).und
    have slen : ∀ (El : TypeId), I.d = .slice El → ∀ len : Nat, (∀ e a w, Sat F (fun t => look t L) (lookH H) e a w → ∃ A c, a.eval x = .slice A len c) → StepOK P F (fun t => look t L) (lookH H) nx o ⟨.t (.c (.i .i64 (len : Int))), [], [], []⟩ := by
      intro El hEl len hx
      rw [hEl] at hId
      simp only [TyD.is] at hId
      subst hId
      refine step_pure fun e a w S => ?_
      obtain ⟨A, c, hx'⟩ := hx e a w S
      simp [execOp, hop, resolve, invoke, builtin, Builtin.len_, run_underlying hd, hx', goInt, SV.den, TV.den, CV.den]
    split at h
    · rename_i s hs hx
      rw [hs] at hId
      simp only [TyD.is] at hId
      subst hId
      cases h
      refine step_pure fun e a w S => ?_
      have hx' : a.eval x = .string s := ev_ok S hx
      simp [execOp, hop, resolve, invoke, builtin, Builtin.len_, run_underlying hd, hx', goInt, SV.den, TV.den, CV.den]
    · rename_i El n off len cap hEl hx
      cases h
      exact slen El hEl len fun e a w S => ⟨_, _, ev_ok S hx⟩
    · rename_i El hEl hx
      cases h
      exact slen El hEl 0 fun e a w S => ⟨_, _, ev_ok S hx⟩
    · rename_i El A len cap hEl hx
      cases h
      exact slen El hEl len fun e a w S => ⟨_, _, ev_ok S hx⟩
    · rename_i El n hEl hx
      split at h
      · rename_i b s len xs hn
        cases h
        refine slen El hEl len fun e a w S => ?_
        obtain ⟨A, c, h1, _⟩ := (S.ob n b _ hn).1
        exact ⟨A, c, (ev_ok S hx).trans h1⟩
      · rename_i b t s len xs hn
        cases h
        refine slen El hEl len fun e a w S => ?_
        obtain ⟨hown, _⟩ := (S.ob n b _ hn).1
        rcases hown.2 with ⟨h1, h2⟩ | ⟨g, cap, cur, h1, _⟩
        · subst h2; exact ⟨_, _, (ev_ok S hx).trans h1⟩
        · exact ⟨_, _, (ev_ok S hx).trans h1⟩
      · cases h
    · rename_i El n off q len hEl hx
      split at h
      · rename_i r hn
        obtain ⟨s, rl, xs⟩ := r
        cases h
        refine slen El hEl len fun e a w S => ?_
        obtain ⟨A, c, h1, _⟩ := rowInfo_ok S hn
        exact ⟨if c = q then A else A.map (·.add off), c - q, (ev_ok S hx).trans (by simp only [TV.den, CV.den, h1])⟩
      · cases h
    · cases h
  · cases h
def intO (L : LL) : Option Operand → Option (Option Int)
  | none => some none
  | some x => match ev L x with
    | some (.c (.i _ n)) => some (some n)
    | _ => none
/-- A text's part. -/
def stSlice (ty : TypeId → Option Ty) (L : LL) (T : TypeId) (x : Operand) (lo hi : Option Operand) : Option Eff := match ty T with
  | some I => match I.d with
    | .str => match ev L x, intO L lo, intO L hi with
      | some (.c (.s s)), some none, some none => one (.s (s.extract 0 s.size))
      | some (.c (.s s)), some (some l), some none => oneP (.s (s.extract l.toNat s.size)) [0 ≤ l ∧ l ≤ (s.size : Int)]
      | some (.c (.s s)), some none, some (some h) => oneP (.s (s.extract 0 h.toNat)) [0 ≤ h ∧ h ≤ (s.size : Int)]
      | some (.c (.s s)), some (some l), some (some h) => oneP (.s (s.extract l.toNat h.toNat)) [0 ≤ l ∧ l ≤ h, h ≤ (s.size : Int)]
      | _, _, _ => none
    | _ => none
  | none => none
theorem intO_ok {F : Frm} {L : LL} {H : HF} {e : Env} {a : Act} {w : World} (S : Sat F (fun t => look t L) H e a w) {x : Option Operand} {r : Option Int} (h : intO L x = some r) : (x = none ∧ r = none) ∨ ∃ y k n, x = some y ∧ r = some n ∧ a.eval y = .int k n := by
  unfold intO at h
  split at h
  · cases h; exact .inl ⟨rfl, rfl⟩
  · rename_i y
    split at h
    · rename_i k n hy
      cases h
      exact .inr ⟨y, k, n, rfl, rfl, ev_ok S hy⟩
    · cases h
theorem stSlice_ok {P : Program} {F : Frm} {L : LL} {H : HF} {nx : Nat} {tys : List (Nat × Ty)} (hty : TysOk P tys) {o : Oper} {T : TypeId} {x : Operand} {lo hi : Option Operand} {E : Eff} (hop : o.op = .slice T x lo hi none)
    (h : stSlice (fun t => look t tys) L T x lo hi = some E) (ho : allP E.obs) : StepOK P F (fun t => look t L) H nx o E := by
  unfold stSlice at h
  split at h
  · rename_i I hI
    obtain ⟨d, hd, hId⟩ := (hty _ _ hI).und
    split at h
    · rename_i hs
      rw [hs] at hId
      simp only [TyD.is] at hId
      subst hId
      split at h
      · rename_i s hx hl hh
        cases h
        refine step_pure fun e a w S => ?_
        have hx' : a.eval x = .string s := ev_ok S hx
        rcases intO_ok S hl with ⟨rfl, _⟩ | ⟨y, k, n, _, h2, _⟩
        · rcases intO_ok S hh with ⟨rfl, _⟩ | ⟨y, k, n, _, h2, _⟩
          · simp [execOp, hop, Instr.sliceAt, Instr.slice, run_underlying hd, hx', Instr.sliceBounds, SV.den, TV.den, CV.den]
          · cases h2
        · cases h2
      · rename_i s l hx hl hh
        cases h
        refine step_pure fun e a w S => ?_
        have hx' : a.eval x = .string s := ev_ok S hx
        have hb : 0 ≤ l ∧ l ≤ (s.size : Int) := ho.1
        rcases intO_ok S hl with ⟨_, h2⟩ | ⟨y, k, n, rfl, h2, hy⟩
        · cases h2
        · cases h2
          rcases intO_ok S hh with ⟨rfl, _⟩ | ⟨y, k, n, _, h2, _⟩
          · simp [execOp, hop, Instr.sliceAt, Instr.slice, run_underlying hd, hx', Instr.sliceBounds, Instr.sliceBound, asIntOf, hy, hb, SV.den, TV.den, CV.den]
          · cases h2
      · rename_i s hi' hx hl hh
        cases h
        refine step_pure fun e a w S => ?_
        have hx' : a.eval x = .string s := ev_ok S hx
        have hb : 0 ≤ hi' ∧ hi' ≤ (s.size : Int) := ho.1
        rcases intO_ok S hl with ⟨rfl, _⟩ | ⟨y, k, n, _, h2, _⟩
        · rcases intO_ok S hh with ⟨_, h2⟩ | ⟨y, k, n, rfl, h2, hy⟩
          · cases h2
          · cases h2
            simp [execOp, hop, Instr.sliceAt, Instr.slice, run_underlying hd, hx', Instr.sliceBounds, Instr.sliceBound, asIntOf, hy, hb, SV.den, TV.den, CV.den]
        · cases h2
      · rename_i s l hi' hx hl hh
        cases h
        refine step_pure fun e a w S => ?_
        have hx' : a.eval x = .string s := ev_ok S hx
        obtain ⟨hb, hb2, _⟩ : (0 ≤ l ∧ l ≤ hi') ∧ hi' ≤ (s.size : Int) ∧ True := ho
        rcases intO_ok S hl with ⟨_, h2⟩ | ⟨y, k, n, rfl, h2, hy⟩
        · cases h2
        · cases h2
          rcases intO_ok S hh with ⟨_, h2⟩ | ⟨y', k', n', rfl, h2, hy'⟩
          · cases h2
          · cases h2
            have h3 : 0 ≤ hi' := by omega
            simp [execOp, hop, Instr.sliceAt, Instr.slice, run_underlying hd, hx', Instr.sliceBounds, Instr.sliceBound, asIntOf, hy, hy', hb.1, h3, hb2, SV.den, TV.den, CV.den]
            intro hmax
            exfalso
            omega
      · cases h
    · cases h
  · cases h
/-- A part of a slice that has a name. -/
def stSub (ty : TypeId → Option Ty) (L : LL) (H : HL) (T : TypeId) (x : Operand) (lo hi : Option Operand) : Option Eff := match ty T with
  | some I => match I.d with
    | .slice e => match ty e with
      | some J => match ev L x with
        | some (.c (.nm n)) => match rowInfo H n with
          | some (s, len, _) => match Nat.beq s J.size with
            | true => match intO L lo, intO L hi with
              | some (some l), some none => oneP (.sub n (l.toNat * s) l.toNat (len - l.toNat)) [0 ≤ l ∧ l ≤ (len : Int)]
              | some none, some (some h) => oneP (.sub n 0 0 h.toNat) [0 ≤ h ∧ h ≤ (len : Int)]
              | some (some l), some (some h) => oneP (.sub n (l.toNat * s) l.toNat (h.toNat - l.toNat)) [0 ≤ l ∧ l ≤ h, h ≤ (len : Int)]
              | _, _ => none
            | false => none
          | none => none
        | some (.c (.sub n off k _)) => match rowInfo H n with
          | some (s, rl, _) => match Nat.beq s J.size with
            | true => match intO L lo, intO L hi with
              | some none, some (some h) => oneP (.sub n off k h.toNat) [0 ≤ h, k + h.toNat ≤ rl]
              | _, _ => none
            | false => none
          | none => none
        | _ => none
      | none => none
    | _ => none
  | none => none
theorem stSub_ok {P : Program} {F : Frm} {L : LL} {H : HL} {nx : Nat} {tys : List (Nat × Ty)} (hty : TysOk P tys) {o : Oper} {T : TypeId} {x : Operand} {lo hi : Option Operand} {E : Eff} (hop : o.op = .slice T x lo hi none)
    (h : stSub (fun t => look t tys) L H T x lo hi = some E) (ho : allP E.obs) : StepOK P F (fun t => look t L) (lookH H) nx o E := by
  unfold stSub at h
  split at h
  · rename_i I hI
    obtain ⟨d, hd, hId⟩ := (hty _ _ hI).und
    split at h
    · rename_i El hEl
      rw [hEl] at hId
      simp only [TyD.is] at hId
      subst hId
      split at h
      · rename_i J hJ
        have hTJ := hty _ _ hJ
        split at h
        · rename_i n hx
          split at h
          · rename_i s len xs hn
            split at h
            · rename_i hs
              rw [beq_nat] at hs
              subst hs
              have go : ∀ (lv hv : Option Value) (l m : Nat), l ≤ m → m ≤ len → (∀ e a w, Sat F (fun t => look t L) (lookH H) e a w → ∀ c, len ≤ c → (Instr.sliceBounds true len c (lo.map a.eval) (hi.map a.eval) none).run P w = .ok (l, m, c) w) → StepOK P F (fun t => look t L) (lookH H) nx o ⟨.t (.c (.sub n (l * J.size) l (m - l))), [], [], []⟩ := by
                intro _ _ l m hlm hml hb
                refine step_pure fun e a w S => ?_
                obtain ⟨A, c, h1, hR⟩ := rowInfo_ok S hn
                have hx' : a.eval x = .slice A len c := (ev_ok S hx).trans h1
                have h3 := hb e a w S c hR.2.1
                simp only [execOp, hop, hx', Instr.sliceAt, Instr.slice, Sem.run_bind, run_underlying hd, Result.andThen_ok, Option.map_none, h3, hTJ.run_size, Sem.run_pure, SV.den, TV.den, CV.den, h1]
              split at h
              · rename_i l hl hh
                cases h
                have hb : 0 ≤ l ∧ l ≤ (len : Int) := ho.1
                have := go none none l.toNat len (by omega) (Nat.le_refl _) fun e a w S c hc => by
                  rcases intO_ok S hl with ⟨_, h2⟩ | ⟨y, k, n', rfl, h2, hy⟩
                  · cases h2
                  · cases h2
                    rcases intO_ok S hh with ⟨rfl, _⟩ | ⟨y', k', n'', _, h2, _⟩
                    · simp [Instr.sliceBounds, Instr.sliceBound, asIntOf, hy, hb]
                    · cases h2
                intro hlow e a w S K Q hK
                exact this hlow e a w S K Q fun e' w' M => hK e' w' M.as
              · rename_i h' hl hh
                cases h
                have hb : 0 ≤ h' ∧ h' ≤ (len : Int) := ho.1
                have := go none none 0 h'.toNat (by omega) (by omega) fun e a w S c hc => by
                  rcases intO_ok S hl with ⟨rfl, _⟩ | ⟨y', k', n'', _, h2, _⟩
                  · rcases intO_ok S hh with ⟨_, h2⟩ | ⟨y, k, n', rfl, h2, hy⟩
                    · cases h2
                    · cases h2
                      have : h' ≤ (c : Int) := by omega
                      simp [Instr.sliceBounds, Instr.sliceBound, asIntOf, hy, hb, this]
                  · cases h2
                rw [Nat.zero_mul, Nat.sub_zero] at this
                intro hlow e a w S K Q hK
                exact this hlow e a w S K Q fun e' w' M => hK e' w' M.as
              · rename_i l h' hl hh
                cases h
                obtain ⟨hb, hb2, _⟩ : (0 ≤ l ∧ l ≤ h') ∧ h' ≤ (len : Int) ∧ True := ho
                have := go none none l.toNat h'.toNat (by omega) (by omega) fun e a w S c hc => by
                  rcases intO_ok S hl with ⟨_, h2⟩ | ⟨y, k, n', rfl, h2, hy⟩
                  · cases h2
                  · cases h2
                    rcases intO_ok S hh with ⟨_, h2⟩ | ⟨y', k', n'', rfl, h2, hy'⟩
                    · cases h2
                    · cases h2
                      have h3 : 0 ≤ h' := by omega
                      have h4 : h' ≤ (c : Int) := by omega
                      have h5 : l ≤ ((h'.toNat : Nat) : Int) := by omega
                      simp [Instr.sliceBounds, Instr.sliceBound, asIntOf, hy, hy', hb.1, h3, h4]
                      intro hmax
                      exfalso
                      omega
                intro hlow e a w S K Q hK
                exact this hlow e a w S K Q fun e' w' M => hK e' w' M.as
              · cases h
            · cases h
          · cases h
        · rename_i n off k len0 hx
          split at h
          · rename_i s rl xs hn
            split at h
            · rename_i hs
              rw [beq_nat] at hs
              subst hs
              split at h
              · rename_i h' hl hh
                cases h
                obtain ⟨hb, hb2, _⟩ : 0 ≤ h' ∧ k + h'.toNat ≤ rl ∧ True := ho
                refine step_pure fun e a w S => ?_
                obtain ⟨A, c, h1, hR⟩ := rowInfo_ok S hn
                have hx' : a.eval x = .slice (if c = k then A else A.map (·.add off)) len0 (c - k) := (ev_ok S hx).trans (by simp only [TV.den, CV.den, h1])
                have hrc := hR.2.1
                have hc : h' ≤ ((c - k : Nat) : Int) := by omega
                rcases intO_ok S hl with ⟨rfl, _⟩ | ⟨y', k', n'', _, h2, _⟩
                · rcases intO_ok S hh with ⟨_, h2⟩ | ⟨y, kk, n', rfl, h2, hy⟩
                  · cases h2
                  · cases h2
                    have h3 : (Instr.sliceBounds true len0 (c - k) none (some (a.eval y)) none).run P w = .ok (0, h'.toNat, c - k) w := by
                      simp [Instr.sliceBounds, Instr.sliceBound, asIntOf, hy, hb, hc]
                    simp only [execOp, hop, hx', Instr.sliceAt, Instr.slice, Sem.run_bind, run_underlying hd, Result.andThen_ok, Option.map_none, Option.map_some, h3, hTJ.run_size, Sem.run_pure, SV.den, TV.den, CV.den, h1, Nat.zero_mul, Nat.sub_zero]
                    congr 3
                    cases A with
                    | none => split <;> simp
                    | some ad => split <;> simp [Addr.add]
                · cases h2
              · cases h
            · cases h
          · cases h
        · cases h
      · cases h
    · cases h
  · cases h
/-- An element of a part of a slice. -/
def stIndexSub (ty : TypeId → Option Ty) (L : LL) (H : HL) (T : TypeId) (x ix : Operand) : Option Eff := match ty T with
  | some I => match I.d with
    | .slice e => match ty e with
      | some J => match ev L x, ev L ix with
        | some (.c (.sub n off k len)), some (.c (.i _ i)) => match rowInfo H n with
          | some (s, rl, _) => match Nat.beq s J.size with
            | true => oneP (.el n (off + i.toNat * J.size)) [0 ≤ i ∧ i < (len : Int), 0 < J.size, off = k * J.size, k + len ≤ rl]
            | false => none
          | none => none
        | _, _ => none
      | none => none
    | _ => none
  | none => none
theorem stIndexSub_ok {P : Program} {F : Frm} {L : LL} {H : HL} {nx : Nat} {tys : List (Nat × Ty)} (hty : TysOk P tys) {o : Oper} {T : TypeId} {x ix : Operand} {E : Eff} (hop : o.op = .indexAddr T x ix)
    (h : stIndexSub (fun t => look t tys) L H T x ix = some E) (ho : allP E.obs) : StepOK P F (fun t => look t L) (lookH H) nx o E := by
  unfold stIndexSub at h
  split at h
  · rename_i I hI
    obtain ⟨d, hd, hId⟩ := (hty _ _ hI).und
    split at h
    · rename_i El hEl
      rw [hEl] at hId
      simp only [TyD.is] at hId
      subst hId
      split at h
      · rename_i J hJ
        have hTJ := hty _ _ hJ
        split at h
        · rename_i n off k len kk i hx hix
          split at h
          · rename_i s rl xs hn
            split at h
            · rename_i hs
              cases h
              rw [beq_nat] at hs
              subst hs
              obtain ⟨h1, h2, h3, h4, _⟩ := ho
              refine step_pure fun e a w S => ?_
              obtain ⟨A, c, hv, hR1, hR2, hR3, hR4, hR5⟩ := rowInfo_ok S hn
              have hpos : 0 < xs.length := by
                rw [hR1]
                exact Nat.mul_pos (by omega) h2
              obtain ⟨u, hu⟩ : ∃ u, xs[0]? = some u := ⟨_, List.getElem?_eq_getElem hpos⟩
              obtain ⟨ad, rfl, _⟩ := hR5 0 u hu
              have hc : ¬ c = k := by omega
              have hx' : a.eval x = .slice (some (ad.add off)) len (c - k) := (ev_ok S hx).trans (by simp only [TV.den, CV.den, hv, if_neg hc, Option.map_some])
              have hi' : a.eval ix = .int kk i := ev_ok S hix
              have := run_indexAt_sl (P := P) (w := w) hd hTJ (ad.add off) len (c - k) kk i h1
              simp only [execOp, hop, hx', hi', this, Sem.run_bind, Result.andThen_ok, Sem.run_pure, SV.den, TV.den, CV.den, hv, add_add]
            · cases h
          · cases h
        · cases h
      · cases h
    · cases h
  · cases h
/-- An operation that is told by hand. -/
def stSpec (P : Program) (orc : List (Nat × Orc)) (L : LL) (H : HL) (nx : Nat) (o : Oper) : Option Eff :=
  match look (match o.dst with | some d => d | none => 9999) orc with
    | some (.spec E) => match H with
      | [] => none
      | _ :: _ => some ⟨E.v, E.news, E.upd, Spec P L H nx o E :: E.obs⟩
    | _ => none
/-- The smaller, the greater of two integers. -/
def stMin (L : LL) (mx : Bool) (x y : Operand) : Option Eff := match ev L x, ev L y with
  | some (.c (.i k a)), some (.c (.i _ b)) => match mx with
    | true => one (.i k (if b > a then b else a))
    | false => one (.i k (if b < a then b else a))
  | _, _ => none
theorem stMin_ok {P : Program} {F : Frm} {L : LL} {H : HF} {nx : Nat} {o : Oper} {mx : Bool} {ats : Array TypeId} {x y : Operand} {E : Eff} (hop : o.op = .call { callee := .builtin (match mx with | true => .max | false => .min), args := #[x, y], argTypes := ats })
    (h : stMin L mx x y = some E) : StepOK P F (fun t => look t L) H nx o E := by
  unfold stMin at h
  split at h
  · rename_i k a k' b hx hy
    cases mx <;> cases h
    all_goals
      refine step_pure fun e ac w S => ?_
      have hx' : ac.eval x = .int k a := ev_ok S hx
      have hy' : ac.eval y = .int k' b := ev_ok S hy
      simp [execOp, hop, resolve, invoke, builtin, Builtin.max_, Builtin.max2, Builtin.min_, Builtin.min2, hx', hy', SV.den, TV.den, CV.den]
  · cases h
/-- The step of an operation. -/
def step (P : Program) (tys : List (Nat × Ty)) (fns : List Nat) (orc : List (Nat × Orc)) : Stp := fun L H nx o =>
  match o.op with
  | .move x => match evS L x with
    | some v => some ⟨v, [], [], []⟩
    | none => none
  | .assign x => match evS L x with
    | some v => some ⟨v, [], [], []⟩
    | none => none
  | .pick c a b => stPick orc L c a b
  | .alloc T => stAlloc (fun t => look t tys) nx T
  | .box T x => stBox L nx T x
  | .build T parts => stBuild (fun t => look t tys) L T parts.toList
  | .buildSlice T n parts => match (match o.dst with | some d => look d orc | none => none) with
    | some (.dec true) => stLit (fun t => look t tys) L nx T n parts.toList
    | _ => stBuildSlice (fun t => look t tys) L nx T n parts.toList
  | .load T x => match stLoad (fun t => look t tys) orc L H o.dst T x with
    | some E => some E
    | none => stSpec P orc L H nx o
  | .store T x y => stStore (fun t => look t tys) L H T x y
  | .nilCheck x => stNil L x
  | .binOp op T x y _ => match stBin (fun t => look t tys) L op T x y with
    | some E => some E
    | none => stSpec P orc L H nx o
  | .unOp op _ x => stUn L op x
  | .convert src dst x => match stConv (fun t => look t tys) L src dst x with
    | some E => some E
    | none => match stText (fun t => look t tys) orc L H o.dst src dst x with
      | some E => some E
      | none => stSpec P orc L H nx o
  | .slice T x lo hi mx => match mx with
    | none => match stSlice (fun t => look t tys) L T x lo hi with
      | some E => some E
      | none => match lo, hi with
        | none, none => match stSliceArr (fun t => look t tys) L T x with
          | some E => some E
          | none => stSpec P orc L H nx o
        | _, _ => match stSub (fun t => look t tys) L H T x lo hi with
          | some E => some E
          | none => stSpec P orc L H nx o
    | some _ => none
  | .makeFunc f first caps => stFunc L f first.toList caps.toList
  | .makeSlice T x y => match stMake (fun t => look t tys) orc L nx o.dst T x y with
    | some E => some E
    | none => stSpec P orc L H nx o
  | .fieldAddr T x f => stFieldAddr (fun t => look t tys) L H T x f
  | .field T x f => stField (fun t => look t tys) L T x f
  | .indexAddr T x ix => match stIndexAddr (fun t => look t tys) L H T x ix with
    | some E => some E
    | none => stIndexSub (fun t => look t tys) L H T x ix
  | .index T x ix => stIndex (fun t => look t tys) orc L o.dst T x ix
  | .extract x k => stExtract L x k
  | .makeMap _ none => stMakeMap nx
  | .lookup T x ix c => match stLookup (fun t => look t tys) orc L H o.dst T x ix c with
    | some E => some E
    | none => stSpec P orc L H nx o
  | .mapUpdate T x ix y => match stMapUpdate (fun t => look t tys) L H T x ix y with
    | some E => some E
    | none => stSpec P orc L H nx o
  | .call c => match c with
    | ⟨.value f, args, _⟩ => match stCall P fns orc L H nx o.dst f args.toList with
      | some E => some E
      | none => stSpec P orc L H nx o
    | ⟨.builtin b, args, ats⟩ => match b, args.toList, ats.toList with
      | .len, [x], [T] => match stLen (fun t => look t tys) L H T x with
        | some E => some E
        | none => stLenM (fun t => look t tys) L H T x
      | .delete, [x, k], [T, _] => match stDelete (fun t => look t tys) L H T x k with
        | some E => some E
        | none => stSpec P orc L H nx o
      | .min, [x, y], _ => stMin L false x y
      | .max, [x, y], _ => stMin L true x y
      | .append, [x, y], [T, T'] => match Nat.beq T T' with
        | true => match stAppend (fun t => look t tys) L H nx T x y with
          | some E => some E
          | none => stSpec P orc L H nx o
        | false => stSpec P orc L H nx o
      | _, _, _ => stSpec P orc L H nx o
    | _ => none
  | _ => stSpec P orc L H nx o
theorem spec_ok {P : Program} {F : Frm} {L : LL} {H : HL} {nx : Nat} {o : Oper} {E E' : Eff} (h : some (⟨E.v, E.news, E.upd, Spec P L H nx o E :: E.obs⟩ : Eff) = some E') (ho : allP E'.obs) : StepOK P F (fun t => look t L) (lookH H) nx o E' := by
  cases h
  obtain ⟨⟨hs⟩, _⟩ := ho
  intro hlow e a w S K Q hK
  exact hs F hlow e a w S K Q fun e' w' M => hK e' w' M.as
theorem stSpec_ok {P : Program} {F : Frm} {orc : List (Nat × Orc)} {L : LL} {H : HL} {nx : Nat} {o : Oper} {E : Eff} (h : stSpec P orc L H nx o = some E) (ho : allP E.obs) : StepOK P F (fun t => look t L) (lookH H) nx o E := by
  unfold stSpec at h
  split at h
  · split at h
    · cases h
    · exact spec_ok h ho
  · cases h
theorem step_sound {P : Program} {tys : List (Nat × Ty)} {fns : List Nat} (hty : TysOk P tys) (hfn : fnsB P fns = true) (orc : List (Nat × Orc)) : Sound P (step P tys fns orc) := by
  intro F L H nx o E h ho
  have plain : ∀ x, (o.op = .move x ∨ o.op = .assign x) → (match evS L x with | some v => some (⟨v, [], [], []⟩ : Eff) | none => none) = some E → StepOK P F (fun t => look t L) (lookH H) nx o E := by
    intro x hop h
    split at h
    · rename_i v hv
      cases h
      refine step_pure fun e a w S => ?_
      rcases hop with hop | hop <;> simp [execOp, hop, evS_ok S hv]
    · cases h
  unfold step at h
  simp only at h
  split at h
  case h_1 x hop => exact plain x (.inl hop) h
  case h_2 x hop => exact plain x (.inr hop) h
  case h_3 c a b hop => exact stPick_ok hop h ho
  case h_4 T hop => exact stAlloc_ok hty hop h
  case h_5 T x hop => exact stBox_ok hop h
  case h_6 T parts hop => exact stBuild_ok hty hop h
  case h_7 T n parts hop =>
    split at h
    · exact stLit_ok hty hop h
    · exact stBuildSlice_ok hty hop h
  case h_8 T x hop =>
    split at h
    · rename_i E' hE
      cases h
      exact stLoad_ok hty hop hE ho
    · exact stSpec_ok h ho
  case h_9 T x y hop => exact stStore_ok hty hop h ho
  case h_10 x hop => exact stNil_ok hop h
  case h_11 op T x y T' hop =>
    split at h
    · rename_i E' hE
      cases h
      exact stBin_ok hty hop hE ho
    · exact stSpec_ok h ho
  case h_12 op T x hop => exact stUn_ok hop h
  case h_13 src dst x hop =>
    split at h
    · rename_i E' hE'
      cases h
      exact stConv_ok hty hop hE'
    · split at h
      · rename_i E' hE'
        cases h
        exact stText_ok hty hop hE' ho
      · exact stSpec_ok h ho
  case h_14 T x lo hi mx hop =>
    split at h
    · split at h
      · rename_i E' hE'
        cases h
        exact stSlice_ok hty hop hE' ho
      · split at h
        · split at h
          · rename_i E' hE'
            cases h
            exact stSliceArr_ok hty hop hE'
          · exact stSpec_ok h ho
        · split at h
          · rename_i E' hE'
            cases h
            exact stSub_ok hty hop hE' ho
          · exact stSpec_ok h ho
    · cases h
  case h_15 f first caps hop => exact stFunc_ok hop h
  case h_16 T x y hop =>
    split at h
    · rename_i E' hE'
      cases h
      exact stMake_ok hty hop hE' ho
    · exact stSpec_ok h ho
  case h_17 T x f hop => exact stFieldAddr_ok hty hop h ho
  case h_18 T x f hop => exact stField_ok hty hop h
  case h_19 T x ix hop =>
    split at h
    · rename_i E' hE'
      cases h
      exact stIndexAddr_ok hty hop hE' ho
    · exact stIndexSub_ok hty hop h ho
  case h_20 T x ix hop => exact stIndex_ok hty hop h ho
  case h_21 x k hop => exact stExtract_ok hop h
  case h_22 T hop => exact stMakeMap_ok hop h
  case h_23 T x ix c hop =>
    split at h
    · rename_i E' hE'
      cases h
      exact stLookup_ok hty hop hE' ho
    · exact stSpec_ok h ho
  case h_24 T x ix y hop =>
    split at h
    · rename_i E' hE'
      cases h
      exact stMapUpdate_ok hty hop hE' ho
    · exact stSpec_ok h ho
  case h_25 c hop =>
    split at h
    · split at h
      · rename_i E' hE
        cases h
        exact stCall_ok hfn hop hE ho
      · exact stSpec_ok h ho
    · rename_i b args ats
      split at h
      · rename_i x T ha ht
        have e1 : args = #[x] := by apply Array.ext'; simpa using ha
        have e2 : ats = #[T] := by apply Array.ext'; simpa using ht
        subst e1 e2
        split at h
        · rename_i E' hE'
          cases h
          exact stLen_ok hty hop hE'
        · exact stLenM_ok hty hop h
      · rename_i x k T T' ha ht
        have e1 : args = #[x, k] := by apply Array.ext'; simpa using ha
        have e2 : ats = #[T, T'] := by apply Array.ext'; simpa using ht
        subst e1 e2
        split at h
        · rename_i E' hE'
          cases h
          exact stDelete_ok hty hop hE'
        · exact stSpec_ok h ho
      · rename_i x y ha
        have e1 : args = #[x, y] := by apply Array.ext'; simpa using ha
        subst e1
        exact stMin_ok (mx := false) hop h
      · rename_i x y ha
        have e1 : args = #[x, y] := by apply Array.ext'; simpa using ha
        subst e1
        exact stMin_ok (mx := true) hop h
      · rename_i x y T T' ha ht
        have e1 : args = #[x, y] := by apply Array.ext'; simpa using ha
        have e2 : ats = #[T, T'] := by apply Array.ext'; simpa using ht
        subst e1 e2
        split at h
        · rename_i hTT
          split at h
          · rename_i E' hE'
            cases h
            exact stAppend_ok hty hop hTT hE' ho
          · exact stSpec_ok h ho
        · exact stSpec_ok h ho
      · exact stSpec_ok h ho
    · cases h
  case h_26 => exact stSpec_ok h ho
end Vc
namespace Vc
open Go Go.RowKit

def outV (ty : TypeId → Option Ty) (L : LL) (H : HL) : List ResultVar → Option (List TV)
  | [] => some []
  | .tmp t :: l => match look t L with
    | some (.t v) => match outV ty L H l with
      | some vs => some (v :: vs)
      | none => none
    | _ => none
  | .cell a T :: l => match look a L with
    | some (.t (.c (.p n off))) => match lookH H n with
      | some (_, .cells cs _) => match ty T with
        | some I => match takeC I.size (dropC off cs) with
          | some r => match mkV I r with
            | some v => match outV ty L H l with
              | some vs => some (v :: vs)
              | none => none
            | none => none
          | none => none
        | none => none
      | _ => none
    | _ => none
def retS : List TV → SV
  | [v] => .t v
  | vs => .tup vs
theorem retS_den (vs : List TV) (e : Env) : (retS vs).den e = if vs.length = 1 then ((vs.map (TV.den e)).headD undef) else .tuple (vs.map (TV.den e)).toArray := by
  unfold retS
  split
  · rfl
  · rename_i h
    rw [if_neg]
    · rfl
    · intro hl
      match vs, hl, h with
      | [v], _, h => exact h v rfl
theorem outV_ok {P : Program} {F : Frm} {L : LL} {H : HL} {tys : List (Nat × Ty)} (hty : TysOk P tys) {e : Env} {a : Act} {w : World} (S : Sat F (fun t => look t L) (lookH H) e a w) : ∀ {rs : List ResultVar} {vs : List TV}, outV (fun t => look t tys) L H rs = some vs → ∀ {f : ResultVar → Sem Value}, (∀ t, f (.tmp t) = pure (a.tmps.getD t undef)) → (∀ x t, f (.cell x t) = do loadVar t (← asAddr (a.tmps.getD x undef))) →
    (rs.mapM f).run P w = .ok (vs.map (TV.den e)) w
  | [], vs, h, f, f1, f2 => by cases h; simp
  | .tmp t :: l, vs, h, f, f1, f2 => by
    unfold outV at h
    split at h
    · rename_i v hv
      split at h
      · rename_i vs' hvs
        cases h
        have h1 : a.tmps.getD t undef = v.den e := S.sl t _ hv
        have h2 := outV_ok hty S hvs f1 f2
        rw [List.mapM_cons, f1]
        simp only [Sem.run_bind, Sem.run_pure, Result.andThen_ok, h2, h1, List.map_cons]
      · cases h
    · cases h
  | .cell x T :: l, vs, h, f, f1, f2 => by
    unfold outV at h
    split at h
    · rename_i n off hv
      split at h
      · rename_i b cs T' hn
        split at h
        · rename_i I hI
          split at h
          · rename_i r hr
            split at h
            · rename_i v hv2
              split at h
              · rename_i vs' hvs
                cases h
                have h1 : a.tmps.getD x undef = .pointer (some ⟨e.blk n, off, none⟩) := S.sl x _ hv
                have h2 := outV_ok hty S hvs f1 f2
                obtain ⟨g1, g2⟩ := takeC_ok hr
                rw [dropC_eq] at g1
                obtain ⟨⟨_, hblk⟩, _⟩ := S.ob n b _ hn
                have h3 : (loadVar T ⟨e.blk n, off, none⟩).run P w = .ok (v.den e) w := by
                  refine run_loadVar (hty _ _ hI) _ e g2 hv2 fun j u hu => ?_
                  rw [lit_add, cell_of_row w (e.blk n) (off + j) _ T' (0, 0) hblk]
                  rw [g1, List.getElem?_map] at hu
                  simp only [List.getElem?_toArray, List.getElem?_map]
                  rw [List.getElem?_take] at hu
                  split at hu
                  · rw [List.getElem?_drop] at hu; exact hu
                  · cases hu
                rw [List.mapM_cons, f2]
                simp only [Sem.run_bind, Sem.run_pure, Result.andThen_ok, h1, asAddr, h3, h2, List.map_cons]
              · cases h
            · cases h
          · cases h
        · cases h
      · cases h
    · cases h
theorem run_results {P : Program} {F : Frm} {L : LL} {H : HL} {tys : List (Nat × Ty)} (hty : TysOk P tys) {e : Env} {a : Act} {w : World} (S : Sat F (fun t => look t L) (lookH H) e a w) {fn : Func} {vs : List TV} (h : outV (fun t => look t tys) L H fn.results.toList = some vs) : (results fn a.tmps).run P w = .ok ((retS vs).den e) w := by
  unfold results
  rw [Array.mapM_eq_mapM_toList]
  simp only [Sem.run_bind, Sem.run_map]
  rw [outV_ok hty S h (fun _ => rfl) (fun _ _ => rfl)]
  simp only [Result.andThen_ok, Sem.run_pure]
  rw [retS_den]
  congr 1
  by_cases hl : vs.length = 1
  · rw [if_pos hl, dif_pos (by simpa using hl)]
    match vs, hl with
    | [v], _ => rfl
  · rw [if_neg hl, dif_neg (by simpa using hl)]
/-- The end of a function. -/
theorem retAt {P : Program} {F : Frm} {L : LL} {H : HL} {nx : Nat} {tys : List (Nat × Ty)} (hty : TysOk P tys) {fn : Func} {R : Ending → World → Prop} {vs : List TV} (h : outV (fun t => look t tys) L H fn.results.toList = some vs)
    (hR : ∀ e w, Keeps F w → MemOk H e w → R (.returned ((retS vs).den e)) w) : Done F (bodyPost P fn R .ret) L H nx :=
  ⟨fun _ e _ w S => ⟨S.df, _, run_results hty S h, hR e w S.fr S.memOk⟩⟩
def wfL (nx : Nat) : LL → Bool
  | [] => true
  | (_, v) :: l => match ltAll nx v.ns with
    | true => wfL nx l
    | false => false
def wfH (nx : Nat) : HL → Bool
  | [] => true
  | (n, none) :: l => match Nat.blt n nx with
    | true => wfH nx l
    | false => false
  | (n, some (_, o)) :: l => match Nat.blt n nx with
    | true => match ltAll nx o.ns with
      | true => wfH nx l
      | false => false
    | false => false
theorem wfL_ok {nx : Nat} : ∀ {L : LL}, wfL nx L = true → ∀ t v, look t L = some v → ∀ n ∈ v.ns, n < nx
  | [], _, t, v, h => by cases h
  | (d, u) :: l, hb, t, v, h => by
    unfold wfL at hb
    split at hb
    · rename_i h1
      rw [look_cons] at h
      split at h
      · cases h; exact ltAll_mem h1
      · exact wfL_ok hb t v h
    · cases hb
theorem wfH_ok {nx : Nat} : ∀ {H : HL}, wfH nx H = true → ∀ n x, lookH H n = some x → n < nx ∧ ∀ m ∈ x.2.ns, m < nx
  | [], _, n, x, h => by cases h
  | (d, none) :: l, hb, n, x, h => by
    unfold wfH at hb
    rw [lookH_cons] at h
    split at h
    · cases h
    · split at hb
      · exact wfH_ok hb n x h
      · cases hb
  | (d, some (b, o)) :: l, hb, n, x, h => by
    unfold wfH at hb
    rw [lookH_cons] at h
    split at hb
    · rename_i h1
      split at hb
      · rename_i h2
        split at h
        · rename_i e
          cases h
          subst e
          exact ⟨by simpa [Nat.blt_eq] using h1, ltAll_mem h2⟩
        · exact wfH_ok hb n x h
      · cases hb
    · cases hb
theorem wf {L : LL} {H : HL} {nx : Nat} (h1 : wfL nx L = true) (h2 : wfH nx H = true) : WF L H nx := ⟨wfL_ok h1, wfH_ok h2⟩
def any : Ob := .ab fun _ _ _ => True
def H0 : HL := [(0, some (false, any))]
theorem mem0 (w : World) : Mem (fun _ => False) H0 e0 w := by
  have key : ∀ n x, lookH H0 n = some x → n = 0 ∧ x = (false, any) := by
    intro n x h
    unfold H0 at h
    rw [lookH_cons] at h
    split at h
    · cases h; exact ⟨by assumption, rfl⟩
    · cases h
  refine ⟨fun n b o h => ?_, fun n o m c q h => ?_⟩
  · obtain ⟨_, h2⟩ := key n _ h
    cases h2
    exact ⟨⟨trivial, fun _ _ _ _ _ _ => trivial⟩, fun g hg => hg.elim⟩
  · obtain ⟨_, h2⟩ := key n _ h
    cases h2
/-- A function that only computes, by reckoning its text. -/
theorem fn0 {P : Program} {f : FuncId} {fn : Func} {c : Code} (N : Nat) (hf : P.funcs[f]? = some fn) (hb : fn.body = some c) (hN : fn.ntmps = N) {args : List TV} {v : SV}
    (hl : Nat.ble args.length N = true) (hW : wfL 1 (argsL 0 (args.map .t)) = true)
    (hg : ∀ w, At P ⟨w, fun _ => False, N⟩ (bodyPost P fn fun en w' => en = .returned (v.den e0) ∧ Below w.heap.size w w') c [] (argsL 0 (args.map .t)) H0 1) : Fn0 P f args v := by
  refine ⟨fun w => ?_⟩
  have := call_at N hf hb hN (args.map .t) e0 H0 1 (fun _ => False) (w := w) (by simpa using Nat.le_of_ble_eq_true hl) (wf hW rfl) (mem0 w) (hg w)
  rw [List.map_map] at this
  exact this
/-- Its end. -/
theorem ret0 {P : Program} {w0 : World} {N : Nat} {L : LL} {H : HL} {nx : Nat} {tys : List (Nat × Ty)} (hty : TysOk P tys) {fn : Func} {v : SV} {vs : List TV} (h : outV (fun t => look t tys) L H fn.results.toList = some vs) (hv : allP ((retS vs).eqs [] v)) (hb : bare v.ns = true) :
    Done ⟨w0, fun _ => False, N⟩ (bodyPost P fn (fun en w' => en = .returned (v.den e0) ∧ Below w0.heap.size w0 w') .ret) L H nx := by
  refine retAt hty h fun e w K _ => ⟨?_, K.below⟩
  rw [SV.eqs_ok (e := e) hv, bare_sv hb (e.ren [])]
end Vc
namespace Vc
open Go Go.RowKit

/-- What is left of a loop at its head. -/
def LoopK (P : Program) (Q : Exit → Act → World → Prop) (ks : List KI) (body : Code) (a : Act) (w : World) : Prop :=
  ∀ (b : Frame) (k : List Item) (cs : List Frame), ∃ ex a' w', post P Q ks ex a' w' ∧ Arrives P (lone (b.at a (.code body :: .inLoop body :: k)) cs w) b k cs ex a' w'
def nextQ (P : Program) (Q : Exit → Act → World → Prop) (ks : List KI) (body : Code) : Exit → Act → World → Prop := Exit.then (LoopK P Q ks body) (post P Q ks)
theorem loopK {P : Program} {Q : Exit → Act → World → Prop} {ks : List KI} {body : Code} {a : Act} {w : World} (h : body.wp P (post P (nextQ P Q ks body) []) a w) : LoopK P Q ks body a w := by
  intro b k cs
  obtain ⟨ex, a1, w1, hq, harr⟩ := h b (.inLoop body :: k) cs
  cases ex with
  | normal =>
    obtain ⟨e2, a2, w2, hq2, harr2⟩ := (hq : LoopK P Q ks body a1 w1) b k cs
    exact ⟨e2, a2, w2, hq2, .of_steps (Steps.trans harr (.one step_inLoop)) harr2⟩
  | exit id => exact ⟨_, a1, w1, hq, .pass (x := .inLoop body) rfl (fun _ _ => .inl (by simp)) harr⟩
  | goto l => exact ⟨_, a1, w1, hq, .pass (x := .inLoop body) rfl (fun _ _ => .inl (by simp)) harr⟩
  | ret => exact ⟨_, a1, w1, hq, .pass (x := .inLoop body) rfl (fun _ _ => .inl (by simp)) harr⟩
  | panic ch => exact ⟨_, a1, w1, hq, .pass (x := .inLoop body) rfl (fun _ _ => .inl (by simp)) harr⟩
  | outgrown => exact ⟨_, a1, w1, hq, .pass (x := .inLoop body) rfl (fun _ _ => .inl (by simp)) harr⟩
/-- The first round. -/
theorem At.unroll {P : Program} {F : Frm} {Q : Exit → Act → World → Prop} {body : Code} {ks : List KI} {L : LL} {H : HL} {nx : Nat} (h : At P F (nextQ P Q ks body) body [] L H nx) : At P F Q (.loop body) ks L H nx := by
  refine ⟨fun hW e a w S b k cs => ?_⟩
  obtain ⟨ex, a', w', hq, harr⟩ := loopK (h.h hW e a w S) b k cs
  exact ⟨ex, a', w', hq, .of_steps (.one step_loop) harr⟩
/-- One round more. -/
theorem nextRound {P : Program} {F : Frm} {Q : Exit → Act → World → Prop} {body : Code} {ks : List KI} {L : LL} {H : HL} {nx : Nat} (h : At P F (nextQ P Q ks body) body [] L H nx) : Done F (nextQ P Q ks body .normal) L H nx :=
  ⟨fun hW e _ _ S => loopK (h.h hW e _ _ S)⟩
theorem nextExit {P : Program} {F : Frm} {Q : Exit → Act → World → Prop} {body : Code} {ks ks' : List KI} {L : LL} {H : HL} {nx id : Nat} (hk : pop id ks = some ks') (h : Aft P F Q ks' L H nx) : Done F (nextQ P Q ks body (.exit id)) L H nx :=
  ⟨fun hW e _ _ S => post_pop hk (h.h hW e _ _ S)⟩
end Vc
namespace Vc
open Go Go.RowKit

def newsH : Nat → List (Bool × Ob) → HL
  | _, [] => []
  | n, x :: l => (n, some x) :: newsH (n + 1) l
theorem lookH_newsH (t : Nat) : ∀ (l : List (Bool × Ob)) (n : Nat), lookH (newsH n l) t = if n ≤ t then l[t - n]? else none
  | [], n => by simp [newsH, lookH, look]
  | x :: l, n => by
    rw [newsH, lookH_cons, lookH_newsH t l]
    by_cases h : t = n
    · subst h; simp
    · by_cases h2 : n ≤ t
      · rw [if_neg h, if_pos h2, if_pos (by omega), show t - n = (t - (n + 1)) + 1 by omega, List.getElem?_cons_succ]
      · rw [if_neg h, if_neg h2, if_neg (by omega)]
def allNew : List (Bool × Ob) → Bool
  | [] => true
  | (b, _) :: l => match b with
    | true => allNew l
    | false => false
theorem allNew_ok : ∀ {l : List (Bool × Ob)}, allNew l = true → ∀ (k : Nat) (b : Bool) (o : Ob), l[k]? = some (b, o) → b = true
  | [], _, k, b, o, h => by cases h
  | (b', o') :: l, h, k, b, o, hk => by
    unfold allNew at h
    split at h
    · cases k with
      | zero => cases hk; rfl
      | succ k => exact allNew_ok h k b o hk
    · cases h
def inR (n m : Nat) : List Nat → Bool
  | [] => true
  | k :: l => match Nat.ble n k, Nat.blt k m with
    | true, true => inR n m l
    | _, _ => false
theorem inR_ok {n m : Nat} : ∀ {l : List Nat}, inR n m l = true → ∀ k ∈ l, n ≤ k ∧ k < m
  | [], _, k, h => by cases h
  | q :: l, h, k, hk => by
    unfold inR at h
    split at h
    · rename_i h1 h2
      rcases List.mem_cons.1 hk with rfl | hk
      · exact ⟨Nat.le_of_ble_eq_true h1, by simpa [Nat.blt_eq] using h2⟩
      · exact inR_ok h k hk
    · cases h
def newsR (n m : Nat) : List (Bool × Ob) → Bool
  | [] => true
  | (_, o) :: l => match inR n m o.ns with
    | true => newsR n m l
    | false => false
theorem newsR_ok {n m : Nat} : ∀ {l : List (Bool × Ob)}, newsR n m l = true → ∀ (k : Nat) (b : Bool) (o : Ob), l[k]? = some (b, o) → ∀ q ∈ o.ns, n ≤ q ∧ q < m
  | [], _, k, b, o, h => by cases h
  | (b', o') :: l, h, k, b, o, hk => by
    unfold newsR at h
    split at h
    · rename_i h1
      cases k with
      | zero => cases hk; exact inR_ok h1
      | succ k => exact newsR_ok h k b o hk
    · cases h
/-- What a call that makes memory leaves: the value and the new things, by names from nx on. -/
def NewPost (w : World) (nx : Nat) (v : SV) (news : List (Bool × Ob)) (en : Ending) (w' : World) : Prop :=
  ∃ e, en = .returned (v.den e) ∧ Below w.heap.size w w' ∧ (∀ (k : Nat) (b : Bool) (o : Ob), news[k]? = some (b, o) → o.holds e (nx + k) w' ∧ ∀ g, e.fp (nx + k) g → w.heap.size ≤ g ∧ g < w'.heap.size) ∧
    ∀ j k, j < news.length → k < news.length → j ≠ k → ∀ g, e.fp (nx + j) g → ¬ e.fp (nx + k) g
theorem retN {P : Program} {w0 : World} {N : Nat} {L : LL} {H : HL} {nx nx1 : Nat} {tys : List (Nat × Ty)} (hty : TysOk P tys) {fn : Func} {v : SV} {news : List (Bool × Ob)} {vs : List TV} (ρ : List (Nat × Nat)) (h : outV (fun t => look t tys) L H fn.results.toList = some vs)
    (hv : allP ((retS vs).eqs ρ v)) (hH : allP (subH ρ H (newsH nx1 news))) (hi : injK ρ (keysH (newsH nx1 news)) [] = true) (hb : allNew news = true) : Done ⟨w0, fun _ => False, N⟩ (bodyPost P fn (NewPost w0 nx1 v news) .ret) L H nx := by
  refine ⟨fun _ e a w S => ⟨S.df, _, run_results hty S h, e.ren ρ, by rw [SV.eqs_ok (e := e) hv], S.fr.below, ?_, ?_⟩⟩
  · intro k b o hk
    have S' := S.sub (L' := []) ρ trivial hH hi
    have hl : lookH (newsH nx1 news) (nx1 + k) = some (b, o) := by rw [lookH_newsH, if_pos (by omega), Nat.add_sub_cancel_left]; exact hk
    obtain ⟨h1, h2⟩ := S'.ob (nx1 + k) b o hl
    refine ⟨h1, fun g hg => ?_⟩
    obtain ⟨h3, h4⟩ := h2 g hg
    rcases h4 (allNew_ok hb k b o hk) with h5 | h5
    · exact ⟨h5, h3⟩
    · exact h5.elim
  · intro j k hj hk hne g hg hg'
    have S' := S.sub (L' := []) ρ trivial hH hi
    have e1 : news[j]? = some (news[j].1, news[j].2) := by rw [List.getElem?_eq_getElem hj]
    have e2 : news[k]? = some (news[k].1, news[k].2) := by rw [List.getElem?_eq_getElem hk]
    have l1 : lookH (newsH nx1 news) (nx1 + j) = some (news[j].1, news[j].2) := by rw [lookH_newsH, if_pos (by omega), Nat.add_sub_cancel_left]; exact e1
    have l2 : lookH (newsH nx1 news) (nx1 + k) = some (news[k].1, news[k].2) := by rw [lookH_newsH, if_pos (by omega), Nat.add_sub_cancel_left]; exact e2
    rw [allNew_ok hb j _ _ e1] at l1
    exact S'.dj _ _ _ _ _ l1 l2 (by omega) g hg hg'
/-- New names of one reading, the others of another one. -/
def Env.mix (e e1 : Env) (nx k : Nat) : Env := ⟨fun m => if nx ≤ m ∧ m < nx + k then e1.blk m else e.blk m, fun m => if nx ≤ m ∧ m < nx + k then e1.val m else e.val m, fun m => if nx ≤ m ∧ m < nx + k then e1.fp m else e.fp m, fun m => by
  show (if nx ≤ m ∧ m < nx + k then e1.val m else e.val m).oneCell' = true
  split
  · exact e1.one m
  · exact e.one m⟩
/-- A function that reads memory that has names, keeps all of it, and makes some. -/
theorem fnN {P : Program} {f : FuncId} {fn : Func} {c : Code} (N : Nat) (hf : P.funcs[f]? = some fn) (hb : fn.body = some c) (hN : fn.ntmps = N) {args args' : List TV} {H H' : HL} {nx nx' : Nat} {v : SV} {news : List (Bool × Ob)}
    (hM : ∀ e w, MemOk H e w → ∃ e', Mem (fun _ => False) H' e' w ∧ args.map (TV.den e) = args'.map (TV.den e')) (hl : Nat.ble args'.length N = true) (hW : wfL nx' (argsL 0 (args'.map .t)) = true) (hW2 : wfH nx' H' = true)
    (hv : inR nx (nx + news.length) v.ns = true) (hn : newsR nx (nx + news.length) news = true)
    (hg : ∀ w, At P ⟨w, fun _ => False, N⟩ (bodyPost P fn (NewPost w nx v news)) c [] (argsL 0 (args'.map .t)) H' nx') : FnH P f args H nx ⟨v, news, [], []⟩ := by
  refine ⟨fun _ _ e w M => ?_⟩
  obtain ⟨e', M', he⟩ := hM e w M
  have := call_at N hf hb hN (args'.map .t) e' H' nx' (fun _ => False) (w := w) (by simpa using Nat.le_of_ble_eq_true hl) (wf hW hW2) M' (hg w)
  rw [List.map_map] at this
  rw [he]
  refine Calls.mono this ?_
  rintro en w' ⟨e1, rfl, hbl, h1, h2⟩
  have same : ∀ n, nx ≤ n ∧ n < nx + news.length → e1.same (e.mix e1 nx news.length) n := by
    intro n hn
    exact ⟨if_pos hn, if_pos hn, if_pos hn⟩
  refine ⟨e.mix e1 nx news.length, ?_, .old ⟨?_, hbl.os, hbl.tape, hbl.output, hbl.size, fun g hg _ => hbl.block g hg, ?_, ?_, fun n o ho => by cases ho⟩⟩
  · rw [SV.den_same fun n hn => same n (inR_ok hv n hn)]
  · intro n hn
    have : ¬ (nx ≤ n ∧ n < nx + news.length) := by
      simp only at hn
      omega
    exact ⟨if_neg this, if_neg this, if_neg this⟩
  · intro k b o hk
    have hlt : k < news.length := by
      rcases Nat.lt_or_ge k news.length with h | h
      · exact h
      · rw [List.getElem?_eq_none h] at hk; cases hk
    obtain ⟨g1, g2⟩ := h1 k b o hk
    refine ⟨Ob.same (same (nx + k) (by omega)) g1 fun m hm => (same m (newsR_ok hn k b o hk m hm)).v, fun g hg => ?_⟩
    rw [(same (nx + k) (by omega)).2.2] at hg
    exact ⟨(g2 g hg).2, .inl (g2 g hg).1⟩
  · intro j k hj hk hne g hg
    rw [(same (nx + j) (by simp only at hj; omega)).2.2] at hg
    rw [(same (nx + k) (by simp only at hk; omega)).2.2]
    exact h2 j k hj hk hne g hg
/-- A nil slice gets a name, as a row of its own without elements. -/
theorem At.nil {P : Program} {F : Frm} {Q : Exit → Act → World → Prop} {c : Code} {ks : List KI} {L : LL} {H : HL} {nx : Nat} (t : Tmp) (T : TypeId) (s : Nat) (hl : look t L = some (.t (.c .nsl)))
    (h : At P F Q c ks ((t, .t (.c (.nm nx))) :: L) ((nx, some (true, .own T s 0 [])) :: H) (nx + 1)) : At P F Q c ks L H nx := by
  refine ⟨fun hW e a w S => h.h ⟨fun t' v hv n hn => ?_, fun n x hx => ?_⟩ (e.newV nx (.slice none 0 0)) a w ?_⟩
  · rw [look_cons] at hv
    split at hv
    · cases hv
      have : n = nx := by simpa [SV.ns, TV.ns, CV.ns] using hn
      omega
    · have := hW.l t' v hv n hn
      omega
  · rw [lookH_cons] at hx
    split at hx
    · cases hx
      exact ⟨by omega, fun m hm => by simp [Ob.ns] at hm⟩
    · obtain ⟨h1, h2⟩ := hW.h n x hx
      exact ⟨by omega, fun m hm => by have := h2 m hm; omega⟩
  · have hsame : ∀ n, n < nx → e.same (e.newV nx (.slice none 0 0)) n := fun n hn => Env.newV_same e (by omega)
    have hno : ∀ g, ¬ (e.newV nx (.slice none 0 0)).fp nx g := fun g hg => by
      have := (Env.newV_fp e nx (.slice none 0 0) g).1 hg
      cases this
    refine ⟨S.fr, S.sz, S.df, fun t' v hv => ?_, fun n b o hx => ?_, fun n o m c' q hn hm hne g hg hg' => ?_⟩
    · simp only [look_cons] at hv
      split at hv
      · rename_i ht
        cases hv
        subst ht
        rw [S.sl _ _ hl]
        simp only [SV.den, TV.den, CV.den]
        exact (Env.newV_val (v := .slice none 0 0) e nx rfl).symm
      · rw [S.sl t' v hv]
        exact (SV.den_same fun n hn => hsame n (hW.l t' v hv n hn)).symm
    · rw [lookH_cons] at hx
      split at hx
      · rename_i hn
        cases hx
        subst hn
        refine ⟨⟨⟨by simp, .inl ⟨Env.newV_val (v := .slice none 0 0) e n rfl, rfl⟩⟩, fun g => ?_⟩, fun g hg => (hno g hg).elim⟩
        rw [Env.newV_fp, Env.newV_val (v := .slice none 0 0) e n rfl]
      · obtain ⟨h1, h2⟩ := hW.h n _ hx
        obtain ⟨h3, h4⟩ := S.ob n b o hx
        have hs := hsame n h1
        refine ⟨Ob.same hs h3 fun m hm => (hsame m (h2 m hm)).v, fun g hg => ?_⟩
        rw [hs.2.2] at hg
        exact h4 g hg
    · rw [lookH_cons] at hn hm
      split at hn
      · rename_i h1
        subst h1
        exact hno g hg
      · split at hm
        · rename_i h1
          subst h1
          exact hno g hg'
        · rw [(hsame n (hW.h n _ hn).1).2.2] at hg
          rw [(hsame m (hW.h m _ hm).1).2.2] at hg'
          exact S.dj n o m c' q hn hm hne g hg hg'
end Vc
