/- Numbers of blocks get names; what stands behind pointers is read out of what is told by one name; a map is ranged over. No program in sight. -/
import Derived.Test.YtkmgnfgcgfafcaaVcU
import Derived.Maps.RangeRun
namespace Vc
open Go Go.RowKit Go.MapKept
/-- A name gets a block, a value, a region. -/
def Env.put3 (e : Env) (n b : Nat) (v : Value) (Fp : Nat → Prop) : Env := ⟨fun m => if m = n then b else e.blk m, fun m => if m = n then (if v.oneCell' = true then v else uv) else e.val m, fun m => if m = n then Fp else e.fp m, fun m => by
  show (if m = n then (if v.oneCell' = true then v else uv) else e.val m).oneCell' = true
  split
  · split
    · assumption
    · rfl
  · exact e.one m⟩
theorem Env.put3_same (e : Env) {n m b : Nat} {v : Value} {Fp : Nat → Prop} (h : m ≠ n) : e.same (e.put3 n b v Fp) m := ⟨by simp [Env.put3, h], by simp [Env.put3, h], by simp [Env.put3, h]⟩
theorem Env.put3_blk (e : Env) {n b : Nat} {v : Value} {Fp : Nat → Prop} : (e.put3 n b v Fp).blk n = b := by simp [Env.put3]
theorem Env.put3_val (e : Env) {n b : Nat} {v : Value} {Fp : Nat → Prop} (h : v.oneCell' = true) : (e.put3 n b v Fp).val n = v := by simp [Env.put3, h]
theorem Env.put3_fp (e : Env) {n b : Nat} {v : Value} {Fp : Nat → Prop} : (e.put3 n b v Fp).fp n = Fp := by simp [Env.put3]
/-- Something that may be read gets a name. -/
theorem Sat.newF {F : Frm} {L : LL} {H : HL} {nx : Nat} {e : Env} {a : Act} {w : World} (S : Sat F (fun t => look t L) (lookH H) e a w) (hW : WF L H nx) (o : Ob) (b : Nat) (v : Value) (Fp : Nat → Prop) (hns : ∀ m ∈ o.ns, m < nx + 1)
    (ho : o.holds (e.put3 nx b v Fp) nx w) (hF : ∀ g, Fp g → g < w.heap.size ∧ ∀ n o', lookH H n = some (true, o') → ¬ e.fp n g) :
    WF L ((nx, some (false, o)) :: H) (nx + 1) ∧ Sat F (fun t => look t L) (lookH ((nx, some (false, o)) :: H)) (e.put3 nx b v Fp) a w := by
  have hsame : ∀ n, n < nx → e.same (e.put3 nx b v Fp) n := fun n hn => Env.put3_same e (by omega)
  refine ⟨⟨fun t v hv n hn => by have := hW.l t v hv n hn; omega, fun n z hz => ?_⟩, S.fr, S.sz, S.df, fun t v hv => ?_, fun n c o hz => ?_, fun n o k c q hn hk hne g hg hg' => ?_⟩
  · rw [lookH_cons] at hz
    split at hz
    · cases hz
      exact ⟨by omega, hns⟩
    · obtain ⟨g1, g2⟩ := hW.h n z hz
      exact ⟨by omega, fun k hk => by have := g2 k hk; omega⟩
  · rw [S.sl t v hv]
    exact (SV.den_same fun n hn => hsame n (hW.l t v hv n hn)).symm
  · rw [lookH_cons] at hz
    split at hz
    · rename_i hn
      cases hz
      subst hn
      refine ⟨ho, fun g hg => ⟨?_, fun h => by cases h⟩⟩
      rw [Env.put3_fp] at hg
      exact (hF g hg).1
    · obtain ⟨h1, h2⟩ := hW.h n _ hz
      obtain ⟨h3, h4⟩ := S.ob n c o hz
      refine ⟨Ob.same (hsame n h1) h3 fun k hk => (hsame k (h2 k hk)).v, fun g hg => ?_⟩
      rw [(hsame n h1).2.2] at hg
      exact h4 g hg
  · rw [lookH_cons] at hn hk
    split at hn
    · cases hn
    · split at hk
      · rename_i h2
        subst h2
        rw [Env.put3_fp] at hg'
        rw [(hsame n (hW.h n _ hn).1).2.2] at hg
        exact (hF g hg').2 n o hn hg
      · rw [(hsame n (hW.h n _ hn).1).2.2] at hg
        rw [(hsame k (hW.h k _ hk).1).2.2] at hg'
        exact S.dj n o k c q hn hk hne g hg hg'
section
variable {P : Program} {F : Frm} {Q : Exit → Act → World → Prop} {c : Code} {ks : List KI} {L : LL} {H : HL} {nx : Nat}
/-- A block's number gets a name. -/
theorem At.num (n0 : Nat) (h : At P F Q c ks L ((nx, some (false, .pin nx n0)) :: H) (nx + 1)) : At P F Q c ks L H nx :=
  ⟨fun hW e a w S => by
    obtain ⟨hW', S'⟩ := S.newF hW (.pin nx n0) n0 uv (fun _ => False) (fun m hm => by simp [Ob.ns] at hm; omega) ⟨fun g hg => by rw [Env.put3_fp] at hg; exact hg, Env.put3_blk e⟩ (fun g hg => hg.elim)
    exact h.h hW' _ a w S'⟩
/-- The very map. -/
def mapX (bm : Nat) (es : Array MapEntry) (clock : Nat) : AbP := fun _ F w => (∀ g, F g ↔ g = bm) ∧ w.heap[bm]? = some (.map es clock)
theorem mapX_stable {bm : Nat} {es : Array MapEntry} {clock : Nat} : stable (mapX bm es clock) := fun v F w w' ⟨h1, h2⟩ hk => ⟨h1, (hk bm ((h1 bm).2 rfl)).trans h2⟩
theorem At.twin {d p bm : Nat} {b2 : Bool} {m : List (Int × Value)} (hd : lookH H d = some (false, .mp m)) (hp : lookH H p = some (b2, .pin d bm))
    (h : ∀ es clock, Stamped es clock → es.toList.map mkv = m.map mpe → At P F Q c ks L ((nx, some (false, .ab (mapX bm es clock))) :: H) (nx + 1)) : At P F Q c ks L H nx :=
  ⟨fun hW e a w S => by
    obtain ⟨⟨h1, es, clock, h2, h3, h4, h5⟩, h6⟩ := S.ob d false _ hd
    have hb : e.blk d = bm := (S.ob p b2 _ hp).1.2
    rw [hb] at h1 h2
    obtain ⟨hW', S'⟩ := S.newF hW (.ab (mapX bm es clock)) 0 uv (fun g => g = bm) (fun m hm => by simp [Ob.ns] at hm) ⟨⟨fun g => by rw [Env.put3_fp], h2⟩, mapX_stable⟩ (fun g hg => by
      subst hg
      refine ⟨(h6 g ((h1 g).2 rfl)).1, fun n o' hn hg' => ?_⟩
      by_cases hne : n = d
      · subst hne
        rw [hd] at hn
        cases hn
      · exact S.dj n o' d _ _ hn hd hne g hg' ((h1 g).2 rfl))
    exact (h es clock h3 h4).h hW' _ a w S'⟩
end
/-- Behind a pointer. -/
def qget (n : Nat) : List (Nat × List CV) → Option (List CV)
  | [] => none
  | (m, cs) :: l => if m = n then some cs else qget n l
theorem qget_mem {n : Nat} {cs : List CV} : ∀ {l : List (Nat × List CV)}, qget n l = some cs → (n, cs) ∈ l
  | [], h => by cases h
  | (m, cs') :: l, h => by
    unfold qget at h
    split at h
    · rename_i hm
      cases h
      subst hm
      simp
    · exact List.mem_cons_of_mem _ (qget_mem h)
theorem spec_loadQ {P : Program} {tys : List (Nat × Ty)} (hty : TysOk P tys) {L : LL} {H : HL} {nx p q n n0 off : Nat} {b1 b2 : Bool} {o : Oper} {T Tq : TypeId} {I : Ty} {x : Operand} {l : List (Nat × List CV)} {cs : List CV} {y : CV} (hop : o.op = .load T x)
    (hI : look T tys = some I) (hsz : I.size = 1) (hmk : mkV I [y] = some (.c y)) (hx : ev L x = some (.c (.p n off))) (hp : lookH H p = some (b1, .pin n n0)) (hq : lookH H q = some (b2, .ab (bufsQ Tq l))) (hg : qget n0 l = some cs) (hc : cs[off]? = some y) :
    Spec P L H nx o ⟨.t (.c y), [], [], []⟩ := by
  refine ⟨fun F => step_pure fun e a w S => ?_⟩
  have hT := hty _ _ hI
  have hb : e.blk n = n0 := (S.ob p b1 _ hp).1.2
  obtain ⟨⟨_, _, _, h4, h5⟩, _⟩ := (S.ob q b2 _ hq).1
  have hm := qget_mem hg
  have hblk := h4 _ hm
  have hcl : y.den e0 = y.den e := by
    refine (CV.den_same fun k hk => ?_)
    have : k ∈ flatN (cs.map CV.ns) := mem_flatN.2 ⟨_, List.mem_map.2 ⟨y, List.mem_of_getElem? hc, rfl⟩, hk⟩
    rw [h5 _ hm] at this
    cases this
  have hev : a.eval x = .pointer (some ⟨n0, off, none⟩) := by
    rw [ev_ok S hx]
    simp only [TV.den, CV.den, hb]
  have hrun := run_loadVar (P := P) (w := w) hT ⟨n0, off, none⟩ e (l := [y]) (by rw [hsz]; rfl) hmk fun j u hu => by
    cases j with
    | zero =>
      rw [lit_add, cell_of_row w n0 (off + 0) _ Tq (0, 0) hblk]
      simp at hu
      simp only [List.getElem?_toArray, List.getElem?_map, Nat.add_zero, hc, Option.map_some]
      rw [← hu, hcl]
    | succ j => simp at hu
  simp only [execOp, hop, hev, Instr.loadAt, Instr.sureAddr, Sem.run_bind, Sem.run_pure, Result.andThen_ok, hrun]
  rfl
/-- A map that is ranged over. -/
def itP (bm clock : Nat) (seen : Array Nat) : AbP := fun v F w => ∃ r c0, v = ptr r ∧ (∀ g, F g ↔ g = r) ∧ w.heap[r]? = some (.mapIter (some bm) clock seen c0) ∧ clock ≤ c0
/-- .. that has handed out an entry. -/
def itL (bm clock : Nat) (seen : Array Nat) (x : MapEntry) : AbP := fun v F w => ∃ r, v = ptr r ∧ (∀ g, F g ↔ g = r) ∧ w.heap[r]? = some (.mapIter (some bm) clock (seen.push x.born) clock)
theorem itP_stable {bm clock : Nat} {seen : Array Nat} : stable (itP bm clock seen) := by
  rintro v F w w' ⟨r, c0, h1, h2, h3, h4⟩ hk
  exact ⟨r, c0, h1, h2, (hk r ((h2 r).2 rfl)).trans h3, h4⟩
theorem itL_stable {bm clock : Nat} {seen : Array Nat} {x : MapEntry} : stable (itL bm clock seen x) := by
  rintro v F w w' ⟨r, h1, h2, h3⟩ hk
  exact ⟨r, h1, h2, (hk r ((h2 r).2 rfl)).trans h3⟩
theorem itL_itP {bm clock : Nat} {seen : Array Nat} {x : MapEntry} : ∀ v F w, itL bm clock seen x v F w → itP bm clock (seen.push x.born) v F w := by
  rintro v F w ⟨r, h1, h2, h3⟩
  exact ⟨r, clock, h1, h2, h3, Nat.le_refl _⟩
def anyP : AbP := fun _ F _ => ∀ g, ¬ F g
theorem anyP_stable : stable anyP := fun _ _ _ _ h _ => h
theorem spec_range {P : Program} {tys : List (Nat × Ty)} (hty : TysOk P tys) {L : LL} {H : HL} {nx d p tw bm clock : Nat} {b1 b2 b3 : Bool} {o : Oper} {T : TypeId} {Z : Ty} {x : Operand} {m : List (Int × Value)} {es : Array MapEntry} (hop : o.op = .range T x)
    (hZ : mapT (fun t => look t tys) T = some Z) (hx : ev L x = some (.c (.mp d))) (hd : lookH H d = some (b1, .mp m)) (hp : lookH H p = some (b2, .pin d bm)) (ht : lookH H tw = some (b3, .ab (mapX bm es clock))) :
    Spec P L H nx o ⟨.t (.c (.nm nx)), [(true, .ab (itP bm clock #[]))], [], []⟩ := by
  refine ⟨fun F => ?_⟩
  obtain ⟨kt, et, t1, _, _⟩ := mapT_ok hty hZ
  intro hlow e a w S K Q hK
  have hb : e.blk d = bm := (S.ob p b2 _ hp).1.2
  have hev : a.eval x = .map (some bm) := by
    rw [ev_ok S hx]
    simp only [TV.den, CV.den, hb]
  have hm := (S.ob tw b3 _ ht).1.1.2
  let r := w.heap.size
  let e' := e.put3 nx r (ptr r) (fun g => g = r)
  have hv : e'.val nx = ptr r := Env.put3_val e rfl
  refine wp_value (v := (SV.t (.c (.nm nx))).den e') (w' := w.alloc (.mapIter (some bm) clock #[] clock)) ?_ (hK e' _ (.old ⟨fun n hn => Env.put3_same e (by simp only [List.length_cons, List.length_nil] at hn; omega), rfl, rfl, rfl, by simp, fun g hg _ => Below.heap_alloc w _ g hg, fun k b o hk => ?_, fun j k hj hk hne => ?_, fun n o ho => (by cases ho)⟩))
  · simp only [execOp, hop, hev, run_range_map w T kt et bm es clock t1 hm, Sem.run_bind, Result.andThen_ok, Sem.run_pure, SV.den, TV.den, CV.den, hv]
    rfl
  · cases k with
    | zero =>
      cases hk
      have hfp : e'.fp nx = fun g => g = r := Env.put3_fp e
      refine ⟨⟨⟨r, clock, hv, fun g => by rw [Nat.add_zero, hfp], heap_alloc_new w _, Nat.le_refl _⟩, itP_stable⟩, fun g hg => ?_⟩
      rw [Nat.add_zero, hfp] at hg
      subst hg
      exact ⟨by simp [r], .inl (Nat.le_refl _)⟩
    | succ k => simp at hk
  · simp only [List.length_cons, List.length_nil] at hj hk
    omega
theorem spec_next_end {P : Program} {L : LL} {H : HL} {nx it tw bm clock : Nat} {b1 b2 : Bool} {o : Oper} {x : Operand} {es : Array MapEntry} {seen : Array Nat} (hop : o.op = .next x false)
    (hx : ev L x = some (.c (.nm it))) (hi : lookH H it = some (b1, .ab (itP bm clock seen))) (ht : lookH H tw = some (b2, .ab (mapX bm es clock))) (hst : Stamped es clock) (hz : (leftOf es seen).size = 0) :
    Spec P L H nx o ⟨.tup [.c (.b false)], [], [], []⟩ := by
  refine ⟨fun F => step_pure fun e a w S => ?_⟩
  obtain ⟨r, c0, h1, h2, h3, h4⟩ := (S.ob it b1 _ hi).1.1
  have hm := (S.ob tw b2 _ ht).1.1.2
  have hev : a.eval x = .pointer (some ⟨r, 0, none⟩) := by
    rw [ev_ok S hx]
    exact h1
  rcases run_next_at (P := P) w o.type r bm clock c0 seen es clock h3 hm ((stamped_iff es clock).1 hst).1 h4 with ⟨_, h5⟩ | ⟨y, hy, _⟩
  · simp only [execOp, hop, hev, h5, Sem.run_bind, Result.andThen_ok, Sem.run_pure]
    rfl
  · have : (leftOf es seen).toList.length = 0 := by simpa using hz
    rw [List.length_eq_zero_iff] at this
    rw [this] at hy
    cases hy
theorem spec_next {P : Program} {L : LL} {H : HL} {nx it tw bm clock : Nat} {b2 : Bool} {o : Oper} {x : Operand} {es : Array MapEntry} {seen : Array Nat} (hop : o.op = .next x false)
    (hx : ev L x = some (.c (.nm it))) (hi : lookH H it = some (true, .ab (itP bm clock seen))) (ht : lookH H tw = some (b2, .ab (mapX bm es clock))) (hst : Stamped es clock) (hz : (leftOf es seen).size ≠ 0) (hone : ∀ y ∈ es.toList, y.key.oneCell' = true ∧ y.val.oneCell' = true) :
    Spec P L H nx o ⟨.tup [.c (.b true), .c (.nm nx), .c (.nm (nx + 1))], [(false, .ab anyP), (false, .ab anyP)], [(it, some (.ab (exP fun y : {y // y ∈ (leftOf es seen).toList} => itL bm clock seen y.1)))], []⟩ := by
  refine ⟨fun F => ?_⟩
  intro hlow e a w S K Q hK
  obtain ⟨r, c0, h1, h2, h3, h4⟩ := (S.ob it true _ hi).1.1
  have hm := (S.ob tw b2 _ ht).1.1.2
  have hev : a.eval x = .pointer (some ⟨r, 0, none⟩) := by
    rw [ev_ok S hx]
    exact h1
  rcases run_next_at (P := P) w o.type r bm clock c0 seen es clock h3 hm ((stamped_iff es clock).1 hst).1 h4 with ⟨h5, _⟩ | ⟨y, hy, w1, hw1, h5⟩
  · exact absurd h5 hz
  · have hye : y ∈ es.toList := (mem_left hy).1
    obtain ⟨o1, o2⟩ := hone y hye
    let e1 := e.put3 nx 0 y.key (fun _ => False)
    let e2 := e1.put3 (nx + 1) 0 y.val (fun _ => False)
    have v1 : e2.val nx = y.key := ((Env.put3_same e1 (by omega)).2.1).trans (Env.put3_val e o1)
    have v2 : e2.val (nx + 1) = y.val := Env.put3_val e1 o2
    have hit : it < nx := (hlow.2 it _ hi).1
    have hs : ∀ n, n ≠ nx → n ≠ nx + 1 → e.same e2 n := fun n g1 g2 => ⟨((Env.put3_same e1 g2).1).trans (Env.put3_same e g1).1, ((Env.put3_same e1 g2).2.1).trans (Env.put3_same e g1).2.1, ((Env.put3_same e1 g2).2.2).trans (Env.put3_same e g1).2.2⟩
    have f1 : e2.fp nx = fun _ => False := ((Env.put3_same e1 (by omega)).2.2).trans (Env.put3_fp e)
    have f2 : e2.fp (nx + 1) = fun _ => False := Env.put3_fp e1
    let w' := ChangeMaps.setBlock w1 r (.mapIter (some bm) clock (seen.push y.born) clock)
    have hh : w1.heap = w.heap ∧ w1.os = w.os ∧ w1.tape = w.tape ∧ w1.output = w.output := by rcases hw1 with rfl | rfl <;> exact ⟨rfl, rfl, rfl, rfl⟩
    have hlt : r < w.heap.size := (Array.getElem?_eq_some_iff.1 h3).1
    have hheap : w'.heap = w.heap.setIfInBounds r (.mapIter (some bm) clock (seen.push y.born) clock) := by
      show w1.heap.setIfInBounds r _ = _
      rw [hh.1]
    refine wp_value (v := (SV.tup [.c (.b true), .c (.nm nx), .c (.nm (nx + 1))]).den e2) (w' := w') ?_ (hK e2 _ (.old ⟨fun n hn => hs n (by simp only [List.length_cons, List.length_nil] at hn; omega) (by simp only [List.length_cons, List.length_nil] at hn; omega), hh.2.1, hh.2.2.1, hh.2.2.2, ?_, fun g hg hno => ?_, fun k b o hk => ?_, fun j k hj hk hne g hg => ?_, fun n o ho => ?_⟩))
    · simp only [execOp, hop, hev, h5, Sem.run_bind, Result.andThen_ok, Sem.run_pure, SV.den, TV.den, CV.den, List.map_cons, List.map_nil, v1, v2]
      rfl
    · rw [hheap]; simp
    · have : r ≠ g := fun hr => hno it (some (.ab (exP fun y : {y // y ∈ (leftOf es seen).toList} => itL bm clock seen y.1))) (by simp) ((h2 g).2 hr.symm)
      rw [hheap, Array.getElem?_setIfInBounds_ne this]
    · rcases k with _ | _ | k
      · cases hk
        exact ⟨⟨fun g hg => by rw [Nat.add_zero, f1] at hg; exact hg, anyP_stable⟩, fun g hg => by rw [Nat.add_zero, f1] at hg; exact hg.elim⟩
      · cases hk
        exact ⟨⟨fun g hg => by rw [Nat.zero_add, f2] at hg; exact hg, anyP_stable⟩, fun g hg => by rw [Nat.zero_add, f2] at hg; exact hg.elim⟩
      · simp at hk
    · rcases j with _ | _ | j
      · rw [Nat.add_zero, f1] at hg; exact hg.elim
      · rw [Nat.zero_add, f2] at hg; exact hg.elim
      · simp only [List.length_cons, List.length_nil] at hj; omega
    · simp only [List.mem_singleton, Prod.mk.injEq, Option.some.injEq] at ho
      obtain ⟨rfl, rfl⟩ := ho
      have hs' := hs n (by omega) (by omega)
      refine ⟨⟨⟨y, hy⟩, r, hs'.2.1.trans h1, fun g => by rw [hs'.2.2]; exact h2 g, ?_⟩, exP_stable fun k => itL_stable⟩
      rw [hheap, Array.getElem?_setIfInBounds_self_of_lt hlt]
theorem spec_entry {P : Program} {L : LL} {H : HL} {nx it tw bm clock : Nat} {b1 b2 : Bool} {o : Oper} {x : Operand} {es : Array MapEntry} {seen : Array Nat} {y : MapEntry} {k v : TV} (hop : o.op = .entry x)
    (hx : ev L x = some (.c (.nm it))) (hi : lookH H it = some (b1, .ab (itL bm clock seen y))) (ht : lookH H tw = some (b2, .ab (mapX bm es clock))) (hst : Stamped es clock) (hy : y ∈ es.toList)
    (hk : ∀ F e a w, Sat F (fun t => look t L) (lookH H) e a w → y.key = k.den e ∧ y.val = v.den e) :
    Spec P L H nx o ⟨.tup [k, v], [], [], []⟩ := by
  refine ⟨fun F => step_pure fun e a w S => ?_⟩
  obtain ⟨r, h1, h2, h3⟩ := (S.ob it b1 _ hi).1.1
  have hm := (S.ob tw b2 _ ht).1.1.2
  have hev : a.eval x = .pointer (some ⟨r, 0, none⟩) := by
    rw [ev_ok S hx]
    exact h1
  obtain ⟨k1, k2⟩ := hk F e a w S
  have := run_entry_at (P := P) w r bm clock seen es clock y h3 hm hy ((stamped_iff es clock).1 hst).2.1
  simp only [execOp, hop, hev, this, Sem.run_bind, Result.andThen_ok, Sem.run_pure, SV.den, List.map_cons, List.map_nil, k1, k2]
end Vc
