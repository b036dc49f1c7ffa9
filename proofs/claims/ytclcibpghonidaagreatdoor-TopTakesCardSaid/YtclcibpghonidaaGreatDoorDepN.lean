/- The statements of deps: a disk of eight sectors, in plain words. -/
import Derived.Test.YtclcibpghonidaaGreatDoorDepR
import Derived.Test.YtclcibpghonidaaGreatDoorFnV
namespace Cw
open Go Vc
open Go.Proofs
set_option maxRecDepth 100000
def zB : List UInt8 := List.replicate 64 0
def dkB (R : List Ch) (k : Int) : List UInt8 := imgB (R.filter fun c => c.at' == k && c.st == 0) zB
def flB (R : List Ch) (k : Int) : List UInt8 := imgB (R.filter fun c => c.at' == k && c.st == 2) (dkB R k)
def alB (R : List Ch) (k : Int) : List UInt8 := imgB (R.filter fun c => c.at' == k) zB
def okB (R : List Ch) : Prop := ∀ c ∈ R, (0 ≤ c.at' ∧ c.at' < 8) ∧ (0 ≤ c.off ∧ c.off < 64) ∧ ∃ b, c.by' = bt1 b
theorem S_list (l : List UInt8) : (S l).data.toList = l := rfl
theorem zB_len : zB.length = 64 := by simp [zB]
theorem dkB_len (R : List Ch) (k : Int) : (dkB R k).length = 64 := by rw [dkB, imgB_len, zB_len]
theorem flB_len (R : List Ch) (k : Int) : (flB R k).length = 64 := by rw [flB, imgB_len, dkB_len]
theorem one_set {c : Ch} {b : Int} (hb : c.by' = bt1 b) (h : 0 ≤ c.off ∧ c.off < 64) {s : List UInt8} (hs : s.length = 64) : one s (c.off, c.by') = s.set c.off.toNat (btC c) := by
  have h1 : c.by'.data.toList = [UInt8.ofNat b.toNat] := by rw [hb]; rfl
  have h2 : btC c = UInt8.ofNat b.toNat := by rw [btC, h1]; rfl
  rw [one, h2]
  show over s c.off.toNat c.by'.data.toList = _
  rw [h1, over, List.set_eq_take_append_cons_drop, if_pos (by omega)]
  rfl
theorem patchAll_img : ∀ (cs : List Ch) (s : List UInt8), okB cs → s.length = 64 → patchAll s (cs.map fun c => (c.off, c.by')) = imgB cs s
  | [], _, _, _ => rfl
  | c :: cs, s, h, hs => by
    obtain ⟨_, h1, b, hb⟩ := h c (by simp)
    rw [List.map_cons, patchAll, List.foldl_cons, ← patchAll, one_set hb h1 hs, patchAll_img cs _ (fun x hx => h x (by simp [hx])) (by simpa using hs)]
    rfl
theorem pt_img {cs : List Ch} (h : okB cs) (hl : cs.length ≤ 1024) {s : ByteArray} (hs : s.size = 64) : pt s (cs.map fun c => (c.off, c.by')) = S (imgB cs s.data.toList) ∧ pte s (cs.map fun c => (c.off, c.by')) = 0 := by
  have h1 : (cs.map fun c => (c.off, c.by')).all okp = true := by
    rw [List.all_eq_true]
    intro p hp
    obtain ⟨c, hc, rfl⟩ := List.mem_map.1 hp
    obtain ⟨_, h1, b, hb⟩ := h c hc
    show okp (c.off, c.by') = true
    rw [hb]
    exact bt1_okp b h1
  have h2 : pte s (cs.map fun c => (c.off, c.by')) = 0 := by
    rw [pte, if_neg (by omega), if_neg (by rw [List.length_map]; omega), if_pos h1]
  refine ⟨?_, h2⟩
  rw [pt, if_pos h2, patchAll_img cs _ h]
  exact hs
theorem okB.filter {R : List Ch} (h : okB R) (q : Ch → Bool) : okB (R.filter q) := fun c hc => h c (List.mem_filter.1 hc).1
theorem okB.setF {R : List Ch} (h : okB R) (p : Ch → Bool) (s : Int) : okB (setF p s R) := fun x hx => by
  obtain ⟨c, hc, rfl⟩ := setF_mem hx
  have := h c hc
  split <;> exact this
theorem okB.rdyL {R : List Ch} (h : okB R) (hn : (R.map Ch.no).Nodup) (k : Int) : okB (rdyL R k) := by rw [rdyL_eq hn]; exact h.filter _
theorem setF_filter {p q : Ch → Bool} {s : Int} : ∀ {R : List Ch}, (∀ c ∈ R, p c = true → q c = false) → (∀ c ∈ R, p c = true → q { c with st := s } = false) → (setF p s R).filter q = R.filter q
  | [], _, _ => rfl
  | c :: R, h1, h2 => by
    have ih := setF_filter (p := p) (q := q) (s := s) (R := R) (fun x hx => h1 x (by simp [hx])) fun x hx => h2 x (by simp [hx])
    rw [setF_cons]
    by_cases hp : p c = true
    · rw [if_pos hp, List.filter_cons_of_neg (by rw [h2 c (by simp) hp]; decide), List.filter_cons_of_neg (by rw [h1 c (by simp) hp]; decide), ih]
    · rw [if_neg hp, List.filter_cons, List.filter_cons, ih]
/-- The disk, and what is under way to it. -/
structure DkOk (D F : List ByteArray) (R : List Ch) : Prop where
  d8 : D.length = 8
  f8 : F.length = 8
  dk : ∀ (k : Nat) (h : k < D.length), D[k] = S (dkB R k)
  fl : ∀ (k : Nat) (h : k < F.length), F[k] = if ofN R k 2 = [] then ⟨#[]⟩ else S (flB R k)
theorem dkB_other {p : Ch → Bool} {s k k' : Int} {R : List Ch} (hp : ∀ c ∈ R, p c = true → c.at' = k) (hk : k' ≠ k) (t : Int) : (setF p s R).filter (fun c => c.at' == k' && c.st == t) = R.filter (fun c => c.at' == k' && c.st == t) :=
  setF_filter (fun c hc h => by simp [hp c hc h]; intro e; exact absurd e.symm hk) fun c hc h => by simp [hp c hc h]; intro e; exact absurd e.symm hk
theorem ofN_filter (R : List Ch) (k s : Int) : ofN R k s = (R.filter fun c => c.at' == k && c.st == s).map Ch.no := rfl
theorem DkOk.upd {D F D' F' : List ByteArray} {R : List Ch} (h : DkOk D F R) {p : Ch → Bool} {s : Int} {k : Nat} (hp : ∀ c ∈ R, p c = true → c.at' = (k : Int)) (x y : ByteArray) (hD : D' = D.set k x) (hF : F' = F.set k y) (hk : k < 8)
    (hx : x = S (dkB (setF p s R) k)) (hy : y = if ofN (setF p s R) k 2 = [] then ⟨#[]⟩ else S (flB (setF p s R) k)) : DkOk D' F' (setF p s R) := by
  subst hD hF
  have ho : ∀ (k' : Nat), k' ≠ k → dkB (setF p s R) k' = dkB R k' ∧ flB (setF p s R) k' = flB R k' ∧ ofN (setF p s R) k' 2 = ofN R k' 2 := fun k' hk' => by
    have hne : ((k' : Nat) : Int) ≠ (k : Int) := by omega
    have e1 := dkB_other (s := s) hp hne 0
    have e2 := dkB_other (s := s) hp hne 2
    exact ⟨by rw [dkB, e1]; rfl, by rw [flB, dkB, e1, e2]; rfl, by rw [ofN_filter, e2]; rfl⟩
  refine ⟨by simpa using h.d8, by simpa using h.f8, fun j hj => ?_, fun j hj => ?_⟩
  · rw [List.getElem_set]
    by_cases hjk : k = j
    · subst hjk; rw [if_pos rfl, hx]
    · rw [if_neg hjk, h.dk j (by simpa using hj), (ho j (by omega)).1]
  · rw [List.getElem_set]
    by_cases hjk : k = j
    · subst hjk; rw [if_pos rfl, hy]
    · rw [if_neg hjk, h.fl j (by simpa using hj), (ho j (by omega)).2.1, (ho j (by omega)).2.2]
theorem set_same {l : List ByteArray} {k : Nat} (h : k < l.length) : l = l.set k l[k] := by simp
theorem DkOk.lost {D F : List ByteArray} {R : List Ch} (h : DkOk D F R) {k : Nat} (hk : k < 8) : DkOk D (F.set k ⟨#[]⟩) (setK k 1 R) := by
  have hd8 := h.d8
  have e1 : (setK k 1 R).filter (fun c => c.at' == (k : Int) && c.st == 0) = R.filter (fun c => c.at' == (k : Int) && c.st == 0) := setF_filter (fun c hc hf => by rw [(flyB_st hf).2]; simp) fun c hc hf => by simp
  have e2 : (setK k 1 R).filter (fun c => c.at' == (k : Int) && c.st == 2) = [] := by
    rw [List.filter_eq_nil_iff]
    intro x hx
    obtain ⟨c, hc, rfl⟩ := setF_mem hx
    by_cases hf : flyB k c = true
    · rw [if_pos hf]; simp
    · rw [if_neg hf]; exact hf
  refine h.upd (p := flyB k) (s := 1) (fun c hc hf => (flyB_st hf).1) D[k] ⟨#[]⟩ (set_same (by omega)) rfl hk ?_ ?_
  · rw [h.dk k (by omega), dkB, ← e1]; rfl
  · have : ofN (setF (flyB k) 1 R) k 2 = [] := by rw [ofN_filter]; exact congrArg (List.map Ch.no) e2
    rw [if_pos this]
theorem DkOk.done {D F : List ByteArray} {R : List Ch} (h : DkOk D F R) (hd : DepOk R) (ho : overOk R) {k : Nat} (hk : k < 8) (hf : ofN R k 2 ≠ []) : DkOk (D.set k (F[k]'(by rw [h.f8]; exact hk))) (F.set k ⟨#[]⟩) (setK k 0 R) := by
  have e2 : (setK k 0 R).filter (fun c => c.at' == (k : Int) && c.st == 2) = [] := by
    rw [List.filter_eq_nil_iff]
    intro x hx
    obtain ⟨c, hc, rfl⟩ := setF_mem hx
    by_cases hf : flyB k c = true
    · rw [if_pos hf]; simp
    · rw [if_neg hf]; exact hf
  refine h.upd (p := flyB k) (s := 0) (fun c hc hf => (flyB_st hf).1) _ ⟨#[]⟩ rfl rfl hk ?_ ?_
  · rw [h.fl k (by rw [h.f8]; exact hk), if_neg hf, flB, dkB, done_more hd ho]; rfl
  · have : ofN (setF (flyB k) 0 R) k 2 = [] := by rw [ofN_filter]; exact congrArg (List.map Ch.no) e2
    rw [if_pos this]
theorem DkOk.send {D F : List ByteArray} {R : List Ch} (h : DkOk D F R) (hd : DepOk R) {k : Nat} (hk : k < 8) (hf : ofN R k 2 = []) (hr : rdyN R k ≠ []) : DkOk D (F.set k (S (imgB (rdyL R k) (dkB R k)))) (setN (rdyN R k) 2 R) := by
  have hd8 := h.d8
  have hnd := hd.num.nodup
  have hp : ∀ c ∈ R, (rdyN R k).contains c.no = true → c.at' = (k : Int) ∧ c.st = 1 := fun c hc hcn => by
    obtain ⟨x, hx, h1, h2, h3, _⟩ := rdyN_ok (List.contains_iff_mem.1 hcn)
    rw [uniq hnd hx hc h1] at h2 h3
    exact ⟨h2, h3⟩
  have e1 : (setN (rdyN R k) 2 R).filter (fun c => c.at' == (k : Int) && c.st == 0) = R.filter (fun c => c.at' == (k : Int) && c.st == 0) := setF_filter (fun c hc hf => by rw [(hp c hc hf).2]; simp) fun c hc hf => by simp
  have h0 : ∀ c ∈ R, c.at' = (k : Int) → c.st ≠ 2 := fun c hc h1 h2 => by
    have : c.no ∈ ofN R k 2 := List.mem_map.2 ⟨c, List.mem_filter.2 ⟨hc, by simp [h1, h2]⟩, rfl⟩
    rw [hf] at this; cases this
  refine h.upd (p := fun c => (rdyN R k).contains c.no) (s := 2) (fun c hc hcn => (hp c hc hcn).1) D[k] _ (set_same (by omega)) rfl hk ?_ ?_
  · rw [h.dk k (by omega), dkB, ← e1]; rfl
  · have h1 : ofN (setF (fun c => (rdyN R k).contains c.no) 2 R) k 2 ≠ [] := by
      obtain ⟨n, hn⟩ := List.exists_mem_of_ne_nil _ hr
      obtain ⟨c, hc, h1, h2, h3, _⟩ := rdyN_ok hn
      intro hnil
      have hx : ({ c with st := 2 } : Ch) ∈ setF (fun c => (rdyN R k).contains c.no) 2 R := List.mem_map.2 ⟨c, hc, by
        rw [if_pos (List.contains_iff_mem.2 (h1 ▸ hn))]⟩
      have : c.no ∈ ofN (setF (fun c => (rdyN R k).contains c.no) 2 R) k 2 := List.mem_map.2 ⟨_, List.mem_filter.2 ⟨hx, by simp [h2]⟩, rfl⟩
      rw [hnil] at this; cases this
    rw [if_neg h1]
    have e3 := sent_fly hnd k h0 (dkB R k)
    have e4 : dkB (setF (fun c => (rdyN R k).contains c.no) 2 R) k = dkB R k := by rw [dkB, dkB, ← e1]; rfl
    rw [flB, e4, ← e3]
    rfl
theorem DkOk.same {D F : List ByteArray} {R R' : List Ch} (h : DkOk D F R) (he : ∀ k t : Int, t ≠ 1 → R'.filter (fun c => c.at' == k && c.st == t) = R.filter (fun c => c.at' == k && c.st == t)) : DkOk D F R' := by
  refine ⟨h.d8, h.f8, fun k hk => ?_, fun k hk => ?_⟩
  · rw [h.dk k hk, dkB, dkB, he _ 0 (by decide)]
  · rw [h.fl k hk, ofN_filter, ofN_filter, flB, flB, dkB, dkB, he _ 0 (by decide), he _ 2 (by decide)]
theorem DkOk.add {D F : List ByteArray} {R : List Ch} (h : DkOk D F R) {c : Ch} (hc : c.st = 1) : DkOk D F (R ++ [c]) := h.same fun k t ht => by
  rw [List.filter_append, filt0 (fun c : Ch => c.at' == k && c.st == t) (by simp [hc]; intro _; omega), List.append_nil]
theorem DkOk.nil : DkOk (List.replicate 8 B0) (List.replicate 8 ⟨#[]⟩) [] := by
  refine ⟨by simp, by simp, fun k hk => ?_, fun k hk => ?_⟩
  · rw [List.getElem_replicate]; rfl
  · rw [List.getElem_replicate]; rfl
end Cw
namespace Vc
open Go Go.RowKit
section
variable {P : Program} {F : Frm} {Q : Exit → Act → World → Prop} {c : Code} {ks : List KI} {L : LL} {H : HL} {nx : Nat}
/-- A pointer to a thing whose number is known, by the name of the number. -/
theorem At.alias {φ : AbP} {b : Nat} {b1 b2 : Bool} (t d q : Nat) (hd : lookH H d = some (b1, .ab φ)) (hp : Pins φ (ptr b)) (hq : lookH H q = some (b2, .pin q b)) (hl : look t L = some (.t (.c (.nm d)))) (h : At P F Q c ks ((t, .t (.c (.p q 0))) :: L) H nx) : At P F Q c ks L H nx :=
  ⟨fun hW e a w S => by
    have hb : e.blk q = b := (S.ob q b2 _ hq).1.2
    have hv : e.val d = ptr b := hp _ _ _ (S.ob d b1 _ hd).1.1
    refine h.h ⟨fun t' v' hv' j hj => ?_, hW.h⟩ e a w ⟨S.fr, S.sz, S.df, fun t' v' hv' => ?_, S.ob, S.dj⟩
    · rw [look_cons] at hv'
      split at hv'
      · cases hv'
        simp [SV.ns, TV.ns, CV.ns] at hj
        rw [hj]
        exact (hW.h q _ hq).1
      · exact hW.l t' v' hv' j hj
    · rw [look_cons] at hv'
      split at hv'
      · rename_i ht
        cases hv'
        subst ht
        rw [S.sl _ _ hl]
        show e.val d = .pointer (some ⟨e.blk q, 0, none⟩)
        rw [hv, hb]
        rfl
      · exact S.sl t' v' hv'⟩
end
theorem fnh_args {P : Program} {f : FuncId} {args args' : List TV} {H : HL} {nx : Nat} {E : Eff} (hn : (∀ n x, lookH H n = some x → n < nx ∧ ∀ m ∈ x.2.ns, m < nx) → (∀ v ∈ args', ∀ n ∈ v.ns, n < nx) → ∀ v ∈ args, ∀ n ∈ v.ns, n < nx) (he : ∀ e w, MemOk H e w → args.map (TV.den e) = args'.map (TV.den e)) (h : FnH P f args H nx E) : FnH P f args' H nx E := by
  refine ⟨fun hw ha e w M => ?_⟩
  rw [← he e w M]
  exact h.h hw (hn hw ha) e w M
theorem alias_den {φ : AbP} {b d q : Nat} {b1 b2 : Bool} {H : HL} (hd : lookH H d = some (b1, .ab φ)) (hp : Pins φ (ptr b)) (hq : lookH H q = some (b2, .pin q b)) {e : Env} {w : World} (M : MemOk H e w) : (TV.c (.nm d)).den e = (TV.c (.p q 0)).den e := by
  show e.val d = .pointer (some ⟨e.blk q, 0, none⟩)
  rw [hp _ _ _ (M.ob d b1 _ hd).1.1, (M.ob q b2 _ hq).1.2]
  rfl
theorem fnh_al1 {P : Program} {f : FuncId} {bs : List TV} {H : HL} {nx d q b : Nat} {φ : AbP} {b1 b2 : Bool} {E : Eff} (hd : lookH H d = some (b1, .ab φ)) (hp : Pins φ (ptr b)) (hq : lookH H q = some (b2, .pin q b)) (h : FnH P f (.c (.nm d) :: bs) H nx E) : FnH P f (.c (.p q 0) :: bs) H nx E := by
  refine fnh_args (fun hw ha v hv n hn => ?_) (fun e w M => ?_) h
  · rcases List.mem_cons.1 hv with rfl | hv
    · simp [TV.ns, CV.ns] at hn
      subst hn
      exact (hw _ _ hd).1
    · exact ha v (List.mem_cons.2 (.inr hv)) n hn
  · rw [List.map_cons, List.map_cons, alias_den hd hp hq M]
/-- A function that reads something inside a thing that is shut, by a pointer whose number is known. -/
theorem fnh_in {P : Program} {f : FuncId} {bs : List TV} {H : HL} {nx r : Nat} {br : Bool} {O : List (Bool × Ob)} {x y : CV} {u : TV} {v' : SV} {news' : List (Bool × Ob)} (hr : lookH H r = some (br, .ab (absP O x))) (hy : inR 0 O.length y.ns = true) (hO : newsR 0 O.length O = true) (hbs : bares bs = true)
    (hvr : inR 0 news'.length v'.ns = true) (hnr : newsR 0 news'.length news' = true)
    (hu : ∀ e e1 w, MemOk H e w → MemOk (newsH 0 O) e1 w → u.den e = y.den e1)
    (h : FnH P f (.c y :: bs) (newsH 0 O) O.length ⟨v'.re (O.length + ·), reN (O.length + ·) news', [], []⟩) : FnH P f (u :: bs) H nx ⟨v'.re (nx + ·), reN (nx + ·) news', [], []⟩ := by
  refine ⟨fun hwf _ e w M => ?_⟩
  obtain ⟨⟨hp, hst⟩, hlt⟩ := M.ob r br _ hr
  obtain ⟨e0', h1, h2, h3, h4, h5⟩ := hp
  have hM : MemOk (newsH 0 O) e0' w := by
    refine ⟨fun n b o hn => ?_, fun n o m c q hn hm hne => ?_⟩
    · rw [lookH_newsH, if_pos (Nat.zero_le _), Nat.sub_zero] at hn
      refine ⟨(h2 n b o hn).1, fun g hg => h5 g ((h4 g).2 ⟨n, ?_, hg⟩)⟩
      rcases Nat.lt_or_ge n O.length with hl | hl
      · exact hl
      · rw [List.getElem?_eq_none hl] at hn; cases hn
    · rw [lookH_newsH, if_pos (Nat.zero_le _), Nat.sub_zero] at hn hm
      have hln : n < O.length := by
        rcases Nat.lt_or_ge n O.length with hl | hl
        · exact hl
        · rw [List.getElem?_eq_none hl] at hn; cases hn
      have hlm : m < O.length := by
        rcases Nat.lt_or_ge m O.length with hl | hl
        · exact hl
        · rw [List.getElem?_eq_none hl] at hm; cases hm
      exact h3 n m hln hlm hne
  have := h.h (fun n z hn => by
      rw [lookH_newsH, if_pos (Nat.zero_le _), Nat.sub_zero] at hn
      obtain ⟨b, o⟩ := z
      refine ⟨?_, fun m hm => (newsR_ok hO n b o hn m hm).2⟩
      rcases Nat.lt_or_ge n O.length with hl | hl
      · exact hl
      · rw [List.getElem?_eq_none hl] at hn; cases hn) (fun a ha n hn => by
      rcases List.mem_cons.1 ha with rfl | ha
      · exact (inR_ok hy n hn).2
      · exact (bares_no hbs a ha n hn).elim) e0' w hM
  have hargs : (u :: bs).map (TV.den e) = (TV.c y :: bs).map (TV.den e0') := by
    rw [List.map_cons, List.map_cons, bares_den hbs e, bares_den hbs e0', hu e e0' w M hM]
    rfl
  rw [hargs]
  refine Calls.mono this ?_
  rintro en w' ⟨e1, rfl, K⟩
  have hkeep : ∀ g, g < w.heap.size → w'.heap[g]? = w.heap[g]? := fun g hg => K.block g hg fun n o ho => (by cases ho)
  have hnw : ∀ {j : Nat} {b : Bool} {o : Ob}, news'[j]? = some (b, o) → (o.re (O.length + ·)).holds e1 (O.length + j) w' ∧ ∀ g, e1.fp (O.length + j) g → g < w'.heap.size ∧ w.heap.size ≤ g := by
    intro j b o hj
    have hj' : (reN (O.length + ·) news')[j]? = some (b, o.re (O.length + ·)) := by rw [reN_get, hj]; rfl
    cases K with
    | old K =>
      obtain ⟨a1, a2⟩ := K.news j b _ hj'
      refine ⟨a1, fun g hg => ⟨(a2 g hg).1, ?_⟩⟩
      rcases (a2 g hg).2 with a3 | ⟨n, hn, _⟩
      · exact a3
      · cases hn
    | anew K =>
      obtain ⟨a1, a2⟩ := K.news j b _ hj'
      refine ⟨a1, fun g hg => ⟨(a2 g hg).1, ?_⟩⟩
      rcases (a2 g hg).2 with a3 | ⟨n, o', hn, _⟩
      · exact a3
      · cases hn
  have hndj : ∀ j k, j < news'.length → k < news'.length → j ≠ k → ∀ g, e1.fp (O.length + j) g → ¬ e1.fp (O.length + k) g := by
    cases K with
    | old K => exact fun j k hj hk => K.ndj j k (by simpa [reN_length] using hj) (by simpa [reN_length] using hk)
    | anew K => exact fun j k hj hk => K.ndj j k (by simpa [reN_length] using hj) (by simpa [reN_length] using hk)
  let e2 : Env := e1.comp (O.length + ·)
  refine ⟨e.open e2 nx news'.length, ?_, .old ⟨?_, K.os, K.tape, K.out, K.size, fun g hg _ => hkeep g hg, ?_, ?_, fun n o ho => (by cases ho)⟩⟩
  · show Ending.returned ((v'.re (O.length + ·)).den e1) = _
    have a1 : (v'.re (O.length + ·)).den e1 = v'.den e2 := SV.re_den (e := e2) (e' := e1) fun n _ => ⟨rfl, rfl⟩
    rw [a1, SV.re_den (e := e2) fun n hn => (Env.open_new e e2 (inR_ok hvr n hn).2).1]
  · intro n hn
    simp only [reN_length] at hn
    refine ⟨?_, ?_, ?_⟩ <;> (show (if _ then _ else _) = _; rw [if_neg (by omega)])
  · intro k b o hk
    rw [reN_get] at hk
    cases hk' : news'[k]? with
    | none => rw [hk'] at hk; cases hk
    | some z =>
      rw [hk'] at hk
      cases hk
      obtain ⟨b, o⟩ := z
      have hltk : k < news'.length := by
        rcases Nat.lt_or_ge k news'.length with hl | hl
        · exact hl
        · rw [List.getElem?_eq_none hl] at hk'; cases hk'
      obtain ⟨q1, q2⟩ := hnw hk'
      obtain ⟨p1, p2⟩ := Env.open_new e e2 (nx := nx) hltk
      have q1' : o.holds e2 k w' := Ob.re_back (r := (O.length + ·)) (n := k) q1
      refine ⟨Ob.re_holds p1 p2 (fun m hm => (Env.open_new e e2 (newsR_ok hnr k b o hk' m hm).2).1) q1', fun g hg => ?_⟩
      rw [p2] at hg
      exact ⟨(q2 g hg).1, .inl (q2 g hg).2⟩
  · intro j k hj hk hne g hg hg'
    simp only [reN_length] at hj hk
    rw [(Env.open_new e e2 hj).2] at hg
    rw [(Env.open_new e e2 hk).2] at hg'
    exact hndj j k hj hk hne g hg hg'
end Vc
namespace Vc
open Go Go.RowKit
/-- A method of a thing of which something is there, told alike of each. -/
theorem fnh_ex2 {κ : Type} {P : Program} {f : FuncId} {args : List TV} {H : HL} {nx d : Nat} {φ : κ → AbP} {v : SV} {news : List (Bool × Ob)} {upd : List (Nat × Option Ob)} {obs : List Prop} (hd : lookH H d = some (true, .ab (exP φ))) (hs : ∀ k, stable (φ k))
    (h : ∀ k, FnH P f args ((d, some (true, .ab (φ k))) :: H) nx ⟨v, news, upd, obs⟩) : FnH P f args H nx ⟨v, news, upd, obs⟩ := by
  refine ⟨fun hw ha e w M => ?_⟩
  obtain ⟨k, hk⟩ := (M.ob d true _ hd).1.1
  have M' : MemOk ((d, some (true, .ab (φ k))) :: H) e w := by
    refine ⟨fun n b o hn => ?_, fun n o m c q hn hm hne g hg hg' => ?_⟩
    · rw [lookH_cons] at hn
      split at hn
      · rename_i h1
        cases hn
        subst h1
        exact ⟨⟨hk, hs k⟩, (M.ob n _ _ hd).2⟩
      · exact M.ob n b o hn
    · rw [lookH_cons] at hn hm
      split at hn
      · rename_i h1
        cases hn
        subst h1
        rw [if_neg (fun h => hne h.symm)] at hm
        exact M.dj n _ m c q hd hm hne g hg hg'
      · split at hm
        · rename_i h1
          cases hm
          subst h1
          exact M.dj n o m _ _ hn hd hne g hg hg'
        · exact M.dj n o m c q hn hm hne g hg hg'
  refine (h k).h (fun n x hn => ?_) ha e w M'
  rw [lookH_cons] at hn
  split at hn
  · rename_i h1
    cases hn
    subst h1
    exact ⟨(hw n _ hd).1, fun m hm => by simp [Ob.ns] at hm⟩
  · exact hw n x hn
end Vc
namespace Cw
open Go Vc
open Go.Proofs
set_option maxRecDepth 100000
section
variable {H : HL} {nx d q b : Nat} {b1 : Bool} {V : DV} {W : List (List Int × Option Addr × Nat)} {R : List Ch}
theorem imageP (hd : lookH H d = some (true, .ab (depP V R.length b))) (hq : lookH H q = some (b1, .ab (frzP W))) (hdq : d ≠ q) (h : DR V W R) (k : Int) (s : ByteArray) (hs : s.size ≤ 9223372036854775807) :
    FnH Tryz.prog 98 [.c (.nm d), .c (iT k), .c (.s s)] H nx ⟨.tup [.c (.s (pt s (rdyP R k))), .c (iT (pte s (rdyP R k)))], [], [(d, some (.ab (depP V R.length b)))], []⟩ :=
  by
    have := imageH (nx := nx) (b := b) hd hq hdq h.sub h.ok k s hs
    rw [h.rdyP] at this
    exact this
theorem sectorsP (hd : lookH H d = some (true, .ab (depP V R.length b))) (hq : lookH H q = some (b1, .ab (frzP W))) (hdq : d ≠ q) (h : DR V W R) :
    FnH Tryz.prog 63 [.c (.nm d)] H nx ⟨.t (.c (.nm nx)), [(true, .own 3 1 (secs (und R)).length (ivs (secs (und R))))], [(d, some (.ab (depP V R.length b)))], []⟩ :=
  by
    have := sectorsH (nx := nx) (b := b) hd hq hdq h.sub h.ok
    rw [h.eq] at this
    exact this
theorem viewP (hd : lookH H d = some (true, .ab (depP V R.length b))) (h : DR V W R) (k : Int) (s : ByteArray) (hs : s.size ≤ 9223372036854775807) :
    FnH Tryz.prog 154 [.c (.nm d), .c (iT k), .c (.s s)] H nx ⟨.tup [.c (.s (pt s (vwP R k))), .c (iT (pte s (vwP R k)))], [], [(d, some (.ab (depP V R.length b)))], []⟩ :=
  by
    have := viewH (nx := nx) (b := b) hd h.ok k s hs
    rw [h.vw] at this
    exact this
theorem sendP (hd : lookH H d = some (true, .ab (depP V R.length b))) (hq : lookH H q = some (b1, .ab (frzP W))) (hdq : d ≠ q) (h : DR V W R) (k : Int) :
    FnH Tryz.prog 99 [.c (.nm d), .c (iT k)] H nx ⟨.tup [.c (.nm nx), .c (iT (sdE' R k))], [(true, .own 3 1 (sdL' R k).length (ivs (sdL' R k)))], [(d, some (.ab (depP (sdV V k) R.length b)))], []⟩ :=
  by
    have := sendA (nx := nx) (b := b) hd hq hdq h.sub h.ok k
    rw [h.sdE, h.sdL] at this
    exact this
theorem doneP (hd : lookH H d = some (true, .ab (depP V R.length b))) (h : DR V W R) (k : Int) :
    FnH Tryz.prog 66 [.c (.nm d), .c (iT k)] H nx ⟨.tup [.c (.nm nx), .c (iT (dnE' R k))], [(true, .own 3 1 (ofN R k 2).length (ivs (ofN R k 2)))], [(d, some (.ab (depP (dnV V k) R.length b)))], []⟩ :=
  by
    have := doneA (nx := nx) (b := b) hd h.ok.zz k
    rw [h.dnE, h.dnL] at this
    exact this
theorem lostP (hd : lookH H d = some (true, .ab (depP V R.length b))) (h : DR V W R) (k : Int) :
    FnH Tryz.prog 67 [.c (.nm d), .c (iT k)] H nx ⟨.t (.c (iT (dnE' R k))), [], [(d, some (.ab (depP (setP V (ofI (chs V) k 2) 1) R.length b)))], []⟩ :=
  by
    have := lostA (nx := nx) (b := b) hd h.ok.zz k
    rw [h.lsE] at this
    exact this
theorem addP {at' o : Int} {t : ByteArray} {xs : List Int} {u : TV} (hd : lookH H d = some (true, .ab (depP V R.length b))) (hu : SlQ H u xs.length 1 (ivs xs) d) (zx : xs.length + V.length ≤ 17592186044416) (zt : t.size ≤ 9223372036854775807) (h : DR V W R) (he : adB R.length at' o t V.length xs = 0) :
    FnH Tryz.prog 156 [.c (.nm d), .c (iT at'), .agg [iT o, .s t], u] H nx ⟨.tup [.c (iT ((R.length : Int) + 1)), .c (iT 0)], [], [(d, some (.ab (adP V R.length b (newC (und R) R.length at' (o, t) xs))))], []⟩ :=
  by
    have := addA (nx := nx) (b := b) (at' := at') (o := o) hd hu zx zt h.ok (by have := h.z; omega) he
    rw [h.eq] at this
    exact this
end
/-- A change of the statements: sector, place, byte, and a slice. -/
abbrev QC := Int × Int × Int × Option Addr × Nat × Nat
def chQ (q : QC) : List Value := [.int .i64 q.1, .int .i64 q.2.1, .int .u8 q.2.2.1, .slice q.2.2.2.1 q.2.2.2.2.1 q.2.2.2.2.2]
def ahQ (y : List Int × Option Addr × Nat) : List Value := [.slice y.2.1 y.1.length y.2.2]
/-- What is kept besides the changes. -/
structure RunSt where
  V : DV
  W : List (List Int × Option Addr × Nat)
  D : List ByteArray
  F : List ByteArray
  Q : List QC
  A : List (List Int × Option Addr × Nat)
structure RunOk (x : RunSt) (R : List Ch) : Prop where
  dr : DR x.V x.W R
  ov : overOk R
  ok : okB R
  dk : DkOk x.D x.F R
  ql : x.Q.length = R.length
  al : x.A.length = R.length
  aw : ∀ y ∈ x.A, y ∈ x.W
  q : ∀ (i : Nat) (h : i < R.length) (h' : i < x.Q.length), R[i].at' = x.Q[i].1 ∧ R[i].off = x.Q[i].2.1 ∧ R[i].by' = bt1 x.Q[i].2.2.1
  a : ∀ (i : Nat) (h : i < R.length) (h' : i < x.A.length), ∀ n ∈ x.A[i].1, n ∈ R[i].ah
  az : ∀ y ∈ x.A, y.1.length ≤ 100000000000000
theorem eight {l : List ByteArray} (h : l.length = 8) : ∃ a b c d e f g i, l = [a, b, c, d, e, f, g, i] := by
  match l, h with
  | [a, b, c, d, e, f, g, i], _ => exact ⟨a, b, c, d, e, f, g, i, rfl⟩
theorem RunOk.nil : RunOk ⟨[], [], List.replicate 8 B0, List.replicate 8 ⟨#[]⟩, [], []⟩ [] :=
  ⟨DR.nil, overOk.nil, fun c hc => (by cases hc), DkOk.nil, rfl, rfl, fun y hy => (by cases hy), fun i h => (by cases h), fun i h => (by cases h), fun y hy => (by cases hy)⟩
end Cw
namespace Cw
open Go Vc
open Go.Proofs
set_option maxRecDepth 100000
/-- A sector goes on. -/
def mvR (R : List Ch) (k : Int) (lost : Bool) : List Ch := if ofN R k 2 = [] then setN (rdyN R k) 2 R else if lost = true then setK k 1 R else setK k 0 R
theorem setF_get {p : Ch → Bool} {s : Int} {R : List Ch} {i : Nat} (h : i < (setF p s R).length) : ((setF p s R)[i]).at' = (R[i]'(by rw [setF_len] at h; exact h)).at' ∧ ((setF p s R)[i]).off = (R[i]'(by rw [setF_len] at h; exact h)).off ∧ ((setF p s R)[i]).by' = (R[i]'(by rw [setF_len] at h; exact h)).by' ∧ ((setF p s R)[i]).ah = (R[i]'(by rw [setF_len] at h; exact h)).ah := by
  simp only [setF, List.getElem_map]
  split <;> exact ⟨rfl, rfl, rfl, rfl⟩
theorem RunOk.set {x : RunSt} {R : List Ch} (ok : RunOk x R) {p : Ch → Bool} {s : Int} {V' : DV} {D' F' : List ByteArray} (hdr : DR V' x.W (setF p s R)) (hov : overOk (setF p s R)) (hdk : DkOk D' F' (setF p s R)) : RunOk { x with V := V', D := D', F := F' } (setF p s R) := by
  have hl := setF_len p s R
  refine ⟨hdr, hov, ok.ok.setF p s, hdk, by rw [hl]; exact ok.ql, by rw [hl]; exact ok.al, ok.aw, fun i h h' => ?_, fun i h h' n hn => ?_, ok.az⟩
  · obtain ⟨h1, h2, h3, _⟩ := setF_get h
    rw [h1, h2, h3]
    exact ok.q i (by rw [hl] at h; exact h) h'
  · obtain ⟨_, _, _, h4⟩ := setF_get h
    rw [h4]
    exact ok.a i (by rw [hl] at h; exact h) h' n hn
theorem RunOk.next {x : RunSt} {R R' : List Ch} (ok : RunOk x R) {V' : DV} (hdr : DR V' x.W R') (hR : R' = R) : RunOk { x with V := V' } R' := by
  subst hR
  exact ⟨hdr, ok.ov, ok.ok, ok.dk, ok.ql, ok.al, ok.aw, ok.q, ok.a, ok.az⟩
theorem RunOk.sent {x : RunSt} {R R' : List Ch} {k : Int} (ok : RunOk x R) {V' : DV} {F' : List ByteArray} (hdr : DR V' x.W R') (hR : R' = setN (rdyN R k) 2 R) (hdk : DkOk x.D F' (setN (rdyN R k) 2 R)) : RunOk { x with V := V', F := F' } R' := by
  subst hR
  exact ok.set hdr (ok.ov.send ok.dr.dep k) hdk
theorem RunOk.fly {x : RunSt} {R R' : List Ch} {k s : Int} (ok : RunOk x R) {V' : DV} {D' F' : List ByteArray} (hdr : DR V' x.W R') (hR : R' = setK k s R) (hdk : DkOk D' F' (setK k s R)) : RunOk { x with V := V', D := D', F := F' } R' := by
  subst hR
  exact ok.set hdr (ok.ov.fly k s) hdk
section
variable {H : HL} {nx d q b bd : Nat} {b1 : Bool} {R : List Ch}
end
end Cw
namespace Cw
open Go Vc
open Go.Proofs
set_option maxRecDepth 100000
theorem At.growP {P : Program} {F : Frm} {Q : Exit → Act → World → Prop} {cd : Code} {ks : List KI} {L : LL} {H : HL} {nx b : Nat} {V : DV} {W : List (List Int × Option Addr × Nat)} {R R' : List Ch} {at' o : Int} {t : ByteArray} {xs : List Int} (d q : Nat) (hd : lookH H d = some (true, .ab (adP V R.length b (newC (und R) R.length at' (o, t) xs)))) (hq : lookH H q = some (true, .ab (frzP W))) (hdq : d ≠ q) (hR : DR V W R)
    (he : adB R.length at' o t V.length xs = 0) (zx : xs.length + V.length ≤ 17592186044416) (zt : t.size ≤ 9223372036854775807) (zr : R.length < 100000) (hR' : R ++ [newC (und R) R.length at' (o, t) xs] = R')
    (h : ∀ V' W', DR V' W' R' → (∀ y ∈ W, y ∈ W') → At P F Q cd ks L ((q, some (true, .ab (frzP W'))) :: (d, some (true, .ab (depP V' R'.length b))) :: H) nx) : At P F Q cd ks L H nx := by
  refine At.grow (b := b) d q hd hq hdq fun v => ?_
  have h1 := hR.add he zx zt zr v
  rw [hR.eq] at h1
  subst hR'
  have := h _ _ h1 fun y hy => List.mem_append.2 (.inl hy)
  rwa [show (((R ++ [newC (und R) R.length at' (o, t) xs]).length : Nat) : Int) = (R.length : Int) + 1 by simp] at this
/-- Those that a change names, counted back. -/
def adT (n : Nat) (bs : List Int) : List Int := bs.foldl (fun acc b => if decide ((n : Int) - b % 6 ≥ 1) = true then acc ++ [(n : Int) - b % 6] else acc) []
theorem adT_snoc (n : Nat) (bs : List Int) (b : Int) : adT n (bs ++ [b]) = if decide ((n : Int) - b % 6 ≥ 1) = true then adT n bs ++ [(n : Int) - b % 6] else adT n bs := by
  rw [adT, List.foldl_append]; rfl
theorem adT_le (n : Nat) (bs : List Int) : (adT n bs).length ≤ bs.length := by
  rw [show bs = bs.reverse.reverse from (List.reverse_reverse bs).symm]
  generalize bs.reverse = M
  induction M with
  | nil => simp [adT]
  | cons c M ih =>
    rw [List.reverse_cons, adT_snoc]
    split
    · simp at ih ⊢; omega
    · simp at ih ⊢; omega
/-- The change that is kept. -/
def rnC (R : List Ch) (at' off by' : Int) (back : List Int) : Ch := newC (und R) R.length (at' % 8) (off % 64, bt1 by') (adT R.length back)
theorem RunOk.add {x : RunSt} {R : List Ch} (ok : RunOk x R) (hsml : R.length ≤ 500) {at' off by' : Int} {back : List Int} (zb : back.length ≤ 17592186043904) {A0 : Option Addr} {m0 : Nat} {V' : DV} {W' : List (List Int × Option Addr × Nat)} {A : Option Addr} {m : Nat}
    (hdr : DR V' W' (R ++ [rnC R at' off by' back])) (hw : ∀ y ∈ x.W, y ∈ W') :
    RunOk { x with V := V', W := W' ++ [(adT R.length back, A, m)], Q := x.Q ++ [(at' % 8, off % 64, by', A0, back.length, m0)], A := x.A ++ [(adT R.length back, A, m)] } (R ++ [rnC R at' off by' back]) := by
  have hat : 0 ≤ at' % 8 ∧ at' % 8 < 8 := ⟨Int.emod_nonneg _ (by decide), Int.emod_lt_of_pos _ (by decide)⟩
  have hof : 0 ≤ off % 64 ∧ off % 64 < 64 := ⟨Int.emod_nonneg _ (by decide), Int.emod_lt_of_pos _ (by decide)⟩
  have hah : (rnC R at' off by' back).ah = adT R.length back ++ ((und R).filter fun c => ovb (c.off, c.by') (off % 64, bt1 by') && c.at' == at' % 8).map Ch.no := alls_eq _ _ _ _
  refine ⟨⟨hdr.eq, fun p hp => List.mem_append.2 (.inl (hdr.sub p hp)), hdr.ok, hdr.dep, hdr.z⟩, ?_, ?_, ok.dk.add rfl, by simp [ok.ql], by simp [ok.al], fun y hy => ?_, fun i h h' => ?_, fun i h h' n hn => ?_, fun y hy => ?_⟩
  · refine ok.ov.add ok.dr.dep rfl fun c hc h1 h2 h3 => ?_
    obtain ⟨q1, q2, b, q3⟩ := ok.ok c hc
    rw [hah]
    refine List.mem_append.2 (.inr (List.mem_map.2 ⟨c, List.mem_filter.2 ⟨und_mem.2 ⟨hc, h3⟩, ?_⟩, rfl⟩))
    have h1' : c.at' = at' % 8 := h1
    have h2' : c.off = off % 64 := by
      have : c.off.toNat = (off % 64).toNat := h2
      omega
    rw [q3, bt1_ovb _ _ q2 hof, h1', h2']
    simp
  · intro c hc
    rcases List.mem_append.1 hc with hc | hc
    · exact ok.ok c hc
    · rw [List.mem_singleton.1 hc]
      exact ⟨hat, hof, by', rfl⟩
  · rcases List.mem_append.1 hy with hy | hy
    · exact List.mem_append.2 (.inl (hw y (ok.aw y hy)))
    · exact List.mem_append.2 (.inr hy)
  · by_cases hi : i < R.length
    · simp only [List.getElem_append_left hi, List.getElem_append_left (show i < x.Q.length by rw [ok.ql]; exact hi)]
      exact ok.q i hi _
    · have : i = R.length := by simp at h; omega
      subst this
      have hql := ok.ql
      simp [List.getElem_append_right, hql]
      exact ⟨rfl, rfl, rfl⟩
  · by_cases hi : i < R.length
    · simp only [List.getElem_append_left (show i < x.A.length by rw [ok.al]; exact hi)] at hn
      rw [List.getElem_append_left hi]
      exact ok.a i hi _ n hn
    · have : i = R.length := by simp at h; omega
      subst this
      have hal := ok.al
      simp [List.getElem_append_right, hal] at hn
      simp
      rw [hah]
      exact List.mem_append.2 (.inl hn)
  · rcases List.mem_append.1 hy with hy | hy
    · exact ok.az y hy
    · rw [List.mem_singleton.1 hy]
      have := adT_le R.length back
      show (adT R.length back).length ≤ _
      omega
section
variable {H : HL} {nx d q b bd : Nat} {b1 : Bool} {R : List Ch}
end
end Cw
