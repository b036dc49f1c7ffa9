/- Changes, and which go ahead of which: the plain law. No program in sight. -/
namespace Cw
/-- A change; of one that is done the state is 0, of one that is pending 1, under way 2. -/
structure Ch where
  no : Int
  at' : Int
  off : Int
  by' : ByteArray
  ah : List Int
  st : Int
/-- A change's state, by its number: what is not kept is done. -/
def stOf (n : Int) : List Ch → Int
  | [] => 0
  | c :: l => if c.no = n then c.st else stOf n l
/-- May a change be sent: L all changes, acc the numbers that are sent with it. -/
def rdyC (L : List Ch) (k : Int) (c : Ch) (acc : List Int) : Bool := c.at' == k && c.st == 1 && c.ah.all fun n => stOf n L == 0 || acc.contains n
/-- The places of those of the first j that may be sent. -/
def rdyT (L : List Ch) (k : Int) : Nat → List (Nat × Ch)
  | 0 => []
  | j + 1 => match L[j]? with
    | none => rdyT L k j
    | some c => if rdyC L k c ((rdyT L k j).map (·.2.no)) then rdyT L k j ++ [(j, c)] else rdyT L k j
def rdyN (L : List Ch) (k : Int) : List Int := (rdyT L k L.length).map (·.2.no)
/-- The same by the list. -/
def rdyG (f : Ch → List Int → Bool) : List Ch → List Int → List Int
  | [], acc => acc
  | c :: l, acc => rdyG f l (if f c acc then acc ++ [c.no] else acc)
theorem rdyG_app (f : Ch → List Int → Bool) : ∀ (l m : List Ch) (acc : List Int), rdyG f (l ++ m) acc = rdyG f m (rdyG f l acc)
  | [], _, _ => rfl
  | _ :: l, m, _ => rdyG_app f l m _
theorem rdyT_G (L : List Ch) (k : Int) : ∀ j, j ≤ L.length → (rdyT L k j).map (·.2.no) = rdyG (rdyC L k) (L.take j) []
  | 0, _ => by simp [rdyT, rdyG]
  | j + 1, h => by
    have hj : j < L.length := h
    have ih := rdyT_G L k j (by omega)
    rw [List.take_succ_eq_append_getElem hj, rdyG_app, ← ih]
    simp only [rdyT, List.getElem?_eq_getElem hj, rdyG]
    by_cases hc : rdyC L k L[j] ((rdyT L k j).map (·.2.no)) = true
    · rw [if_pos hc, if_pos hc]; simp
    · rw [if_neg hc, if_neg hc]
theorem rdyN_G (L : List Ch) (k : Int) : rdyN L k = rdyG (rdyC L k) L [] := by
  rw [rdyN, rdyT_G L k _ (Nat.le_refl _), List.take_length]
/-- Those that are not done. -/
def und (R : List Ch) : List Ch := R.filter fun c => c.st != 0
theorem rdyG_und {f : Ch → List Int → Bool} (hf : ∀ (c : Ch) (acc : List Int), c.st = 0 → f c acc = false) : ∀ (R : List Ch) (acc : List Int), rdyG f (und R) acc = rdyG f R acc
  | [], _ => rfl
  | c :: l, acc => by
    by_cases h : c.st = 0
    · have e : und (c :: l) = und l := by simp [und, h]
      rw [e, rdyG_und hf l acc, rdyG, hf c acc h]
      rfl
    · have e : und (c :: l) = c :: und l := by simp [und, h]
      rw [e, rdyG, rdyG, rdyG_und hf l]
theorem rdyC_done (L : List Ch) (k : Int) (c : Ch) (acc : List Int) (h : c.st = 0) : rdyC L k c acc = false := by simp [rdyC, h]
theorem stOf_none {n : Int} : ∀ {L : List Ch}, (∀ c ∈ L, c.no ≠ n) → stOf n L = 0
  | [], _ => rfl
  | c :: l, h => by
    rw [stOf, if_neg (h c (by simp)), stOf_none fun x hx => h x (by simp [hx])]
theorem und_mem {c : Ch} {R : List Ch} : c ∈ und R ↔ c ∈ R ∧ c.st ≠ 0 := by simp [und]
/-- The numbers are different: a state is the same among those that are not done. -/
theorem stOf_und {n : Int} : ∀ {R : List Ch}, (R.map Ch.no).Nodup → stOf n (und R) = stOf n R
  | [], _ => rfl
  | c :: l, h => by
    rw [List.map_cons, List.nodup_cons] at h
    by_cases hs : c.st = 0
    · have e : und (c :: l) = und l := by simp [und, hs]
      rw [e, stOf_und h.2, stOf]
      by_cases hn : c.no = n
      · rw [if_pos hn, hs]
        refine stOf_none fun x hx hxn => h.1 ?_
        rw [hn, ← hxn]
        exact List.mem_map.2 ⟨x, hx, rfl⟩
      · rw [if_neg hn]
    · have e : und (c :: l) = c :: und l := by simp [und, hs]
      rw [e, stOf, stOf, stOf_und h.2]
theorem rdyC_und {R : List Ch} (h : (R.map Ch.no).Nodup) (k : Int) : rdyC (und R) k = rdyC R k := by
  funext c acc
  simp only [rdyC, stOf_und h]
/-- READY: of those that are not done as of all. -/
theorem rdyN_und {R : List Ch} (h : (R.map Ch.no).Nodup) (k : Int) : rdyN (und R) k = rdyN R k := by
  rw [rdyN_G, rdyN_G, rdyC_und h, rdyG_und (rdyC_done R k)]
/-- A sector's changes in a state. -/
def ofN (L : List Ch) (k s : Int) : List Int := (L.filter fun c => c.at' == k && c.st == s).map Ch.no
theorem ofN_und (R : List Ch) (k : Int) {s : Int} (h : s ≠ 0) : ofN (und R) k s = ofN R k s := by
  rw [ofN, ofN, und, List.filter_filter]
  congr 1
  refine List.filter_congr fun c _ => ?_
  by_cases h1 : c.st = s
  · simp [h1, h]
  · simp [h1]
/-- Numbers that rise from 1 on. -/
def numd (R : List Ch) : Prop := ∀ i (h : i < R.length), R[i].no = (i : Int) + 1
theorem numd.nodup {R : List Ch} (h : numd R) : (R.map Ch.no).Nodup := by
  rw [List.nodup_iff_pairwise_ne, List.pairwise_iff_getElem]
  intro i j hi hj hij
  simp only [List.getElem_map]
  rw [h i (by simpa using hi), h j (by simpa using hj)]
  omega
theorem stOf_at {R : List Ch} (h : (R.map Ch.no).Nodup) {i : Nat} (hi : i < R.length) : stOf R[i].no R = R[i].st := by
  induction R generalizing i with
  | nil => simp at hi
  | cons c l ih =>
    rw [List.map_cons, List.nodup_cons] at h
    cases i with
    | zero => simp [stOf]
    | succ i =>
      have hl : i < l.length := by simpa using hi
      simp only [List.getElem_cons_succ]
      rw [stOf, if_neg, ih h.2 hl]
      intro e
      exact h.1 (e ▸ List.mem_map.2 ⟨l[i], List.getElem_mem hl, rfl⟩)
theorem numd.st {R : List Ch} (h : numd R) {n : Int} (h1 : 1 ≤ n) (h2 : n ≤ (R.length : Int)) : stOf n R = (R[n.toNat - 1]'(by omega)).st := by
  have := stOf_at h.nodup (i := n.toNat - 1) (by omega)
  rw [h _ (by omega)] at this
  rw [← this]
  congr 1
  omega
/-- Some are in a state from now on. -/
def setF (p : Ch → Bool) (s : Int) (L : List Ch) : List Ch := L.map fun c => if p c then { c with st := s } else c
/-- Those whose numbers are told. -/
def setN (l : List Int) (s : Int) (L : List Ch) : List Ch := setF (fun c => l.contains c.no) s L
/-- What is under way at a sector. -/
def flyB (k : Int) (c : Ch) : Bool := c.at' == k && c.st == 2
def setK (k s : Int) (L : List Ch) : List Ch := setF (flyB k) s L
/-- What is under way at a sector is no more. -/
def delK (k : Int) (L : List Ch) : List Ch := L.filter fun c => !(flyB k c)
theorem setF_cons (p : Ch → Bool) (s : Int) (c : Ch) (L : List Ch) : setF p s (c :: L) = (if p c then { c with st := s } else c) :: setF p s L := rfl
theorem und_cons (c : Ch) (L : List Ch) : und (c :: L) = if c.st = 0 then und L else c :: und L := by
  by_cases h : c.st = 0 <;> simp [und, h]
theorem und_setF {p : Ch → Bool} {s : Int} (hs : s ≠ 0) : ∀ {R : List Ch}, (∀ c ∈ R, p c = true → c.st ≠ 0) → und (setF p s R) = setF p s (und R)
  | [], _ => rfl
  | c :: R, h => by
    have ih := und_setF hs (R := R) fun x hx => h x (by simp [hx])
    have h1 := h c (by simp)
    rw [setF_cons, und_cons, und_cons, ih]
    by_cases hc : p c = true
    · have h2 := h1 hc
      rw [if_pos hc, if_neg h2, setF_cons, if_pos hc, if_neg hs]
    · rw [if_neg hc]
      by_cases h0 : c.st = 0
      · rw [if_pos h0, if_pos h0]
      · rw [if_neg h0, if_neg h0, setF_cons, if_neg hc]
theorem flyB_st {k : Int} {c : Ch} (h : flyB k c = true) : c.at' = k ∧ c.st = 2 := by
  simp [flyB] at h; exact h
theorem und_setK {k s : Int} (hs : s ≠ 0) (R : List Ch) : und (setK k s R) = setK k s (und R) := und_setF hs fun c _ h => by rw [(flyB_st h).2]; decide
theorem und_delK {k : Int} : ∀ R : List Ch, und (setK k 0 R) = delK k (und R)
  | [] => rfl
  | c :: R => by
    have ih := und_delK (k := k) R
    rw [setK] at ih ⊢
    rw [setF_cons, und_cons, und_cons, ih]
    by_cases hc : flyB k c = true
    · have h2 : c.st ≠ 0 := by rw [(flyB_st hc).2]; decide
      rw [if_pos hc, if_neg h2, if_pos rfl]
      simp [delK, hc]
    · rw [if_neg hc]
      by_cases h0 : c.st = 0
      · rw [if_pos h0, if_pos h0]
      · rw [if_neg h0, if_neg h0]
        simp [delK, hc]
theorem setF_no (p : Ch → Bool) (s : Int) (L : List Ch) : (setF p s L).map Ch.no = L.map Ch.no := by
  rw [setF, List.map_map]
  refine List.map_congr_left fun c _ => ?_
  simp only [Function.comp_apply]
  split <;> rfl
theorem numd_of {R R' : List Ch} (h : numd R) (he : R'.map Ch.no = R.map Ch.no) : numd R' := by
  intro i hi
  have hl : R'.length = R.length := by simpa using congrArg List.length he
  have h1 : (R'.map Ch.no)[i]'(by simpa using hi) = (R.map Ch.no)[i]'(by simp; omega) := by simp only [he]
  simp only [List.getElem_map] at h1
  rw [h1, h i (by omega)]
theorem numd.add {R : List Ch} (h : numd R) {c : Ch} (hc : c.no = (R.length : Int) + 1) : numd (R ++ [c]) := by
  intro i hi
  by_cases hlt : i < R.length
  · rw [List.getElem_append_left hlt, h i hlt]
  · have : i = R.length := by simp at hi; omega
    subst this
    simpa using hc
theorem und_app (R : List Ch) {c : Ch} (h : c.st ≠ 0) : und (R ++ [c]) = und R ++ [c] := by simp [und, h]
/-- What may be sent is pending. -/
theorem rdyG_sub {f : Ch → List Int → Bool} : ∀ (l : List Ch) (acc : List Int) (n : Int), n ∈ rdyG f l acc → n ∈ acc ∨ ∃ c ∈ l, c.no = n ∧ ∃ acc', f c acc' = true ∧ ∀ m ∈ acc', m ∈ rdyG f l acc
  | [], acc, n, h => .inl h
  | c :: l, acc, n, h => by
    have hk : ∀ (l : List Ch) (acc : List Int) (m : Int), m ∈ acc → m ∈ rdyG f l acc := by
      intro l
      induction l with
      | nil => intro acc m hm; exact hm
      | cons c l ih =>
        intro acc m hm
        rw [rdyG]
        refine ih _ _ ?_
        split
        · simp [hm]
        · exact hm
    rw [rdyG] at h
    rcases rdyG_sub l _ n h with h1 | ⟨x, hx, h2, acc', h3, h4⟩
    · by_cases hc : f c acc = true
      · rw [if_pos hc] at h1
        rcases List.mem_append.1 h1 with h1 | h1
        · exact .inl h1
        · refine .inr ⟨c, by simp, (List.mem_singleton.1 h1).symm, acc, hc, fun m hm => ?_⟩
          exact hk (c :: l) acc m hm
      · rw [if_neg hc] at h1
        exact .inl h1
    · exact .inr ⟨x, by simp [hx], h2, acc', h3, h4⟩
theorem rdyG_in {f : Ch → List Int → Bool} {c : Ch} (hf : ∀ acc, f c acc = true) : ∀ (l : List Ch) (acc : List Int), c ∈ l ∨ c.no ∈ acc → c.no ∈ rdyG f l acc
  | [], acc, h => by
    rcases h with h | h
    · cases h
    · exact h
  | x :: l, acc, h => by
    rw [rdyG]
    refine rdyG_in hf l _ ?_
    rcases h with h | h
    · rcases List.mem_cons.1 h with rfl | h
      · right; rw [if_pos (hf acc)]; simp
      · exact .inl h
    · right
      split
      · simp [h]
      · exact h
/-- IT ENDS: the first one that is not done may be sent, when nothing is under way. -/
theorem first_ready {R : List Ch} (hs : ∀ c ∈ R, c.st = 0 ∨ c.st = 1) (c : Ch) (hc : c ∈ R) (h0 : c.st ≠ 0) (ha : ∀ n ∈ c.ah, stOf n R = 0) : c.no ∈ rdyN R c.at' := by
  rw [rdyN_G]
  refine rdyG_in (fun acc => ?_) R [] (.inl hc)
  have h1 : c.st = 1 := by rcases hs c hc with h | h
                           · exact absurd h h0
                           · exact h
  simp only [rdyC, Bool.and_eq_true, beq_self_eq_true, h1, true_and, List.all_eq_true]
  intro n hn'
  simp [ha n hn']
theorem setF_len (p : Ch → Bool) (s : Int) (L : List Ch) : (setF p s L).length = L.length := by rw [setF, List.length_map]
/-- How a state is behind a change of states. -/
theorem stOf_setF {p : Ch → Bool} {s n : Int} : ∀ {L : List Ch}, (∀ c ∈ L, c.no = n → p c = false) → stOf n (setF p s L) = stOf n L
  | [], _ => rfl
  | c :: L, h => by
    have h1 := h c (by simp)
    rw [setF_cons, stOf, stOf, stOf_setF fun x hx => h x (by simp [hx])]
    by_cases hn : c.no = n
    · rw [h1 hn]; rfl
    · by_cases hp : p c = true
      · rw [if_pos hp]
        simp [hn]
      · rw [if_neg hp]
theorem stOf_setF1 {p : Ch → Bool} {s n : Int} : ∀ {L : List Ch}, (∃ c ∈ L, c.no = n) → (∀ c ∈ L, c.no = n → p c = true) → stOf n (setF p s L) = s
  | [], h, _ => by obtain ⟨c, hc, _⟩ := h; cases hc
  | c :: L, h, hp => by
    rw [setF_cons, stOf]
    by_cases hn : c.no = n
    · rw [if_pos (hp c (by simp) hn)]
      simp [hn]
    · have : ¬ (if p c = true then { c with st := s } else c).no = n := by split <;> exact hn
      rw [if_neg this]
      refine stOf_setF1 ?_ fun x hx => hp x (by simp [hx])
      obtain ⟨x, hx, hxn⟩ := h
      rcases List.mem_cons.1 hx with rfl | hx
      · exact absurd hxn hn
      · exact ⟨x, hx, hxn⟩
theorem stOf_mem {R : List Ch} (hn : (R.map Ch.no).Nodup) {c : Ch} (hc : c ∈ R) : stOf c.no R = c.st := by
  obtain ⟨i, hi, rfl⟩ := List.mem_iff_getElem.1 hc
  exact stOf_at hn hi
theorem uniq {R : List Ch} (hn : (R.map Ch.no).Nodup) {c x : Ch} (hc : c ∈ R) (hx : x ∈ R) (h : c.no = x.no) : c = x := by
  obtain ⟨i, hi, rfl⟩ := List.mem_iff_getElem.1 hc
  obtain ⟨j, hj, rfl⟩ := List.mem_iff_getElem.1 hx
  have hp := List.pairwise_iff_getElem.1 (List.nodup_iff_pairwise_ne.1 hn)
  rcases Nat.lt_trichotomy i j with hlt | rfl | hlt
  · exact absurd (by rw [List.getElem_map, List.getElem_map]; exact h) (hp i j (by simpa using hi) (by simpa using hj) hlt)
  · rfl
  · exact absurd (by rw [List.getElem_map, List.getElem_map]; exact h.symm) (hp j i (by simpa using hj) (by simpa using hi) hlt)
/-- What stays of all changes. -/
structure DepOk (R : List Ch) : Prop where
  num : numd R
  st : ∀ c ∈ R, c.st = 0 ∨ c.st = 1 ∨ c.st = 2
  ah : ∀ c ∈ R, ∀ n ∈ c.ah, 1 ≤ n ∧ n < c.no
  fly : ∀ c ∈ R, c.st = 2 → ∀ n ∈ c.ah, stOf n R = 0 ∨ ∃ x ∈ R, x.no = n ∧ x.st = 2 ∧ x.at' = c.at'
  cls : ∀ c ∈ R, c.st = 0 → ∀ n ∈ c.ah, stOf n R = 0
theorem DepOk.nil : DepOk [] := ⟨fun i h => by simp at h, by simp, by simp, by simp, by simp⟩
theorem stOf_app {n : Int} {c : Ch} : ∀ {R : List Ch}, (∃ x ∈ R, x.no = n) → stOf n (R ++ [c]) = stOf n R
  | [], h => by obtain ⟨x, hx, _⟩ := h; cases hx
  | x :: R, h => by
    rw [List.cons_append, stOf, stOf]
    by_cases hn : x.no = n
    · rw [if_pos hn, if_pos hn]
    · rw [if_neg hn, if_neg hn]
      refine stOf_app ?_
      obtain ⟨y, hy, hyn⟩ := h
      rcases List.mem_cons.1 hy with rfl | hy
      · exact absurd hyn hn
      · exact ⟨y, hy, hyn⟩
theorem numd.has {R : List Ch} (h : numd R) {n : Int} (h1 : 1 ≤ n) (h2 : n ≤ (R.length : Int)) : ∃ x ∈ R, x.no = n :=
  ⟨R[n.toNat - 1]'(by omega), List.getElem_mem _, by rw [h _ (by omega)]; omega⟩
theorem numd.le {R : List Ch} (h : numd R) {c : Ch} (hc : c ∈ R) : 1 ≤ c.no ∧ c.no ≤ (R.length : Int) := by
  obtain ⟨i, hi, rfl⟩ := List.mem_iff_getElem.1 hc
  rw [h i hi]
  omega
theorem DepOk.has {R : List Ch} (h : DepOk R) {c : Ch} (hc : c ∈ R) {n : Int} (hn : n ∈ c.ah) : ∃ x ∈ R, x.no = n := by
  have h1 := h.ah c hc n hn
  have h2 := h.num.le hc
  exact h.num.has h1.1 (by omega)
/-- A change is added. -/
theorem DepOk.add {R : List Ch} (h : DepOk R) {c : Ch} (hc : c.no = (R.length : Int) + 1) (hs : c.st = 1) (ha : ∀ n ∈ c.ah, 1 ≤ n ∧ n ≤ (R.length : Int)) : DepOk (R ++ [c]) := by
  refine ⟨h.num.add hc, fun x hx => ?_, fun x hx n hn => ?_, fun x hx h2 n hn => ?_, fun x hx h0 n hn => ?_⟩
  · rcases List.mem_append.1 hx with hx | hx
    · exact h.st x hx
    · rw [List.mem_singleton.1 hx]; exact .inr (.inl hs)
  · rcases List.mem_append.1 hx with hx | hx
    · exact h.ah x hx n hn
    · rw [List.mem_singleton.1 hx] at hn ⊢
      have := ha n hn
      omega
  · rcases List.mem_append.1 hx with hx | hx
    · rw [stOf_app (h.has hx hn)]
      rcases h.fly x hx h2 n hn with h3 | ⟨y, hy, h3⟩
      · exact .inl h3
      · exact .inr ⟨y, by simp [hy], h3⟩
    · rw [List.mem_singleton.1 hx, hs] at h2
      exact absurd h2 (by decide)
  · rcases List.mem_append.1 hx with hx | hx
    · rw [stOf_app (h.has hx hn)]
      exact h.cls x hx h0 n hn
    · rw [List.mem_singleton.1 hx, hs] at h0
      exact absurd h0 (by decide)
/-- What is under way at a sector is done. -/
theorem DepOk.done {R : List Ch} (h : DepOk R) (k : Int) : DepOk (setK k 0 R) := by
  have hnd := h.num.nodup
  have hst : ∀ n, (∃ x ∈ R, x.no = n) → stOf n R = 0 → stOf n (setK k 0 R) = 0 := by
    rintro n ⟨x, hx, rfl⟩ h0
    rw [setK, stOf_setF fun c hc hcn => ?_]
    · exact h0
    · have := uniq hnd hc hx hcn
      subst this
      rw [stOf_mem hnd hc] at h0
      cases hf : flyB k c with
      | false => rfl
      | true => rw [(flyB_st hf).2] at h0; exact absurd h0 (by decide)
  have hfly : ∀ x ∈ R, flyB k x = true → stOf x.no (setK k 0 R) = 0 := fun x hx hf => by
    rw [setK]
    exact stOf_setF1 ⟨x, hx, rfl⟩ fun c hc hcn => by rw [uniq hnd hc hx hcn]; exact hf
  have hmem : ∀ x ∈ setK k 0 R, ∃ c ∈ R, x = if flyB k c then { c with st := 0 } else c := fun x hx => by
    obtain ⟨c, hc, rfl⟩ := List.mem_map.1 hx
    exact ⟨c, hc, rfl⟩
  refine ⟨numd_of h.num (setF_no _ _ _), fun x hx => ?_, fun x hx n hn => ?_, fun x hx h2 n hn => ?_, fun x hx h0 n hn => ?_⟩
  · obtain ⟨c, hc, rfl⟩ := hmem x hx
    split
    · exact .inl rfl
    · exact h.st c hc
  · obtain ⟨c, hc, rfl⟩ := hmem x hx
    have e1 : (if flyB k c then { c with st := 0 } else c).ah = c.ah := by split <;> rfl
    have e2 : (if flyB k c then { c with st := 0 } else c).no = c.no := by split <;> rfl
    rw [e2]
    rw [e1] at hn
    exact h.ah c hc n hn
  · obtain ⟨c, hc, rfl⟩ := hmem x hx
    by_cases hf : flyB k c = true
    · rw [if_pos hf] at h2
      have h3 : (0 : Int) = 2 := h2
      exact absurd h3 (by decide)
    · rw [if_neg hf] at h2 hn ⊢
      rcases h.fly c hc h2 n hn with h3 | ⟨y, hy, h3, h4, h5⟩
      · exact .inl (hst n (h.has hc hn) h3)
      · refine .inr ⟨y, List.mem_map.2 ⟨y, hy, ?_⟩, h3, h4, h5⟩
        rw [if_neg]
        intro hy'
        refine hf ?_
        have := (flyB_st hy').1
        simp [flyB, h2, ← h5, this]
  · obtain ⟨c, hc, rfl⟩ := hmem x hx
    by_cases hf : flyB k c = true
    · rw [if_pos hf] at hn
      rcases h.fly c hc (flyB_st hf).2 n hn with h3 | ⟨y, hy, h3, h4, h5⟩
      · exact hst n (h.has hc hn) h3
      · rw [← h3]
        refine hfly y hy ?_
        simp [flyB, h4, h5, (flyB_st hf).1]
    · rw [if_neg hf] at h0 hn
      exact hst n (h.has hc hn) (h.cls c hc h0 n hn)
/-- A state that is 0 stays, where only others change. -/
theorem stOf_zero {R : List Ch} (hnd : (R.map Ch.no).Nodup) {p : Ch → Bool} {s n : Int} (hp : ∀ c ∈ R, p c = true → c.st ≠ 0) (hx : ∃ x ∈ R, x.no = n) (h0 : stOf n R = 0) : stOf n (setF p s R) = 0 := by
  obtain ⟨x, hx, rfl⟩ := hx
  rw [stOf_setF fun c hc hcn => ?_]
  · exact h0
  · have := uniq hnd hc hx hcn
    subst this
    rw [stOf_mem hnd hc] at h0
    cases hf : p c with
    | false => rfl
    | true => exact absurd h0 (hp c hc hf)
theorem setF_mem {p : Ch → Bool} {s : Int} {L : List Ch} {x : Ch} (h : x ∈ setF p s L) : ∃ c ∈ L, x = if p c then { c with st := s } else c := by
  obtain ⟨c, hc, rfl⟩ := List.mem_map.1 h
  exact ⟨c, hc, rfl⟩
theorem setF_ah (p : Ch → Bool) (s : Int) (c : Ch) : (if p c then { c with st := s } else c).ah = c.ah ∧ (if p c then { c with st := s } else c).no = c.no ∧ (if p c then { c with st := s } else c).at' = c.at' := by
  split <;> exact ⟨rfl, rfl, rfl⟩
/-- What is under way at a sector is pending again. -/
theorem DepOk.lost {R : List Ch} (h : DepOk R) (k : Int) : DepOk (setK k 1 R) := by
  have hnd := h.num.nodup
  have hp : ∀ c ∈ R, flyB k c = true → c.st ≠ 0 := fun c _ hf => by rw [(flyB_st hf).2]; decide
  refine ⟨numd_of h.num (setF_no _ _ _), fun x hx => ?_, fun x hx n hn => ?_, fun x hx h2 n hn => ?_, fun x hx h0 n hn => ?_⟩
  · obtain ⟨c, hc, rfl⟩ := setF_mem hx
    split
    · exact .inr (.inl rfl)
    · exact h.st c hc
  · obtain ⟨c, hc, rfl⟩ := setF_mem hx
    obtain ⟨e1, e2, _⟩ := setF_ah (flyB k) 1 c
    rw [e2]
    rw [e1] at hn
    exact h.ah c hc n hn
  · obtain ⟨c, hc, rfl⟩ := setF_mem hx
    by_cases hf : flyB k c = true
    · rw [if_pos hf] at h2
      have h3 : (1 : Int) = 2 := h2
      exact absurd h3 (by decide)
    · rw [if_neg hf] at h2 hn ⊢
      rcases h.fly c hc h2 n hn with h3 | ⟨y, hy, h3, h4, h5⟩
      · exact .inl (stOf_zero hnd hp (h.has hc hn) h3)
      · refine .inr ⟨y, List.mem_map.2 ⟨y, hy, ?_⟩, h3, h4, h5⟩
        rw [if_neg]
        intro hy'
        refine hf ?_
        have := (flyB_st hy').1
        simp [flyB, h2, ← h5, this]
  · obtain ⟨c, hc, rfl⟩ := setF_mem hx
    by_cases hf : flyB k c = true
    · rw [if_pos hf] at h0
      have h3 : (1 : Int) = 0 := h0
      exact absurd h3 (by decide)
    · rw [if_neg hf] at h0 hn
      exact stOf_zero hnd hp (h.has hc hn) (h.cls c hc h0 n hn)
theorem rdyC_iff {L : List Ch} {k : Int} {c : Ch} {acc : List Int} (h : rdyC L k c acc = true) : c.at' = k ∧ c.st = 1 ∧ ∀ n ∈ c.ah, stOf n L = 0 ∨ n ∈ acc := by
  simp only [rdyC, Bool.and_eq_true, beq_iff_eq, List.all_eq_true, Bool.or_eq_true, List.contains_iff_mem] at h
  exact ⟨h.1.1, h.1.2, h.2⟩
/-- Who may be sent. -/
theorem rdyN_ok {R : List Ch} {k n : Int} (h : n ∈ rdyN R k) : ∃ c ∈ R, c.no = n ∧ c.at' = k ∧ c.st = 1 ∧ ∀ m ∈ c.ah, stOf m R = 0 ∨ m ∈ rdyN R k := by
  rw [rdyN_G] at h ⊢
  rcases rdyG_sub R [] n h with h | ⟨c, hc, h1, acc, h2, h3⟩
  · cases h
  · obtain ⟨h4, h5, h6⟩ := rdyC_iff h2
    exact ⟨c, hc, h1, h4, h5, fun m hm => (h6 m hm).imp id fun h => h3 m h⟩
/-- What may be sent is under way. -/
theorem DepOk.send {R : List Ch} (h : DepOk R) (k : Int) : DepOk (setN (rdyN R k) 2 R) := by
  have hnd := h.num.nodup
  have hin : ∀ c ∈ R, (rdyN R k).contains c.no = true → c.at' = k ∧ c.st = 1 ∧ ∀ m ∈ c.ah, stOf m R = 0 ∨ m ∈ rdyN R k := fun c hc hf => by
    obtain ⟨x, hx, h1, h2⟩ := rdyN_ok (List.contains_iff_mem.1 hf)
    rw [uniq hnd hx hc h1] at h2
    exact h2
  have hp : ∀ c ∈ R, (rdyN R k).contains c.no = true → c.st ≠ 0 := fun c hc hf => by rw [(hin c hc hf).2.1]; decide
  refine ⟨numd_of h.num (setF_no _ _ _), fun x hx => ?_, fun x hx n hn => ?_, fun x hx h2 n hn => ?_, fun x hx h0 n hn => ?_⟩
  · obtain ⟨c, hc, rfl⟩ := setF_mem hx
    split
    · exact .inr (.inr rfl)
    · exact h.st c hc
  · obtain ⟨c, hc, rfl⟩ := setF_mem hx
    obtain ⟨e1, e2, _⟩ := setF_ah (fun c => (rdyN R k).contains c.no) 2 c
    rw [e2]
    rw [e1] at hn
    exact h.ah c hc n hn
  · obtain ⟨c, hc, rfl⟩ := setF_mem hx
    obtain ⟨e1, e2, e3⟩ := setF_ah (fun c => (rdyN R k).contains c.no) 2 c
    rw [e1] at hn
    rw [e3]
    by_cases hf : (rdyN R k).contains c.no = true
    · obtain ⟨q1, q2, q3⟩ := hin c hc hf
      rcases q3 n hn with h3 | h3
      · exact .inl (stOf_zero hnd hp (h.has hc hn) h3)
      · obtain ⟨y, hy, r1, r2, r3, _⟩ := rdyN_ok h3
        refine .inr ⟨{ y with st := 2 }, List.mem_map.2 ⟨y, hy, ?_⟩, r1, rfl, by rw [q1]; exact r2⟩
        rw [if_pos]
        rw [List.contains_iff_mem, r1]
        exact h3
    · rw [if_neg hf] at h2
      rcases h.fly c hc h2 n hn with h3 | ⟨y, hy, h3, h4, h5⟩
      · exact .inl (stOf_zero hnd hp (h.has hc hn) h3)
      · refine .inr ⟨y, List.mem_map.2 ⟨y, hy, ?_⟩, h3, h4, h5⟩
        rw [if_neg]
        intro hy'
        have := (hin y hy hy').2.1
        omega
  · obtain ⟨c, hc, rfl⟩ := setF_mem hx
    by_cases hf : (rdyN R k).contains c.no = true
    · rw [if_pos hf] at h0
      have h3 : (2 : Int) = 0 := h0
      exact absurd h3 (by decide)
    · rw [if_neg hf] at h0 hn
      exact stOf_zero hnd hp (h.has hc hn) (h.cls c hc h0 n hn)
/-- IT ENDS: when nothing is under way and not all is done, some sector may be sent. -/
theorem DepOk.some_ready {R : List Ch} (h : DepOk R) (hs : ∀ c ∈ R, c.st ≠ 2) (hu : und R ≠ []) : ∃ c ∈ R, c.st = 1 ∧ c.no ∈ rdyN R c.at' := by
  have hnd := h.num.nodup
  have hlt : R.findIdx (fun c => c.st != 0) < R.length := by
    rw [List.findIdx_lt_length]
    obtain ⟨c, hc⟩ := List.exists_mem_of_ne_nil _ hu
    obtain ⟨h1, h2⟩ := und_mem.1 hc
    exact ⟨c, h1, by simpa using h2⟩
  obtain ⟨i, hi⟩ : ∃ i, R.findIdx (fun c => c.st != 0) = i := ⟨_, rfl⟩
  rw [hi] at hlt
  have h1 : R[i].st ≠ 0 := by
    have := List.findIdx_getElem (p := fun c : Ch => c.st != 0) (xs := R) (w := by omega)
    simp only [hi] at this
    simpa using this
  have h2 : ∀ j (hj : j < R.length), j < i → R[j].st = 0 := fun j hj hji => by
    have := List.not_of_lt_findIdx (p := fun c : Ch => c.st != 0) (xs := R) (i := j) (by omega)
    simpa using this
  have hm : R[i] ∈ R := List.getElem_mem hlt
  have hst : R[i].st = 1 := by
    rcases h.st _ hm with h3 | h3 | h3
    · exact absurd h3 h1
    · exact h3
    · exact absurd h3 (hs _ hm)
  refine ⟨R[i], hm, hst, first_ready (fun c hc => ?_) R[i] hm h1 fun n hn => ?_⟩
  · rcases h.st c hc with h3 | h3 | h3
    · exact .inl h3
    · exact .inr h3
    · exact absurd h3 (hs c hc)
  · have h3 := h.ah _ hm n hn
    rw [h.num i hlt] at h3
    obtain ⟨m, rfl⟩ : ∃ m : Nat, n = (m : Int) + 1 := ⟨(n - 1).toNat, by omega⟩
    have hmi : m < i := by omega
    have := stOf_at hnd (i := m) (by omega)
    rw [h.num m (by omega)] at this
    rw [this]
    exact h2 m (by omega) hmi
/-- The byte that a change lays. -/
def btC (c : Ch) : UInt8 := c.by'.data.toList.headD 0
/-- A sector behind changes of a byte each. -/
def imgB (cs : List Ch) (s : List UInt8) : List UInt8 := cs.foldl (fun s c => s.set c.off.toNat (btC c)) s
/-- A byte behind them. -/
def valB (o : Nat) (cs : List Ch) (d : UInt8) : UInt8 := cs.foldl (fun v c => if c.off.toNat = o then btC c else v) d
theorem imgB_len : ∀ (cs : List Ch) (s : List UInt8), (imgB cs s).length = s.length
  | [], _ => rfl
  | c :: cs, s => by
    show (imgB cs (s.set c.off.toNat (btC c))).length = _
    rw [imgB_len cs, List.length_set]
theorem imgB_get (o : Nat) : ∀ (cs : List Ch) (s : List UInt8), (imgB cs s)[o]? = (s[o]?).map (valB o cs)
  | [], s => by
    show s[o]? = (s[o]?).map fun d => d
    simp
  | c :: cs, s => by
    show (imgB cs (s.set c.off.toNat (btC c)))[o]? = (s[o]?).map fun d => valB o cs (if c.off.toNat = o then btC c else d)
    rw [imgB_get o cs, List.getElem?_set]
    by_cases h : c.off.toNat = o
    · by_cases h2 : o < s.length
      · rw [if_pos h, if_pos (h ▸ h2), List.getElem?_eq_getElem h2]
        simp [h]
      · rw [if_pos h, if_neg (h ▸ h2), List.getElem?_eq_none (by omega)]
        rfl
    · rw [if_neg h]
      simp [h]
theorem valB_cons (o : Nat) (c : Ch) (cs : List Ch) (d : UInt8) : valB o (c :: cs) d = valB o cs (if c.off.toNat = o then btC c else d) := rfl
theorem valB_none {o : Nat} {d : UInt8} : ∀ {cs : List Ch}, (∀ c ∈ cs, c.off.toNat ≠ o) → valB o cs d = d
  | [], _ => rfl
  | c :: cs, h => by
    rw [valB_cons, if_neg (h c (by simp)), valB_none fun x hx => h x (by simp [hx])]
theorem valB_split {p q : Ch → Bool} {o : Nat} (hpq : ∀ c, p c = true → q c = false) : ∀ {R : List Ch} {d : UInt8}, R.Pairwise (fun x y => q x = true → p y = true → x.off.toNat ≠ y.off.toNat) → valB o (R.filter fun c => p c || q c) d = valB o (R.filter q) (valB o (R.filter p) d)
  | [], _, _ => rfl
  | c :: l, d, h => by
    rw [List.pairwise_cons] at h
    by_cases hp : p c = true
    · have hq := hpq c hp
      rw [List.filter_cons_of_pos (by simp [hp]), List.filter_cons_of_pos hp, List.filter_cons_of_neg (by simp [hq]), valB_cons, valB_cons]
      exact valB_split hpq h.2
    · by_cases hq : q c = true
      · rw [List.filter_cons_of_pos (by simp [hq]), List.filter_cons_of_neg hp, List.filter_cons_of_pos hq, valB_cons, valB_cons]
        by_cases ho : c.off.toNat = o
        · rw [if_pos ho, if_pos ho, valB_split hpq h.2]
          have hn : ∀ e : UInt8, valB o (l.filter p) e = e := fun e => valB_none fun y hy => by
            obtain ⟨h1, h2⟩ := List.mem_filter.1 hy
            have := h.1 y h1 hq h2
            omega
          rw [hn]
        · rw [if_neg ho, if_neg ho]
          exact valB_split hpq h.2
      · rw [List.filter_cons_of_neg (by simp [hp, hq]), List.filter_cons_of_neg hp, List.filter_cons_of_neg hq]
        exact valB_split hpq h.2
/-- First those that are done, then others: as all of them in order, if of the same byte those that are done stand first. -/
theorem imgB_split {p q : Ch → Bool} (hpq : ∀ c, p c = true → q c = false) {R : List Ch} {s : List UInt8} (h : R.Pairwise (fun x y => q x = true → p y = true → x.off.toNat ≠ y.off.toNat)) : imgB (R.filter fun c => p c || q c) s = imgB (R.filter q) (imgB (R.filter p) s) := by
  apply List.ext_getElem?
  intro o
  rw [imgB_get, imgB_get, imgB_get]
  cases s[o]? with
  | none => rfl
  | some d => simp only [Option.map_some, valB_split hpq h]
/-- Of the same byte an earlier one that is not done goes ahead. -/
def overOk (R : List Ch) : Prop := ∀ c ∈ R, ∀ x ∈ R, x.no < c.no → x.at' = c.at' → x.off.toNat = c.off.toNat → x.st ≠ 0 → x.no ∈ c.ah
theorem numd.pairwise {R : List Ch} (h : numd R) : R.Pairwise fun x y => x.no < y.no := by
  rw [List.pairwise_iff_getElem]
  intro i j hi hj hij
  rw [h i hi, h j hj]
  omega
/-- Of a sector's changes of the same byte those that are done come first. -/
theorem done_first {R : List Ch} (h : DepOk R) (ho : overOk R) (k : Int) {q : Ch → Bool} (hq : ∀ c, q c = true → c.at' = k ∧ c.st ≠ 0) : R.Pairwise (fun x y => q x = true → (y.at' == k && y.st == 0) = true → x.off.toNat ≠ y.off.toNat) := by
  have hnd := h.num.nodup
  refine (List.Pairwise.and_mem.1 h.num.pairwise).imp fun {x y} ⟨hx, hy, hxy⟩ q1 q2 e => ?_
  simp only [Bool.and_eq_true, beq_iff_eq] at q2
  obtain ⟨q3, q4⟩ := hq x q1
  have h1 := ho y hy x hx hxy (by rw [q3, q2.1]) e q4
  have h2 := h.cls y hy q2.2 _ h1
  rw [stOf_mem hnd hx] at h2
  exact q4 h2
/-- What is seen: all that is not done, over what is done, is all. -/
theorem seen_all {R : List Ch} (h : DepOk R) (ho : overOk R) (k : Int) (s : List UInt8) : imgB (R.filter fun c => c.at' == k && c.st != 0) (imgB (R.filter fun c => c.at' == k && c.st == 0) s) = imgB (R.filter fun c => c.at' == k) s := by
  rw [← imgB_split (p := fun c => c.at' == k && c.st == 0) (q := fun c => c.at' == k && c.st != 0) (fun c hc => ?_) (done_first h ho k fun c hc => ?_)]
  · congr 1
    refine List.filter_congr fun c _ => ?_
    show (c.at' == k && c.st == 0 || c.at' == k && !(c.st == 0)) = (c.at' == k)
    cases (c.at' == k) <;> cases (c.st == 0) <;> rfl
  · simp at hc ⊢
    intro _
    exact hc.2
  · simpa using hc
/-- What is done, and what was under way over it. -/
theorem done_more {R : List Ch} (h : DepOk R) (ho : overOk R) (k : Int) (s : List UInt8) : imgB (R.filter fun c => c.at' == k && c.st == 2) (imgB (R.filter fun c => c.at' == k && c.st == 0) s) = imgB ((setK k 0 R).filter fun c => c.at' == k && c.st == 0) s := by
  rw [← imgB_split (p := fun c => c.at' == k && c.st == 0) (q := fun c => c.at' == k && c.st == 2) (fun c hc => ?_) (done_first h ho k fun c hc => ?_)]
  · have e : ∀ (L : List Ch) (s : List UInt8), imgB (L.filter fun c => c.at' == k && c.st == 0 || c.at' == k && c.st == 2) s = imgB ((setK k 0 L).filter fun c => c.at' == k && c.st == 0) s := by
      intro L
      induction L with
      | nil => intro s; rfl
      | cons c L ih =>
        intro s
        rw [setK, setF_cons, ← setK]
        by_cases hf : flyB k c = true
        · obtain ⟨h1, h2⟩ := flyB_st hf
          rw [if_pos hf, List.filter_cons_of_pos (by simp [h1, h2]), List.filter_cons_of_pos (by simp [h1])]
          exact ih _
        · rw [if_neg hf]
          by_cases h0 : (c.at' == k && c.st == 0) = true
          · rw [List.filter_cons_of_pos (by simp only [h0, Bool.true_or]), List.filter_cons_of_pos (p := fun c : Ch => c.at' == k && c.st == 0) h0]
            exact ih _
          · rw [List.filter_cons_of_neg, List.filter_cons_of_neg (p := fun c : Ch => c.at' == k && c.st == 0) h0]
            · exact ih _
            · intro hh
              rw [Bool.or_eq_true] at hh
              rcases hh with hh | hh
              · exact h0 hh
              · exact hf hh
    exact e R s
  · simp at hc ⊢
    intro _
    omega
  · simp at hc
    exact ⟨hc.1, by omega⟩
theorem overOk.nil : overOk [] := fun c hc => by cases hc
theorem overOk.set {R : List Ch} (h : overOk R) {p : Ch → Bool} {s : Int} (hp : ∀ c ∈ R, p c = true → c.st ≠ 0) : overOk (setF p s R) := by
  intro c hc x hx h1 h2 h3 h4
  obtain ⟨c, hc', rfl⟩ := setF_mem hc
  obtain ⟨x, hx', rfl⟩ := setF_mem hx
  obtain ⟨a1, a2, a3⟩ := setF_ah p s c
  obtain ⟨b1, b2, b3⟩ := setF_ah p s x
  have a4 : (if p c then { c with st := s } else c).off = c.off := by split <;> rfl
  have b4 : (if p x then { x with st := s } else x).off = x.off := by split <;> rfl
  rw [a2, b2] at h1
  rw [a3, b3] at h2
  rw [a4, b4] at h3
  rw [a1, b2]
  refine h c hc' x hx' h1 h2 h3 ?_
  by_cases hpx : p x = true
  · exact hp x hx' hpx
  · rw [if_neg hpx] at h4
    exact h4
theorem overOk.fly {R : List Ch} (h : overOk R) (k s : Int) : overOk (setK k s R) := h.set fun c _ hf => by rw [(flyB_st hf).2]; decide
theorem overOk.send {R : List Ch} (h : overOk R) (hd : DepOk R) (k : Int) : overOk (setN (rdyN R k) 2 R) := h.set fun c hc hf => by
  obtain ⟨x, hx, h1, _, h2, _⟩ := rdyN_ok (List.contains_iff_mem.1 hf)
  rw [uniq hd.num.nodup hx hc h1] at h2
  omega
theorem overOk.add {R : List Ch} (h : overOk R) (hd : DepOk R) {c : Ch} (hc : c.no = (R.length : Int) + 1) (ha : ∀ x ∈ R, x.at' = c.at' → x.off.toNat = c.off.toNat → x.st ≠ 0 → x.no ∈ c.ah) : overOk (R ++ [c]) := by
  intro y hy x hx h1 h2 h3 h4
  rcases List.mem_append.1 hy with hy | hy
  · rcases List.mem_append.1 hx with hx | hx
    · exact h y hy x hx h1 h2 h3 h4
    · rw [List.mem_singleton.1 hx, hc] at h1
      have := hd.num.le hy
      omega
  · have e := List.mem_singleton.1 hy
    subst e
    rcases List.mem_append.1 hx with hx | hx
    · exact ha x hx h2 h3 h4
    · rw [List.mem_singleton.1 hx] at h1
      omega
/-- A part of a list, found again by the numbers. -/
theorem sub_filter {l L : List Ch} (h : l.Sublist L) (hn : (L.map Ch.no).Nodup) : L.filter (fun c => (l.map Ch.no).contains c.no) = l := by
  induction h with
  | slnil => rfl
  | @cons l1 l2 a hs ih =>
    rw [List.map_cons, List.nodup_cons] at hn
    rw [List.filter_cons_of_neg]
    · exact ih hn.2
    · intro hc
      rw [List.contains_iff_mem] at hc
      obtain ⟨x, hx, hxa⟩ := List.mem_map.1 hc
      exact hn.1 (hxa ▸ List.mem_map.2 ⟨x, hs.subset hx, rfl⟩)
  | @cons_cons l1 l2 a hs ih =>
    rw [List.map_cons, List.nodup_cons] at hn
    rw [List.filter_cons_of_pos (by simp)]
    congr 1
    have e : l2.filter (fun c => ((a :: l1).map Ch.no).contains c.no) = l2.filter fun c => (l1.map Ch.no).contains c.no := by
      refine List.filter_congr fun c hc => ?_
      have hne : c.no ≠ a.no := fun e => hn.1 (e ▸ List.mem_map.2 ⟨c, hc, rfl⟩)
      simp [hne]
    rw [e]
    exact ih hn.2
/-- The changes that may be sent. -/
def rdyL (L : List Ch) (k : Int) : List Ch := (rdyT L k L.length).map (·.2)
theorem rdyT_sub (L : List Ch) (k : Int) : ∀ j, j ≤ L.length → ((rdyT L k j).map (·.2)).Sublist (L.take j)
  | 0, _ => by simp [rdyT]
  | j + 1, h => by
    have hj : j < L.length := h
    have ih := rdyT_sub L k j (by omega)
    rw [List.take_succ_eq_append_getElem hj]
    simp only [rdyT, List.getElem?_eq_getElem hj]
    by_cases hc : rdyC L k L[j] ((rdyT L k j).map (·.2.no)) = true
    · rw [if_pos hc, List.map_append]
      exact ih.append (List.Sublist.refl _)
    · rw [if_neg hc]
      exact ih.trans (List.sublist_append_left _ _)
theorem rdyL_no (L : List Ch) (k : Int) : (rdyL L k).map Ch.no = rdyN L k := by
  rw [rdyL, rdyN, List.map_map]
  rfl
theorem rdyL_eq {L : List Ch} (hn : (L.map Ch.no).Nodup) (k : Int) : rdyL L k = L.filter fun c => (rdyN L k).contains c.no := by
  have hs : (rdyL L k).Sublist L := by
    have := rdyT_sub L k L.length (Nat.le_refl _)
    rwa [List.take_length] at this
  rw [← rdyL_no, sub_filter hs hn]
theorem und_nodup {R : List Ch} (h : (R.map Ch.no).Nodup) : ((und R).map Ch.no).Nodup := h.sublist (List.filter_sublist.map _)
theorem rdyL_und {R : List Ch} (h : (R.map Ch.no).Nodup) (k : Int) : rdyL (und R) k = rdyL R k := by
  rw [rdyL_eq (und_nodup h), rdyL_eq h, rdyN_und h, und, List.filter_filter]
  refine List.filter_congr fun c hc => ?_
  cases hf : (rdyN R k).contains c.no with
  | false => simp
  | true =>
    obtain ⟨x, hx, h1, _, h2, _⟩ := rdyN_ok (List.contains_iff_mem.1 hf)
    rw [uniq h hx hc h1] at h2
    simp [h2]
/-- What was sent is what is under way, when nothing was. -/
theorem sent_fly {R : List Ch} (h : (R.map Ch.no).Nodup) (k : Int) (h0 : ∀ c ∈ R, c.at' = k → c.st ≠ 2) (s : List UInt8) : imgB ((setN (rdyN R k) 2 R).filter fun c => c.at' == k && c.st == 2) s = imgB (rdyL R k) s := by
  have e : ∀ (L : List Ch) (s : List UInt8), (∀ c ∈ L, c.at' = k → c.st ≠ 2) → (∀ c ∈ L, (rdyN R k).contains c.no = true → c.at' = k) → imgB ((setN (rdyN R k) 2 L).filter fun c => c.at' == k && c.st == 2) s = imgB (L.filter fun c => (rdyN R k).contains c.no) s := by
    intro L
    induction L with
    | nil => intro s _ _; rfl
    | cons c L ih =>
      intro s h1 h2
      have ih' := fun s => ih s (fun x hx => h1 x (by simp [hx])) fun x hx => h2 x (by simp [hx])
      rw [setN, setF_cons, ← setN]
      by_cases hf : (rdyN R k).contains c.no = true
      · have h3 := h2 c (by simp) hf
        rw [if_pos hf, List.filter_cons_of_pos (by simp [h3]), List.filter_cons_of_pos (p := fun c : Ch => (rdyN R k).contains c.no) hf]
        exact ih' _
      · rw [if_neg hf, List.filter_cons_of_neg, List.filter_cons_of_neg (p := fun c : Ch => (rdyN R k).contains c.no) hf]
        · exact ih' _
        · intro hh
          simp only [Bool.and_eq_true, beq_iff_eq] at hh
          exact h1 c (by simp) hh.1 hh.2
  rw [rdyL_eq h]
  refine e R s h0 fun c hc hf => ?_
  obtain ⟨x, hx, h1, h2, _⟩ := rdyN_ok (List.contains_iff_mem.1 hf)
  rw [uniq h hx hc h1] at h2
  exact h2
/-- A chain: each change but the first has the one ahead of it; the first j are done, the others pending. -/
structure ChainOk (R : List Ch) (j : Nat) : Prop where
  num : numd R
  ah0 : ∀ (h : 0 < R.length), R[0].ah = []
  ah1 : ∀ i (h : i + 1 < R.length), R[i + 1].ah = [(i : Int) + 1]
  st0 : ∀ i (h : i < R.length), i < j → R[i].st = 0
  st1 : ∀ i (h : i < R.length), j ≤ i → R[i].st = 1
/-- How many at the beginning are of a sector. -/
def runL (k : Int) : List Ch → Nat
  | [] => 0
  | c :: l => if c.at' = k then runL k l + 1 else 0
theorem runL_le (k : Int) : ∀ l : List Ch, runL k l ≤ l.length
  | [] => Nat.le_refl _
  | c :: l => by
    rw [runL]
    split
    · have := runL_le k l; simp; omega
    · omega
theorem runL_at (k : Int) : ∀ (l : List Ch) (i : Nat) (h : i < l.length), i < runL k l → l[i].at' = k
  | c :: l, 0, _, h => by
    rw [runL] at h
    split at h
    · assumption
    · omega
  | c :: l, i + 1, h1, h => by
    rw [runL] at h
    split at h
    · exact runL_at k l i (by simpa using h1) (by omega)
    · omega
theorem runL_end (k : Int) : ∀ (l : List Ch) (h : runL k l < l.length), l[runL k l].at' ≠ k
  | [], h => by simp at h
  | c :: l, h => by
    by_cases hk : c.at' = k
    · have e : runL k (c :: l) = runL k l + 1 := by rw [runL, if_pos hk]
      have h' : runL k l < l.length := by rw [e] at h; simpa using h
      simp only [e, List.getElem_cons_succ]
      exact runL_end k l h'
    · have e : runL k (c :: l) = 0 := by rw [runL, if_neg hk]
      simp only [e, List.getElem_cons_zero]
      exact hk
section
variable {R : List Ch} {j : Nat}
theorem ChainOk.rdyC0 (h : ChainOk R j) (k : Int) {i : Nat} (hi : i < R.length) (acc : List Int) (hij : i < j) : rdyC R k R[i] acc = false := rdyC_done R k _ acc (h.st0 i hi hij)
theorem ChainOk.rdyCj (h : ChainOk R j) (k : Int) (hj : j < R.length) (acc : List Int) : rdyC R k R[j] acc = (R[j].at' == k) := by
  have h1 := h.st1 j hj (Nat.le_refl _)
  rw [rdyC, h1]
  cases j with
  | zero => rw [h.ah0 hj]; simp
  | succ i =>
    rw [h.ah1 i hj]
    have h2 := stOf_at h.num.nodup (i := i) (by omega)
    rw [h.num i (by omega), h.st0 i (by omega) (by omega)] at h2
    simp [h2]
theorem ChainOk.rdyC1 (h : ChainOk R j) (k : Int) {i : Nat} (hi : i + 1 < R.length) (acc : List Int) (hij : j ≤ i) : rdyC R k R[i + 1] acc = (R[i + 1].at' == k && acc.contains ((i : Int) + 1)) := by
  have h1 := h.st1 (i + 1) hi (by omega)
  rw [rdyC, h1, h.ah1 i hi]
  have h2 := stOf_at h.num.nodup (i := i) (by omega)
  rw [h.num i (by omega), h.st1 i (by omega) hij] at h2
  simp [h2]
/-- Numbers in a row. -/
def numsL (j m : Nat) : List Int := (List.range m).map fun i => ((j + i : Nat) : Int) + 1
theorem numsL_succ (j m : Nat) : numsL j (m + 1) = numsL j m ++ [((j + m : Nat) : Int) + 1] := by simp [numsL, List.range_succ]
theorem numsL_mem {j m : Nat} {n : Int} : n ∈ numsL j m ↔ (j : Int) + 1 ≤ n ∧ n ≤ (j : Int) + m := by
  simp only [numsL, List.mem_map, List.mem_range]
  constructor
  · rintro ⟨i, hi, rfl⟩; omega
  · intro h; exact ⟨(n - j - 1).toNat, by omega, by omega⟩
/-- Up to any place: those of the run that stand ahead of it. -/
theorem ChainOk.upto (h : ChainOk R j) (k : Int) : ∀ i, i ≤ R.length → rdyG (rdyC R k) (R.take i) [] = numsL j (min (i - j) (runL k (R.drop j)))
  | 0, _ => by simp [rdyG, numsL]
  | i + 1, hi => by
    have hlt : i < R.length := hi
    rw [List.take_succ_eq_append_getElem hlt, rdyG_app, h.upto k i (by omega)]
    simp only [rdyG]
    have hd : (R.drop j).length = R.length - j := List.length_drop
    have hrl := runL_le k (R.drop j)
    rcases Nat.lt_trichotomy i j with hij | hij | hij
    · rw [h.rdyC0 k hlt _ hij]
      simp only [Bool.false_eq_true, if_false]
      rw [show i - j = 0 by omega, show i + 1 - j = 0 by omega]
    · subst hij
      rw [h.rdyCj k hlt]
      have hdr : R.drop i = R[i] :: R.drop (i + 1) := List.drop_eq_getElem_cons hlt
      rw [Nat.sub_self, Nat.zero_min, show i + 1 - i = 1 by omega]
      by_cases hk : R[i].at' = k
      · have e : runL k (R.drop i) = runL k (R.drop (i + 1)) + 1 := by rw [hdr, runL, if_pos hk]
        rw [e, Nat.min_eq_left (by omega)]
        simp [hk, numsL, h.num i hlt]
      · have e : runL k (R.drop i) = 0 := by rw [hdr, runL, if_neg hk]
        rw [e]
        simp [hk, numsL]
    · obtain ⟨t, rfl⟩ : ∃ t, i = t + 1 := ⟨i - 1, by omega⟩
      rw [h.rdyC1 k hlt _ (by omega)]
      have hg : ∀ m (hm : m < R.length - j), (R.drop j)[m]'(by omega) = R[j + m]'(by omega) := fun m hm => List.getElem_drop
      by_cases hr : t + 1 - j < runL k (R.drop j)
      · have h1 := runL_at k (R.drop j) (t + 1 - j) (by omega) hr
        rw [hg _ (by omega)] at h1
        have e1 : R[j + (t + 1 - j)]'(by omega) = R[t + 1] := by congr 1; omega
        rw [e1] at h1
        have h2 : (numsL j (min (t + 1 - j) (runL k (R.drop j)))).contains ((t : Int) + 1) = true := by
          rw [List.contains_iff_mem, numsL_mem]
          omega
        rw [h1, h2, beq_self_eq_true, Bool.and_self, if_pos rfl, h.num _ hlt, Nat.min_eq_left (by omega), show min (t + 1 + 1 - j) (runL k (R.drop j)) = (t + 1 - j) + 1 by omega, numsL_succ]
        congr 3
        omega
      · have h2 : (R[t + 1].at' == k && (numsL j (min (t + 1 - j) (runL k (R.drop j)))).contains ((t : Int) + 1)) = false := by
          rcases Nat.lt_or_eq_of_le (Nat.le_of_not_lt hr) with hr | hr
          · have : (numsL j (min (t + 1 - j) (runL k (R.drop j)))).contains ((t : Int) + 1) = false := by
              rw [Bool.eq_false_iff, ne_eq, List.contains_iff_mem, numsL_mem]
              omega
            rw [this, Bool.and_false]
          · have h1 := runL_end k (R.drop j) (by omega)
            have e1 : (R.drop j)[runL k (R.drop j)]'(by omega) = R[t + 1] := by
              rw [hg _ (by omega)]
              congr 1
              omega
            rw [e1] at h1
            simp [h1]
        rw [h2, if_neg (by simp)]
        congr 1
        omega
/-- What may be sent of a chain. -/
theorem ChainOk.rdy (h : ChainOk R j) (k : Int) : rdyN R k = numsL j (runL k (R.drop j)) := by
  have := h.upto k R.length (Nat.le_refl _)
  rw [List.take_length] at this
  rw [rdyN_G, this]
  congr 1
  have := runL_le k (R.drop j)
  rw [List.length_drop] at this
  omega
end
section
variable {R : List Ch} {j : Nat}
/-- What was sent and done: nothing is under way any more. -/
def roundC (k : Int) (R : List Ch) : List Ch := setK k 0 (setN (rdyN R k) 2 R)
theorem setN_at (l : List Int) (s : Int) (L : List Ch) {i : Nat} (h : i < (setN l s L).length) : (setN l s L)[i] = if l.contains (L[i]'(by rw [setN, setF_len] at h; exact h)).no then { (L[i]'(by rw [setN, setF_len] at h; exact h)) with st := s } else (L[i]'(by rw [setN, setF_len] at h; exact h)) := by
  simp only [setN, setF, List.getElem_map]
theorem setK_at (k s : Int) (L : List Ch) {i : Nat} (h : i < (setK k s L).length) : (setK k s L)[i] = if flyB k (L[i]'(by rw [setK, setF_len] at h; exact h)) then { (L[i]'(by rw [setK, setF_len] at h; exact h)) with st := s } else (L[i]'(by rw [setK, setF_len] at h; exact h)) := by
  simp only [setK, setF, List.getElem_map]
theorem roundC_len (k : Int) (R : List Ch) : (roundC k R).length = R.length := by rw [roundC, setK, setF_len, setN, setF_len]
/-- A sent chain: its states. -/
theorem ChainOk.sent (h : ChainOk R j) (k : Int) {i : Nat} (hi : i < R.length) : (setN (rdyN R k) 2 R)[i]'(by rw [setN, setF_len]; exact hi) = if j ≤ i ∧ i < j + runL k (R.drop j) then { R[i] with st := 2 } else R[i] := by
  rw [setN_at]
  have e : (rdyN R k).contains R[i].no = decide (j ≤ i ∧ i < j + runL k (R.drop j)) := by
    rw [h.rdy k, h.num i hi, Bool.eq_iff_iff, List.contains_iff_mem, numsL_mem, decide_eq_true_eq]
    omega
  rw [e]
  by_cases hc : j ≤ i ∧ i < j + runL k (R.drop j)
  · rw [if_pos hc, if_pos (by simpa using hc)]
  · rw [if_neg hc, if_neg (by simpa using hc)]
theorem ChainOk.at (_h : ChainOk R j) (k : Int) {i : Nat} (hi : i < R.length) (hc : j ≤ i ∧ i < j + runL k (R.drop j)) : R[i].at' = k := by
  have hl := runL_le k (R.drop j)
  rw [List.length_drop] at hl
  have := runL_at k (R.drop j) (i - j) (by rw [List.length_drop]; omega) (by omega)
  rw [List.getElem_drop] at this
  rw [← this]
  congr 2
  omega
theorem ChainOk.round_at (h : ChainOk R j) (k : Int) {i : Nat} (hi : i < R.length) : (roundC k R)[i]'(by rw [roundC_len]; exact hi) = if j ≤ i ∧ i < j + runL k (R.drop j) then { R[i] with st := 0 } else R[i] := by
  simp only [roundC]
  rw [setK_at]
  have e := h.sent k hi
  rw [e]
  by_cases hc : j ≤ i ∧ i < j + runL k (R.drop j)
  · simp only [if_pos hc]
    have : flyB k { R[i] with st := 2 } = true := by simp [flyB, h.at k hi hc]
    rw [if_pos this]
  · simp only [if_neg hc]
    rw [if_neg]
    intro hf
    have h2 := (flyB_st hf).2
    by_cases hij : i < j
    · rw [h.st0 i hi hij] at h2; exact absurd h2 (by decide)
    · rw [h.st1 i hi (by omega)] at h2; exact absurd h2 (by decide)
/-- A round. -/
theorem ChainOk.round (h : ChainOk R j) (k : Int) : ChainOk (roundC k R) (j + runL k (R.drop j)) := by
  have hl := roundC_len k R
  have hnd : numd (roundC k R) := numd_of (numd_of h.num (setF_no _ _ _)) (setF_no _ _ _)
  have hah : ∀ i (hi : i < R.length), ((roundC k R)[i]'(by omega)).ah = R[i].ah := fun i hi => by
    rw [h.round_at k hi]
    split <;> rfl
  refine ⟨hnd, fun h0 => ?_, fun i hi => ?_, fun i hi hij => ?_, fun i hi hij => ?_⟩
  · rw [hah 0 (by omega)]; exact h.ah0 _
  · rw [hah (i + 1) (by omega)]; exact h.ah1 i (by omega)
  · rw [h.round_at k (by omega)]
    by_cases hc : j ≤ i ∧ i < j + runL k (R.drop j)
    · rw [if_pos hc]
    · rw [if_neg hc]; exact h.st0 i (by omega) (by omega)
  · rw [h.round_at k (by omega), if_neg (by omega)]
    exact h.st1 i (by omega) (by omega)
end
/-- How often the sector changes, behind a last one. -/
def turnsC (last : Int) : List Ch → Nat
  | [] => 0
  | c :: l => (if c.at' = last then 0 else 1) + turnsC c.at' l
theorem turnsC_run (k : Int) : ∀ l : List Ch, turnsC k l = turnsC k (l.drop (runL k l))
  | [] => rfl
  | c :: l => by
    by_cases hk : c.at' = k
    · have e : runL k (c :: l) = runL k l + 1 := by rw [runL, if_pos hk]
      rw [e, List.drop_succ_cons, ← turnsC_run k l, turnsC, if_pos hk, hk, Nat.zero_add]
    · have e : runL k (c :: l) = 0 := by rw [runL, if_neg hk]
      rw [e]; rfl
theorem turnsC_new {last : Int} {c : Ch} {l : List Ch} (h : c.at' ≠ last) : turnsC last (c :: l) = 1 + turnsC c.at' ((c :: l).drop (runL c.at' (c :: l))) := by
  rw [turnsC, if_neg h]
  have e : runL c.at' (c :: l) = runL c.at' l + 1 := by rw [runL, if_pos rfl]
  rw [e, List.drop_succ_cons, ← turnsC_run]
end Cw
