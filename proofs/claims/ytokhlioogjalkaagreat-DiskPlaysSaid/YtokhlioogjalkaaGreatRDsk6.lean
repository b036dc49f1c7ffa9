/- The statement DiskPlays: a call, of both. -/
import Derived.Test.YtokhlioogjalkaaGreatRDsk3
import Derived.Test.YtokhlioogjalkaaGreatRDskF
import Derived.Test.YtokhlioogjalkaaGreatVcN
import Derived.Test.YtokhlioogjalkaaGreatBook
namespace Vc
open Go Go.RowKit
section
variable {P : Program} {F : Frm} {Q : Exit → Act → World → Prop} {c : Code} {ks : List KI} {L : LL} {H : HL} {nx : Nat}
/-- A pointer to a thing whose number is known, by the name of the number. -/
theorem At.alias {φ : AbP} {b : Nat} {b1 b2 : Bool} (t d q : Nat) (hd : lookH H d = some (b1, .ab φ)) (hp : Pins φ (ptr b)) (hq : lookH H q = some (b2, .pin q b)) (hl : look t L = some (.t (.c (.nm d)))) (h : At P F Q c ks ((t, .t (.c (.p q 0))) :: L) H nx) : At P F Q c ks L H nx :=
  ⟨fun hW e a w S => by
    have hb : e.blk q = b := (S.ob q b2 _ hq).1.2
    have hv : e.val d = ptr b := hp _ _ _ (S.ob d b1 _ hd).1.1
    refine h.h ⟨fun t' v' hv' j hj => ?_, hW.h⟩ e a w ⟨S.fr, S.sz, S.df, fun t' v' hv' => ?_, S.ob, S.dj⟩
    · rw [look_cons] at hv'
      split at hv'
      · cases hv'
        simp [SV.ns, TV.ns, CV.ns] at hj
        rw [hj]
        exact (hW.h q _ hq).1
      · exact hW.l t' v' hv' j hj
    · rw [look_cons] at hv'
      split at hv'
      · rename_i ht
        cases hv'
        subst ht
        rw [S.sl _ _ hl]
        show e.val d = .pointer (some ⟨e.blk q, 0, none⟩)
        rw [hv, hb]
        rfl
      · exact S.sl t' v' hv'⟩
end
theorem fnh_args {P : Program} {f : FuncId} {args args' : List TV} {H : HL} {nx : Nat} {E : Eff} (hn : (∀ n x, lookH H n = some x → n < nx ∧ ∀ m ∈ x.2.ns, m < nx) → (∀ v ∈ args', ∀ n ∈ v.ns, n < nx) → ∀ v ∈ args, ∀ n ∈ v.ns, n < nx) (he : ∀ e w, MemOk H e w → args.map (TV.den e) = args'.map (TV.den e)) (h : FnH P f args H nx E) : FnH P f args' H nx E := by
  refine ⟨fun hw ha e w M => ?_⟩
  rw [← he e w M]
  exact h.h hw (hn hw ha) e w M
theorem alias_den {φ : AbP} {b d q : Nat} {b1 b2 : Bool} {H : HL} (hd : lookH H d = some (b1, .ab φ)) (hp : Pins φ (ptr b)) (hq : lookH H q = some (b2, .pin q b)) {e : Env} {w : World} (M : MemOk H e w) : (TV.c (.nm d)).den e = (TV.c (.p q 0)).den e := by
  show e.val d = .pointer (some ⟨e.blk q, 0, none⟩)
  rw [hp _ _ _ (M.ob d b1 _ hd).1.1, (M.ob q b2 _ hq).1.2]
  rfl
theorem fnh_al1 {P : Program} {f : FuncId} {bs : List TV} {H : HL} {nx d q b : Nat} {φ : AbP} {b1 b2 : Bool} {E : Eff} (hd : lookH H d = some (b1, .ab φ)) (hp : Pins φ (ptr b)) (hq : lookH H q = some (b2, .pin q b)) (h : FnH P f (.c (.nm d) :: bs) H nx E) : FnH P f (.c (.p q 0) :: bs) H nx E := by
  refine fnh_args (fun hw ha v hv n hn => ?_) (fun e w M => ?_) h
  · rcases List.mem_cons.1 hv with rfl | hv
    · simp [TV.ns, CV.ns] at hn
      subst hn
      exact (hw _ _ hd).1
    · exact ha v (List.mem_cons.2 (.inr hv)) n hn
  · rw [List.map_cons, List.map_cons, alias_den hd hp hq M]
theorem fnh_al2 {P : Program} {f : FuncId} {x : TV} {bs : List TV} {H : HL} {nx d q b : Nat} {φ : AbP} {b1 b2 : Bool} {E : Eff} (hd : lookH H d = some (b1, .ab φ)) (hp : Pins φ (ptr b)) (hq : lookH H q = some (b2, .pin q b)) (h : FnH P f (x :: .c (.nm d) :: bs) H nx E) : FnH P f (x :: .c (.p q 0) :: bs) H nx E := by
  refine fnh_args (fun hw ha v hv n hn => ?_) (fun e w M => ?_) h
  · rcases List.mem_cons.1 hv with rfl | hv
    · exact ha _ (by simp) n hn
    · rcases List.mem_cons.1 hv with rfl | hv
      · simp [TV.ns, CV.ns] at hn
        subst hn
        exact (hw _ _ hd).1
      · exact ha v (by simp [hv]) n hn
  · rw [List.map_cons, List.map_cons, List.map_cons, List.map_cons, alias_den hd hp hq M]
end Vc
namespace Cw
open Go Vc
open Go.Proofs
set_option maxRecDepth 100000
/-- An act of the statements of layer 11. -/
structure DAct where
  kind : Int
  node : Int
  ep : Int
  pl : Int
  n : Int
  text : ByteArray
  raw : Bool
  wo : Int
  wb : ByteArray
  no : Int
  nb : ByteArray
def DAct.cells (a : DAct) : List Value := [.int .i64 a.kind, .int .i64 a.node, .int .i64 a.ep, .int .i64 a.pl, .int .i64 a.n, .string a.text, .bool a.raw, .int .i64 a.wo, .string a.wb, .int .i64 a.no, .string a.nb]
def DAct.cv (a : DAct) : List CV := [iT a.kind, iT a.node, iT a.ep, iT a.pl, iT a.n, .s a.text, .b a.raw, iT a.wo, .s a.wb, iT a.no, .s a.nb]
abbrev dacells (l : List DAct) : List Value := fcs DAct.cells l
theorem dacells_rd {l : List DAct} {i : Nat} (h : i < l.length) : Vc.rowAt (dacells l) ((i : Int).toNat * 11) l[i].cv :=
  have g := fun (j : Nat) (u : Value) (hu : (l[i].cells)[j]? = some u) => fcs_at (c := 11) (fun _ => rfl) h hu
  ⟨g 0 _ rfl, g 1 _ rfl, g 2 _ rfl, g 3 _ rfl, g 4 _ rfl, g 5 _ rfl, g 6 _ rfl, g 7 _ rfl, g 8 _ rfl, g 9 _ rfl, g 10 _ rfl, trivial⟩
theorem dacells_n {l : List DAct} {i : Nat} (h : i < l.length) : (dacells l)[(i : Int).toNat * 11 + 4]? = some (.int .i64 l[i].n) := fcs_at (c := 11) (j := 4) (fun _ => rfl) h rfl
theorem emod_nat (x : Int) {n : Nat} (h : 0 < n) : ∃ k : Nat, k < n ∧ x % (n : Int) = (k : Int) := by
  have h1 := Int.emod_nonneg x (show (n : Int) ≠ 0 by omega)
  have h2 := Int.emod_lt_of_pos x (show (0 : Int) < n by omega)
  exact ⟨(x % (n : Int)).toNat, by omega, by omega⟩
theorem pt_len {s : ByteArray} {q : Pt} (hs : s.size = 64) (hq : okp q = true) : (pt s [q]).size = 64 := by
  have h0 : pte s [q] = 0 := by simp [pte, hs, hq]
  rw [pt, if_pos h0, S_size]
  exact patchAll_length [q] _ hs (by simp [hq])
theorem swB_ok {S : List ByteArray} {node ep k : Int} {was now : Pt} (h : swB S node ep k was now = true) : inS S.length k = true ∧ okp now = true := by
  have h1 : swE S node ep k was now = 0 := of_decide_eq_true (Bool.and_eq_true_iff.1 h).1
  unfold swE at h1
  split at h1
  · cases h1
  · split at h1
    · cases h1
    · rename_i h2
      split at h1
      · cases h1
      · rename_i h3
        exact ⟨by simpa using h2, by cases hq : okp now <;> simp_all⟩
/-- What stays at a round's beginning: i rounds are done. -/
structure DIv (n i : Nat) (S : List ByteArray) (W : List (Int × Wr)) (last : Int) : Prop where
  ok : DOk n S W last
  wl : W.length ≤ i
  ll : last ≤ (i : Int)
section
variable {n i : Nat} {S : List ByteArray} {W : List (Int × Wr)} {last : Int}
theorem DOk.sw (h : DOk n S W last) (node ep k : Int) (was now : Pt) : DOk n (swS S node ep k was now) W last := by
  unfold swS
  split
  · rename_i hb
    obtain ⟨h1, h2⟩ := swB_ok hb
    have hb := inS_iff.1 h1
    have hlt : k.toNat < S.length := by omega
    have hmem : rdT S k ∈ S := by
      rw [rdT, if_pos h1, List.getD_eq_getElem?_getD, List.getElem?_eq_getElem hlt]
      exact List.getElem_mem hlt
    exact { h with len := by rw [List.length_set]; exact h.len, sz := mem_set_sz h.sz (pt_len (h.sz _ hmem) h2) }
  · exact h
theorem DIv.new {n : Nat} (h : 2 ≤ n) : DIv n 0 (S0 n) [] 0 := ⟨DOk.new h, by simp, by simp⟩
theorem wdel_len (k : Int) (W : List (Int × Wr)) : (wdel k W).length ≤ W.length := by
  have := (wdel_fst_sub k W).length_le
  simpa using this
theorem DIv.isu (h : DIv n i S W last) (node ep pl : Int) (s : ByteArray) : DIv n (i + 1) S (isuW S W last node ep pl s) (isuL S W last node ep pl s) := by
  refine ⟨h.ok.isu node ep pl s, ?_, ?_⟩
  · have := h.wl
    unfold isuW
    split
    · simp; omega
    · omega
  · have := h.ll
    unfold isuL
    split <;> omega
theorem DIv.up (h : DIv n i S W last) {S' : List ByteArray} {W' : List (Int × Wr)} (h1 : DOk n S' W' last) (h2 : W'.length ≤ W.length) : DIv n (i + 1) S' W' last := ⟨h1, by have := h.wl; omega, by have := h.ll; omega⟩
/-- An act's text, as it is used; what an act makes. -/
def daS (a : DAct) : ByteArray := if a.raw = true then a.text else fit a.text
def stS (S : List ByteArray) (W : List (Int × Wr)) (last : Int) (a : DAct) : List ByteArray := match (a.kind % 6).toNat with
  | 0 => S
  | 1 => apS S W a.n
  | 2 => S
  | 3 => layS S a.pl (daS a)
  | 4 => rsS S a.node a.ep
  | _ => swS S a.node a.ep a.pl (a.wo, a.wb) (a.no, a.nb)
def stW (S : List ByteArray) (W : List (Int × Wr)) (last : Int) (a : DAct) : List (Int × Wr) := match (a.kind % 6).toNat with
  | 0 => isuW S W last a.node a.ep a.pl (daS a)
  | 1 => wdel a.n W
  | 2 => wdel a.n W
  | 3 => W
  | 4 => W
  | _ => W
def stL (S : List ByteArray) (W : List (Int × Wr)) (last : Int) (a : DAct) : Int := match (a.kind % 6).toNat with
  | 0 => isuL S W last a.node a.ep a.pl (daS a)
  | 1 => last
  | 2 => last
  | 3 => last
  | 4 => last
  | _ => last
theorem DIv.step (h : DIv n i S W last) (a : DAct) : DIv n (i + 1) (stS S W last a) (stW S W last a) (stL S W last a) := by
  unfold stS stW stL
  split
  · exact h.isu _ _ _ _
  · exact h.up (h.ok.ap _) (wdel_len _ _)
  · exact h.up (h.ok.del _) (wdel_len _ _)
  · exact h.up (h.ok.lay _ _) (Nat.le_refl _)
  · exact h.up (h.ok.rs _ _) (Nat.le_refl _)
  · exact h.up (h.ok.sw _ _ _ _ _) (Nat.le_refl _)
end
section
variable {H : HL} {nx d b n i : Nat} {S : List ByteArray} {W : List (Int × Wr)} {last : Int}
set_option maxRecDepth 100000 in
set_option maxHeartbeats 8000000 in
theorem dstep_h {r b' : Nat} {a : DAct} (hd : lookH H d = some (true, .ab (dP S W last b))) (hr : lookH H r = some (true, .ab (rdP S W last b'))) (hdr : d ≠ r) (iv : DIv n i S W last) (hi : i ≤ 1000) (ht : a.text.size ≤ maxLen) (hw : a.wb.size ≤ maxLen) (hn : a.nb.size ≤ maxLen) :
    FnH Tryz.prog 9 [.c (.nm d), .c (.nm r), .agg a.cv] H nx ⟨.t (.c (.b true)), [], [(d, some (.ab (dP (stS S W last a) (stW S W last a) (stL S W last a) b))), (r, some (.ab (rdP (stS S W last a) (stW S W last a) (stL S W last a) b')))], []⟩ := by
  refine fnA2 (fn := Tryz.f9) 165 rfl rfl rfl hd hr hdr (ptr b) (ptr b') (disk_pins _ _ _ _) (disk_pins _ _ _ _) (rd_pins _ _ _ _) (rd_pins _ _ _ _) rfl rfl rfl (v' := .t (.c (.b true))) (news' := []) rfl rfl rfl rfl fun w Wr => ?_
  have am6 := amV a.kind 6 (by decide) (by decide)
  obtain ⟨kd, hkd, hke⟩ := emod_nat a.kind (n := 6) (by decide)
  rw [show ((6 : Nat) : Int) = 6 from rfl] at hke
  have hst : (a.kind % 6).toNat = kd := by omega
  rw [hke] at am6
  have ok := iv.ok
  have two : 2 ≤ S.length := ok.len ▸ ok.two
  have hl1 : last ≤ 1000000 := by have := iv.ll; omega
  have hwl : W.length ≤ 1024 := by have := iv.wl; omega
  have hpl : ∀ p ∈ W, inS S.length p.2.pl = true := fun p hp => by rw [ok.len]; exact ok.pl p hp
  simp only [maxLen] at ht hw hn
  have hft := fit0 a.text (by omega)
  obtain ⟨t, htt⟩ : ∃ t, daS a = t := ⟨_, rfl⟩
  unfold stS stW stL
  rw [hst, htt]
  rcases kd with _ | _ | _ | _ | _ | _ | kd
  · have hP := fun (H : HL) (nx : Nat) (h : lookH H 0 = some (true, .ab (dP S W last b))) => issueA (nx := nx) h two ok.sz ok.l0 hl1 (fun p hp => (ok.le p hp).2) a.node a.ep a.pl t
    have hR := fun (H : HL) (nx : Nat) (h : lookH H 1 = some (true, .ab (rdP S W last b'))) => rissueA (nx := nx) h two ok.sz ok.l0 hl1 hwl a.node a.ep a.pl t
    have x1 : (isuN S W last a.node a.ep a.pl t == isuN S W last a.node a.ep a.pl t) = true := beq_self_eq_true _
    have x2 : (isuE S W a.node a.ep a.pl t == isuE S W a.node a.ep a.pl t) = true := beq_self_eq_true _
    cases hw : a.raw with
    | true =>
      have hs : a.text = t := by rw [← htt, daS, if_pos hw]
      rw [hs] at hft
      rw [← hs] at hP hR x1 x2 ⊢
      refine rn [(24, .dec false), (29, .ret (.t (.c (iT ((0 : Nat) : Int))))), (30, .dec true), (41, .spec ⟨.tup [.c (iT (isuN S W last a.node a.ep a.pl a.text)), .c (iT (isuE S W a.node a.ep a.pl a.text))], [], [(0, some (.ab (dP S (isuW S W last a.node a.ep a.pl a.text) (isuL S W last a.node a.ep a.pl a.text) b)))], []⟩), (53, .spec ⟨.tup [.c (iT (isuN S W last a.node a.ep a.pl a.text)), .c (iT (isuE S W a.node a.ep a.pl a.text))], [], [(1, some (.ab (rdP S (isuW S W last a.node a.ep a.pl a.text) (isuL S W last a.node a.ep a.pl a.text) b')))], []⟩), (59, .dec true)] rfl
        (by (repeat' (first | exact trivial | exact rfl | exact am6 | exact fun _ => am6 | first | exact hft | exact hP _ _ rfl | exact hR _ _ rfl | exact x1 | exact x2 | (rw [hw]; rfl) | decide | refine And.intro ?_ ?_))) ?_
      exact retM tysOk [] rfl (by (repeat' (first | exact trivial | exact rfl | exact x2 | exact fun _ => x2 | exact x1 | refine And.intro ?_ ?_))) (by repeat' (first | exact trivial | exact rfl | refine And.intro ?_ ?_)) rfl rfl
    | false =>
      have hs : fit a.text = t := by rw [← htt, daS, if_neg (by rw [hw]; decide)]
      rw [hs] at hft
      refine rn [(24, .dec true), (26, .ret (.t (.c (.s t)))), (29, .ret (.t (.c (iT ((0 : Nat) : Int))))), (30, .dec true), (41, .spec ⟨.tup [.c (iT (isuN S W last a.node a.ep a.pl t)), .c (iT (isuE S W a.node a.ep a.pl t))], [], [(0, some (.ab (dP S (isuW S W last a.node a.ep a.pl t) (isuL S W last a.node a.ep a.pl t) b)))], []⟩), (53, .spec ⟨.tup [.c (iT (isuN S W last a.node a.ep a.pl t)), .c (iT (isuE S W a.node a.ep a.pl t))], [], [(1, some (.ab (rdP S (isuW S W last a.node a.ep a.pl t) (isuL S W last a.node a.ep a.pl t) b')))], []⟩), (59, .dec true)] rfl
        (by (repeat' (first | exact trivial | exact rfl | exact am6 | exact fun _ => am6 | first | exact hft | exact hP _ _ rfl | exact hR _ _ rfl | exact x1 | exact x2 | (rw [hw]; rfl) | decide | refine And.intro ?_ ?_))) ?_
      exact retM tysOk [] rfl (by (repeat' (first | exact trivial | exact rfl | exact x2 | exact fun _ => x2 | exact x1 | refine And.intro ?_ ?_))) (by repeat' (first | exact trivial | exact rfl | refine And.intro ?_ ?_)) rfl rfl
  · have hP := fun (H : HL) (nx : Nat) (h : lookH H 0 = some (true, .ab (dP S W last b))) => applyD (nx := nx) h ok a.n
    have hR := fun (H : HL) (nx : Nat) (h : lookH H 1 = some (true, .ab (rdP S W last b'))) => rapplyA (nx := nx) h hwl two ok.sz hpl a.n
    have x1 : (apB S W a.n == apB S W a.n) = true := beq_self_eq_true _
    have x2 : (drE W a.n == drE W a.n) = true := beq_self_eq_true _
    cases hw : a.raw with
    | true =>
      have hs : a.text = t := by rw [← htt, daS, if_pos hw]
      rw [hs] at hft
      refine rn [(24, .dec false), (29, .ret (.t (.c (iT ((1 : Nat) : Int))))), (30, .dec false), (64, .dec true), (70, .spec ⟨.tup [.c (.b (apB S W a.n)), .c (iT (drE W a.n))], [], [(0, some (.ab (dP (apS S W a.n) (wdel a.n W) last b)))], []⟩), (77, .spec ⟨.tup [.c (.b (apB S W a.n)), .c (iT (drE W a.n))], [], [(1, some (.ab (rdP (apS S W a.n) (wdel a.n W) last b')))], []⟩), (83, .dec true)] rfl
        (by (repeat' (first | exact trivial | exact rfl | exact am6 | exact fun _ => am6 | first | exact hft | exact hP _ _ rfl | exact hR _ _ rfl | exact x1 | exact x2 | (rw [hw]; rfl) | decide | refine And.intro ?_ ?_))) ?_
      exact retM tysOk [] rfl (by (repeat' (first | exact trivial | exact rfl | exact x2 | exact fun _ => x2 | exact x1 | refine And.intro ?_ ?_))) (by repeat' (first | exact trivial | exact rfl | refine And.intro ?_ ?_)) rfl rfl
    | false =>
      have hs : fit a.text = t := by rw [← htt, daS, if_neg (by rw [hw]; decide)]
      rw [hs] at hft
      refine rn [(24, .dec true), (26, .ret (.t (.c (.s t)))), (29, .ret (.t (.c (iT ((1 : Nat) : Int))))), (30, .dec false), (64, .dec true), (70, .spec ⟨.tup [.c (.b (apB S W a.n)), .c (iT (drE W a.n))], [], [(0, some (.ab (dP (apS S W a.n) (wdel a.n W) last b)))], []⟩), (77, .spec ⟨.tup [.c (.b (apB S W a.n)), .c (iT (drE W a.n))], [], [(1, some (.ab (rdP (apS S W a.n) (wdel a.n W) last b')))], []⟩), (83, .dec true)] rfl
        (by (repeat' (first | exact trivial | exact rfl | exact am6 | exact fun _ => am6 | first | exact hft | exact hP _ _ rfl | exact hR _ _ rfl | exact x1 | exact x2 | (rw [hw]; rfl) | decide | refine And.intro ?_ ?_))) ?_
      exact retM tysOk [] rfl (by (repeat' (first | exact trivial | exact rfl | exact x2 | exact fun _ => x2 | exact x1 | refine And.intro ?_ ?_))) (by repeat' (first | exact trivial | exact rfl | refine And.intro ?_ ?_)) rfl rfl
  · have hP := fun (H : HL) (nx : Nat) (h : lookH H 0 = some (true, .ab (dP S W last b))) => dropA (nx := nx) h a.n
    have hR := fun (H : HL) (nx : Nat) (h : lookH H 1 = some (true, .ab (rdP S W last b'))) => rdropA (nx := nx) h hwl a.n
    have x1 : (drE W a.n == drE W a.n) = true := beq_self_eq_true _
    have x2 := x1
    cases hw : a.raw with
    | true =>
      have hs : a.text = t := by rw [← htt, daS, if_pos hw]
      rw [hs] at hft
      refine rn [(24, .dec false), (29, .ret (.t (.c (iT ((2 : Nat) : Int))))), (30, .dec false), (64, .dec false), (88, .dec true), (93, .spec ⟨.t (.c (iT (drE W a.n))), [], [(0, some (.ab (dP S (wdel a.n W) last b)))], []⟩), (97, .spec ⟨.t (.c (iT (drE W a.n))), [], [(1, some (.ab (rdP S (wdel a.n W) last b')))], []⟩)] rfl
        (by (repeat' (first | exact trivial | exact rfl | exact am6 | exact fun _ => am6 | first | exact hft | exact hP _ _ rfl | exact hR _ _ rfl | exact x1 | exact x2 | (rw [hw]; rfl) | decide | refine And.intro ?_ ?_))) ?_
      exact retM tysOk [] rfl (by (repeat' (first | exact trivial | exact rfl | exact x2 | exact fun _ => x2 | exact x1 | refine And.intro ?_ ?_))) (by repeat' (first | exact trivial | exact rfl | refine And.intro ?_ ?_)) rfl rfl
    | false =>
      have hs : fit a.text = t := by rw [← htt, daS, if_neg (by rw [hw]; decide)]
      rw [hs] at hft
      refine rn [(24, .dec true), (26, .ret (.t (.c (.s t)))), (29, .ret (.t (.c (iT ((2 : Nat) : Int))))), (30, .dec false), (64, .dec false), (88, .dec true), (93, .spec ⟨.t (.c (iT (drE W a.n))), [], [(0, some (.ab (dP S (wdel a.n W) last b)))], []⟩), (97, .spec ⟨.t (.c (iT (drE W a.n))), [], [(1, some (.ab (rdP S (wdel a.n W) last b')))], []⟩)] rfl
        (by (repeat' (first | exact trivial | exact rfl | exact am6 | exact fun _ => am6 | first | exact hft | exact hP _ _ rfl | exact hR _ _ rfl | exact x1 | exact x2 | (rw [hw]; rfl) | decide | refine And.intro ?_ ?_))) ?_
      exact retM tysOk [] rfl (by (repeat' (first | exact trivial | exact rfl | exact x2 | exact fun _ => x2 | exact x1 | refine And.intro ?_ ?_))) (by repeat' (first | exact trivial | exact rfl | refine And.intro ?_ ?_)) rfl rfl
  · have hP := fun (H : HL) (nx : Nat) (h : lookH H 0 = some (true, .ab (dP S W last b))) => layA (nx := nx) h a.pl t
    have hR := fun (H : HL) (nx : Nat) (h : lookH H 1 = some (true, .ab (rdP S W last b'))) => rlayA (nx := nx) h a.pl t
    have x1 : (wrE S.length a.pl t == wrE S.length a.pl t) = true := beq_self_eq_true _
    have x2 := x1
    cases hw : a.raw with
    | true =>
      have hs : a.text = t := by rw [← htt, daS, if_pos hw]
      rw [hs] at hft
      rw [← hs] at hP hR x1 x2 ⊢
      refine rn [(24, .dec false), (29, .ret (.t (.c (iT ((3 : Nat) : Int))))), (30, .dec false), (64, .dec false), (88, .dec false), (99, .dec true), (105, .spec ⟨.t (.c (iT (wrE S.length a.pl a.text))), [], [(0, some (.ab (dP (layS S a.pl a.text) W last b)))], []⟩), (110, .spec ⟨.t (.c (iT (wrE S.length a.pl a.text))), [], [(1, some (.ab (rdP (layS S a.pl a.text) W last b')))], []⟩)] rfl
        (by (repeat' (first | exact trivial | exact rfl | exact am6 | exact fun _ => am6 | first | exact hft | exact hP _ _ rfl | exact hR _ _ rfl | exact x1 | exact x2 | (rw [hw]; rfl) | decide | refine And.intro ?_ ?_))) ?_
      exact retM tysOk [] rfl (by (repeat' (first | exact trivial | exact rfl | exact x2 | exact fun _ => x2 | exact x1 | refine And.intro ?_ ?_))) (by repeat' (first | exact trivial | exact rfl | refine And.intro ?_ ?_)) rfl rfl
    | false =>
      have hs : fit a.text = t := by rw [← htt, daS, if_neg (by rw [hw]; decide)]
      rw [hs] at hft
      refine rn [(24, .dec true), (26, .ret (.t (.c (.s t)))), (29, .ret (.t (.c (iT ((3 : Nat) : Int))))), (30, .dec false), (64, .dec false), (88, .dec false), (99, .dec true), (105, .spec ⟨.t (.c (iT (wrE S.length a.pl t))), [], [(0, some (.ab (dP (layS S a.pl t) W last b)))], []⟩), (110, .spec ⟨.t (.c (iT (wrE S.length a.pl t))), [], [(1, some (.ab (rdP (layS S a.pl t) W last b')))], []⟩)] rfl
        (by (repeat' (first | exact trivial | exact rfl | exact am6 | exact fun _ => am6 | first | exact hft | exact hP _ _ rfl | exact hR _ _ rfl | exact x1 | exact x2 | (rw [hw]; rfl) | decide | refine And.intro ?_ ?_))) ?_
      exact retM tysOk [] rfl (by (repeat' (first | exact trivial | exact rfl | exact x2 | exact fun _ => x2 | exact x1 | refine And.intro ?_ ?_))) (by repeat' (first | exact trivial | exact rfl | refine And.intro ?_ ?_)) rfl rfl
  · have hP := fun (H : HL) (nx : Nat) (h : lookH H 0 = some (true, .ab (dP S W last b))) => raiseD (nx := nx) h ok a.node a.ep
    have hR := fun (H : HL) (nx : Nat) (h : lookH H 1 = some (true, .ab (rdP S W last b'))) => rraiseA (nx := nx) h two ok.sz a.node a.ep
    have x1 : (rsE S a.node a.ep == rsE S a.node a.ep) = true := beq_self_eq_true _
    have x2 := x1
    cases hw : a.raw with
    | true =>
      have hs : a.text = t := by rw [← htt, daS, if_pos hw]
      rw [hs] at hft
      refine rn [(24, .dec false), (29, .ret (.t (.c (iT ((4 : Nat) : Int))))), (30, .dec false), (64, .dec false), (88, .dec false), (99, .dec false), (112, .dec true), (119, .spec ⟨.t (.c (iT (rsE S a.node a.ep))), [], [(0, some (.ab (dP (rsS S a.node a.ep) W last b)))], []⟩), (125, .spec ⟨.t (.c (iT (rsE S a.node a.ep))), [], [(1, some (.ab (rdP (rsS S a.node a.ep) W last b')))], []⟩)] rfl
        (by (repeat' (first | exact trivial | exact rfl | exact am6 | exact fun _ => am6 | first | exact hft | exact hP _ _ rfl | exact hR _ _ rfl | exact x1 | exact x2 | (rw [hw]; rfl) | decide | refine And.intro ?_ ?_))) ?_
      exact retM tysOk [] rfl (by (repeat' (first | exact trivial | exact rfl | exact x2 | exact fun _ => x2 | exact x1 | refine And.intro ?_ ?_))) (by repeat' (first | exact trivial | exact rfl | refine And.intro ?_ ?_)) rfl rfl
    | false =>
      have hs : fit a.text = t := by rw [← htt, daS, if_neg (by rw [hw]; decide)]
      rw [hs] at hft
      refine rn [(24, .dec true), (26, .ret (.t (.c (.s t)))), (29, .ret (.t (.c (iT ((4 : Nat) : Int))))), (30, .dec false), (64, .dec false), (88, .dec false), (99, .dec false), (112, .dec true), (119, .spec ⟨.t (.c (iT (rsE S a.node a.ep))), [], [(0, some (.ab (dP (rsS S a.node a.ep) W last b)))], []⟩), (125, .spec ⟨.t (.c (iT (rsE S a.node a.ep))), [], [(1, some (.ab (rdP (rsS S a.node a.ep) W last b')))], []⟩)] rfl
        (by (repeat' (first | exact trivial | exact rfl | exact am6 | exact fun _ => am6 | first | exact hft | exact hP _ _ rfl | exact hR _ _ rfl | exact x1 | exact x2 | (rw [hw]; rfl) | decide | refine And.intro ?_ ?_))) ?_
      exact retM tysOk [] rfl (by (repeat' (first | exact trivial | exact rfl | exact x2 | exact fun _ => x2 | exact x1 | refine And.intro ?_ ?_))) (by repeat' (first | exact trivial | exact rfl | refine And.intro ?_ ?_)) rfl rfl
  · have hP := fun (H : HL) (nx : Nat) (h : lookH H 0 = some (true, .ab (dP S W last b))) => swapA (nx := nx) h ok a.node a.ep a.pl (a.wo, a.wb) (a.no, a.nb) (by show a.wb.size ≤ _; omega) (by show a.nb.size ≤ _; omega)
    have hR := fun (H : HL) (nx : Nat) (h : lookH H 1 = some (true, .ab (rdP S W last b'))) => rswapA (nx := nx) h two ok.sz a.node a.ep a.pl (a.wo, a.wb) (a.no, a.nb) (by show a.wb.size ≤ _; omega) (by show a.nb.size ≤ _; omega)
    have x1 : (swB S a.node a.ep a.pl (a.wo, a.wb) (a.no, a.nb) == swB S a.node a.ep a.pl (a.wo, a.wb) (a.no, a.nb)) = true := beq_self_eq_true _
    have x2 : (swE S a.node a.ep a.pl (a.wo, a.wb) (a.no, a.nb) == swE S a.node a.ep a.pl (a.wo, a.wb) (a.no, a.nb)) = true := beq_self_eq_true _
    cases hw : a.raw with
    | true =>
      have hs : a.text = t := by rw [← htt, daS, if_pos hw]
      rw [hs] at hft
      refine rn [(24, .dec false), (29, .ret (.t (.c (iT ((5 : Nat) : Int))))), (30, .dec false), (64, .dec false), (88, .dec false), (99, .dec false), (112, .dec false), (139, .spec ⟨.tup [.c (.b (swB S a.node a.ep a.pl (a.wo, a.wb) (a.no, a.nb))), .c (iT (swE S a.node a.ep a.pl (a.wo, a.wb) (a.no, a.nb)))], [], [(0, some (.ab (dP (swS S a.node a.ep a.pl (a.wo, a.wb) (a.no, a.nb)) W last b)))], []⟩), (154, .spec ⟨.tup [.c (.b (swB S a.node a.ep a.pl (a.wo, a.wb) (a.no, a.nb))), .c (iT (swE S a.node a.ep a.pl (a.wo, a.wb) (a.no, a.nb)))], [], [(1, some (.ab (rdP (swS S a.node a.ep a.pl (a.wo, a.wb) (a.no, a.nb)) W last b')))], []⟩), (160, .dec true)] rfl
        (by (repeat' (first | exact trivial | exact rfl | exact am6 | exact fun _ => am6 | first | exact hft | exact hP _ _ rfl | exact hR _ _ rfl | exact x1 | exact x2 | (rw [hw]; rfl) | decide | refine And.intro ?_ ?_))) ?_
      exact retM tysOk [] rfl (by (repeat' (first | exact trivial | exact rfl | exact x2 | exact fun _ => x2 | exact x1 | refine And.intro ?_ ?_))) (by repeat' (first | exact trivial | exact rfl | refine And.intro ?_ ?_)) rfl rfl
    | false =>
      have hs : fit a.text = t := by rw [← htt, daS, if_neg (by rw [hw]; decide)]
      rw [hs] at hft
      refine rn [(24, .dec true), (26, .ret (.t (.c (.s t)))), (29, .ret (.t (.c (iT ((5 : Nat) : Int))))), (30, .dec false), (64, .dec false), (88, .dec false), (99, .dec false), (112, .dec false), (139, .spec ⟨.tup [.c (.b (swB S a.node a.ep a.pl (a.wo, a.wb) (a.no, a.nb))), .c (iT (swE S a.node a.ep a.pl (a.wo, a.wb) (a.no, a.nb)))], [], [(0, some (.ab (dP (swS S a.node a.ep a.pl (a.wo, a.wb) (a.no, a.nb)) W last b)))], []⟩), (154, .spec ⟨.tup [.c (.b (swB S a.node a.ep a.pl (a.wo, a.wb) (a.no, a.nb))), .c (iT (swE S a.node a.ep a.pl (a.wo, a.wb) (a.no, a.nb)))], [], [(1, some (.ab (rdP (swS S a.node a.ep a.pl (a.wo, a.wb) (a.no, a.nb)) W last b')))], []⟩), (160, .dec true)] rfl
        (by (repeat' (first | exact trivial | exact rfl | exact am6 | exact fun _ => am6 | first | exact hft | exact hP _ _ rfl | exact hR _ _ rfl | exact x1 | exact x2 | (rw [hw]; rfl) | decide | refine And.intro ?_ ?_))) ?_
      exact retM tysOk [] rfl (by (repeat' (first | exact trivial | exact rfl | exact x2 | exact fun _ => x2 | exact x1 | refine And.intro ?_ ?_))) (by repeat' (first | exact trivial | exact rfl | refine And.intro ?_ ?_)) rfl rfl
  · omega
end
end Cw
