/- TopTakes: a side of the file system of {1, 2, 9} whose changes all lie in the map of blocks. -/
import Derived.Test.YtclcibpghonidaaGreatDoorTop
import Derived.Lib.IndexLaws
import Derived.Test.YtclcibpghonidaaGreatDoorSoft5
namespace Cw
open Go Vc
open Go.Proofs
set_option maxRecDepth 100000
theorem g129 : Gok 1 2 9 := by decide
theorem fZ129 : fZ 1 2 9 = 16 := by decide
def sT (R : List Ch) : List ByteArray := (fmtL 1 2 9).set 4 (S (dkB R 4))
theorem sT_len (R : List Ch) : (sT R).length = 16 := by rw [sT, List.length_set, fmtL_len g129, fZ129]
theorem sT_four (R : List Ch) : (sT R)[4]? = some (S (dkB R 4)) := by rw [sT, List.getElem?_set_self (by rw [fmtL_len g129, fZ129]; decide)]
theorem sOf_four (R : List Ch) : (sOf R)[4]? = some (S (dkB R 4)) := by
  have h : 4 < (sOf R).length := by rw [sOf_len]; decide
  rw [List.getElem?_eq_getElem h, sOf_at, if_neg (by decide)]
  rfl
theorem sT_ext {R R' : List Ch} (h : sOf R' = sOf R) : sT R' = sT R := by
  have h1 := sOf_four R'
  rw [h, sOf_four R] at h1
  have h2 : S (dkB R 4) = S (dkB R' 4) := Option.some.inj h1
  rw [sT, sT, h2]
theorem rd_ofT {R : List Ch} {k : Int} (hk : k = 4) : rdT (sT R) k = S (dkB R k) := by
  subst hk
  have h0 : inS (sT R).length 4 = true := inS_iff.2 (by rw [sT_len]; omega)
  rw [rdT, if_pos h0, List.getD_eq_getElem?_getD]
  show ((sT R)[4]?).getD _ = _
  rw [sT_four]
  rfl
theorem rdE_ofT {R : List Ch} {k : Int} (hk : k = 4) : rdE (sT R).length k = 0 := if_pos (inS_iff.2 (by rw [sT_len]; omega))
theorem s1_ofT (R : List Ch) : s1 (sT R) = wallB 0 0 := by
  rw [s1, sT, List.getD_eq_getElem?_getD, List.getElem?_set_ne (by decide), ← List.getD_eq_getElem?_getD]
  exact (fmt_tb g129).w
theorem SfOk.diskT {R : List Ch} {fly : List (Int × Int)} {last node : Int} (h : SfOk R fly last) : DOk 16 (sT R) (wOf node R fly) last where
  len := sT_len R
  two := by decide
  sz := mem_set_sz (fmtL_size g129) (sz_S (dkB_len R 4))
  pl := fun p hp => by have := inS_iff.1 (h.disk.pl p hp); exact inS_iff.2 (by omega)
  ws := h.disk.ws
  key := h.disk.key
  le := h.disk.le
  l0 := (h.disk (node := node)).l0
theorem secs_four {R : List Ch} (h : ∀ c ∈ R, c.at' = 4) : ∀ k ∈ secs (und R), k = 4 := fun k hk => by
  obtain ⟨⟨c, hc, h1⟩, _⟩ := secs_mem.1 hk
  rw [← h1]
  exact h c (List.mem_filter.1 hc).1
/-- The disk of a side. -/
abbrev dkQ (x : SS) (node : Int) (bk : Nat) : AbP := dP (sT x.R) (wOf node x.R x.fly) x.last bk
section
variable {H : HL} {nx d s q b bd bk : Nat} {b1 : Bool} {V : DV} {W : WW} {R : List Ch} {fly : List (Int × Int)} {last node : Int}
set_option maxRecDepth 100000 in
set_option maxHeartbeats 8000000 in
/-- A sector is written out. -/
theorem takWrite0 (hs : lookH H s = some (true, .ab (sfP V W R.length fly node b bd bk))) (hd : lookH H d = some (true, .ab (dkQ ⟨R, fly, last⟩ node bk))) (hsd : s ≠ d) (h : DR V W R) (ok : SOk ⟨R, fly, last⟩) (hl : last ≤ 1000000) (hR : R.length ≤ 500) (hn : node = 0 ∨ node = 1) {k : Int} (hk : k = 4) {x' : SS} (hx : wr1 ⟨R, fly, last⟩ k = x') :
    FnH Tryz.prog 64 [.c (.nm s), .c (iT k)] H nx ⟨.tup [.c (iT (wr1N ⟨R, fly, last⟩ k)), .c (iT (sdE' R k))], [], [(s, some (.ab (sfB x'.R x'.fly node b bd bk))), (d, some (.ab (dkQ x' node bk)))], []⟩ := by
  refine fnAs (fn := Tryz.f64) 77 rfl rfl rfl (args' := [.c (.nm 0), .c (iT k)]) [(s, sfP V W R.length fly node b bd bk, sfB x'.R x'.fly node b bd bk), (d, dkQ ⟨R, fly, last⟩ node bk, dkQ x' node bk)] [] ⟨⟨hs, ptr b, sf_pins _ _ _ _ _ _ _ _, sfB_pins _ _ _ _ _ _⟩, ⟨hd, ptr bk, disk_pins _ _ _ _, disk_pins _ _ _ _⟩, trivial⟩ trivial (by simp [hsd]) rfl rfl rfl rfl (v' := .tup [.c (iT (wr1N ⟨R, fly, last⟩ k)), .c (iT (sdE' R k))]) (news' := []) rfl rfl rfl rfl rfl fun w Wh => ?_
  subst hx
  refine At.unfoldTo 0 (L1 := (0, .t (.c (.p 2 0))) :: [(1, .t (.c (iT k)))]) (H1 := [(2, some (true, .cells [.nm 3, .p 6 0, iT node, iT 0, .mp 5] 79)), (3, some (true, .ab (depP V (R.length : Nat) bd))), (4, some (true, .ab (frzP W))), (5, some (true, .mp (gm iV fly))), (6, some (false, .pin 6 bk)), (7, some (false, .pin 2 b)), (0, none), (0, some (true, .ab (sfP V W R.length fly node b bd bk))), (1, some (true, .ab (dkQ ⟨R, fly, last⟩ node bk)))]) (nx1 := 8) rfl rfl rfl rfl rfl rfl ?_
  have hr := fun (H : HL) (nx : Nat) (h1 : lookH H 1 = some (true, .ab (dkQ ⟨R, fly, last⟩ node bk))) (h6 : lookH H 6 = some (false, .pin 6 bk)) => fnh_al1 h1 (disk_pins _ _ _ _) h6 (readA (nx := nx) h1 k)
  simp only [rd_ofT hk, rdE_ofT hk] at hr
  have hz := sz_S (dkB_len R k)
  have hi := fun (H : HL) (nx : Nat) (h3 : lookH H 3 = some (true, .ab (depP V R.length bd))) (h4 : lookH H 4 = some (true, .ab (frzP W))) => imageP (nx := nx) h3 h4 (by decide) h k (S (dkB R k)) (by omega)
  have hsd' := fun (H : HL) (nx : Nat) (h3 : lookH H 3 = some (true, .ab (depP V R.length bd))) (h4 : lookH H 4 = some (true, .ab (frzP W))) => sendP (nx := nx) h3 h4 (by decide) h k
  have hdr' := h.send k
  obtain ⟨im1, im2⟩ := SfOk.image ok (by show R.length ≤ 1000; omega) (k := k)
  rw [im1, im2] at hi
  generalize sdV V k = V' at *
  by_cases hc : wrCn ⟨R, fly, last⟩ k
  · have e1 : sdE' R k = 0 := sdE_yes hc
    have e2 : sdL' R k = rdyN R k := by rw [sdL', hc.1]; rfl
    have e3 : sdR R k = setN (rdyN R k) 2 R := by rw [sdR, hc.1]; rfl
    have e4 : wr1N ⟨R, fly, last⟩ k = last + 1 := if_pos hc
    have e5 := wr1_yes hc
    rw [e1, e2] at hsd'
    rw [e3] at hdr'
    rw [e1, e4, e5]
    simp only
    obtain ⟨s1', s2', s3'⟩ := SfOk.send (node := node) ok hc.1 hc.2
    have s2' := sT_ext s2'
    have hlen : (setN (rdyN R k) 2 R).length = R.length := setN_len _ _ _
    have hfl : flB (setN (rdyN R k) 2 R) k = imgB (rdyL R k) (dkB R k) := (dk_send ok.dep hc.1 hc.2).2.1
    have e6 : dP (sT R) (wOf node R fly ++ [(last + 1, ⟨node, 0, k, S (imgB (rdyL R k) (dkB R k))⟩)]) (last + 1) bk = dkQ ⟨setN (rdyN R k) 2 R, fly ++ [(last + 1, k)], last + 1⟩ node bk := by
      have : wOf node (setN (rdyN R k) 2 R) (fly ++ [(last + 1, k)]) = wOf node R fly ++ [(last + 1, ⟨node, 0, k, S (imgB (rdyL R k) (dkB R k))⟩)] := by
        rw [← s3', wOf, List.map_append, ← wOf]
        show _ ++ [(last + 1, (⟨node, 0, k, S (flB (setN (rdyN R k) 2 R) k)⟩ : Cw.Wr))] = _
        rw [hfl]
      simp only [dkQ]
      rw [s2', this]
    have hdk := SfOk.diskT (node := node) ok
    have h1n : 0 ≤ node ∧ node < 2 ∧ (0 : Int) ≤ 0 ∧ (0 : Int) ≤ 4294967295 := by omega
    have hzi : (S (imgB (rdyL R k) (dkB R k))).size = 64 := sz_S (by rw [imgB_len, dkB_len])
    have hwl : (wOf node R fly).length < 1024 := by
      have hf : fly.length ≤ 8 := SfOk.flen ok
      simp [wOf]; omega
    have he0 : isuE (sT R) (wOf node R fly) node 0 k (S (imgB (rdyL R k) (dkB R k))) = 0 := by
      rw [isuE_ok hdk h1n (inS_iff.2 (by omega)) hzi hwl, s1_ofT, psD_wall (by decide) (by decide) node 0 hn]
      rcases hn with rfl | rfl <;> rfl
    have hiss := fun (H : HL) (nx : Nat) (h1 : lookH H 1 = some (true, .ab (dkQ ⟨R, fly, last⟩ node bk))) (h6 : lookH H 6 = some (false, .pin 6 bk)) => fnh_al1 h1 (disk_pins _ _ _ _) h6 (issueOk (nx := nx) h1 hdk hl he0)
    simp only [e6] at hiss
    have hmp := gm_put (vv := iV) (k := last + 1) (x := k) (W := fly) fun p hp => by have := (ok.le p hp).2; simp only at this; omega
    have hl0 : 0 ≤ last := SfOk.l0 ok
    have m1 : -9223372036854775808 ≤ last + 1 := by omega
    have m2 : last + 1 ≤ 9223372036854775807 := by omega
    refine rn [(15, .spec ⟨.tup [.c (.s (S (dkB R k))), .c (iT 0)], [], [(1, some (.ab (dkQ ⟨R, fly, last⟩ node bk)))], []⟩), (19, .dec false), (28, .spec ⟨.tup [.c (.s (S (imgB (rdyL R k) (dkB R k)))), .c (iT 0)], [], [(3, some (.ab (depP V R.length bd)))], []⟩), (37, .spec ⟨.tup [.c (.nm 8), .c (iT 0)], [(true, .own 3 1 (rdyN R k).length (ivs (rdyN R k)))], [(3, some (.ab (depP V' R.length bd)))], []⟩), (41, .dec false), (58, .spec ⟨.tup [.c (iT (last + 1)), .c (iT 0)], [], [(1, some (.ab (dkQ ⟨setN (rdyN R k) 2 R, fly ++ [(last + 1, k)], last + 1⟩ node bk)))], []⟩), (30058, .dec true), (62, .dec false)] rfl
      (by (repeat' (first | exact trivial | exact rfl | exact trivial | exact fun _ => trivial | first | exact hr _ _ rfl rfl | exact hi _ _ rfl rfl | exact hsd' _ _ rfl rfl | exact hiss _ _ rfl rfl | exact m1 | exact m2 | exact ⟨m1, m2⟩ | rfl | decide | refine And.intro ?_ ?_))) ?_
    refine Done.fold [(0, 2), (1, 3), (2, 4), (3, 5), (4, 6), (5, 7)] (sfO V' W R.length (fly ++ [(last + 1, k)]) node b bd bk) (.p 0 0) (by (repeat' (first | exact trivial | exact rfl | exact hmp | exact fun _ => hmp | refine And.intro ?_ ?_))) rfl rfl (fun _ => rfl) ?_
    refine Done.weak 9 (φ' := sfB (setN (rdyN R k) 2 R) (fly ++ [(last + 1, k)]) node b bd bk) rfl (sfB_st _ _ _ _ _ _) (fun v F w hh => sfB_of hdr' v F w (by rw [hlen]; exact hh)) ?_
    exact retM tysOk [(0, 9), (1, 1)] rfl (by repeat' (first | exact trivial | exact rfl | refine And.intro ?_ ?_)) (by repeat' (first | exact trivial | exact rfl | refine And.intro ?_ ?_)) rfl rfl
  · have e4 : wr1N ⟨R, fly, last⟩ k = 0 := if_neg hc
    have e3 : sdR R k = R := by
      unfold sdR
      split
      · rename_i h0
        have : rdyN R k = [] := Classical.byContradiction fun hne => hc ⟨List.length_eq_zero_iff.1 h0, hne⟩
        rw [this, setN_nil']
      · rfl
    have e5 := wr1_no hc
    have g1 : decide (sdE' R k = 0) = false := by rcases sdE_no hc with e | e <;> (show decide (sdE' R k = 0) = false) <;> (have e' : sdE' R k = _ := e) <;> rw [e'] <;> rfl
    have g2 : (!(sdE' R k == 0)) = true := by rcases sdE_no hc with e | e <;> (have e' : sdE' R k = _ := e) <;> rw [e'] <;> rfl
    rw [e3] at hdr'
    rw [e4, e5]
    generalize sdL' R k = lx at *
    generalize sdE' R k = ex at *
    refine rn [(15, .spec ⟨.tup [.c (.s (S (dkB R k))), .c (iT 0)], [], [(1, some (.ab (dkQ ⟨R, fly, last⟩ node bk)))], []⟩), (19, .dec false), (28, .spec ⟨.tup [.c (.s (S (imgB (rdyL R k) (dkB R k)))), .c (iT 0)], [], [(3, some (.ab (depP V R.length bd)))], []⟩), (37, .spec ⟨.tup [.c (.nm 8), .c (iT ex)], [(true, .own 3 1 lx.length (ivs lx))], [(3, some (.ab (depP V' R.length bd)))], []⟩), (41, .dec true)] rfl
      (by (repeat' (first | exact trivial | exact rfl | exact trivial | exact fun _ => trivial | first | exact hr _ _ rfl rfl | exact hi _ _ rfl rfl | exact hsd' _ _ rfl rfl | exact g2 | rfl | decide | refine And.intro ?_ ?_))) ?_
    refine Done.fold [(0, 2), (1, 3), (2, 4), (3, 5), (4, 6), (5, 7)] (sfO V' W R.length fly node b bd bk) (.p 0 0) (by (repeat' (first | exact trivial | exact rfl | exact trivial | exact fun _ => trivial | refine And.intro ?_ ?_))) rfl rfl (fun _ => rfl) ?_
    refine Done.weak 9 (φ' := sfB R fly node b bd bk) rfl (sfB_st _ _ _ _ _ _) (sfB_of hdr') ?_
    exact retM tysOk [(0, 9), (1, 1)] rfl (by repeat' (first | exact trivial | exact rfl | refine And.intro ?_ ?_)) (by repeat' (first | exact trivial | exact rfl | refine And.intro ?_ ?_)) rfl rfl
theorem takWrite (hs : lookH H s = some (true, .ab (sfB R fly node b bd bk))) (hd : lookH H d = some (true, .ab (dkQ ⟨R, fly, last⟩ node bk))) (hsd : s ≠ d) (ok : SOk ⟨R, fly, last⟩) (hl : last ≤ 1000000) (hR : R.length ≤ 500) (hn : node = 0 ∨ node = 1) {k : Int} (hk : k = 4) :
    FnH Tryz.prog 64 [.c (.nm s), .c (iT k)] H nx ⟨.tup [.c (iT (wr1N ⟨R, fly, last⟩ k)), .c (iT (sdE' R k))], [], [(s, some (.ab (sfB (wr1 ⟨R, fly, last⟩ k).R (wr1 ⟨R, fly, last⟩ k).fly node b bd bk))), (d, some (.ab (dkQ (wr1 ⟨R, fly, last⟩ k) node bk)))], []⟩ :=
  fnh_ex2 hs (fun _ => absP_stable _ _) fun x => takWrite0 look_eq ((look_ne hsd).trans hd) hsd x.2 ok hl hR hn hk rfl
set_option maxRecDepth 100000 in
set_option maxHeartbeats 4000000 in
/-- All is written out that may be. -/
theorem takWriteAll0 (hs : lookH H s = some (true, .ab (sfP V W R.length fly node b bd bk))) (hd : lookH H d = some (true, .ab (dkQ ⟨R, fly, last⟩ node bk))) (hsd : s ≠ d) (h : DR V W R) (ok : SOk ⟨R, fly, last⟩) (h4 : ∀ c ∈ R, c.at' = 4) (hl : last ≤ 100000) (hR : R.length ≤ 500) (hn : node = 0 ∨ node = 1) {x' : SS} (hx : wrA ⟨R, fly, last⟩ (secs (und R)) = x') {out : List Int} (ho : woA ⟨R, fly, last⟩ (secs (und R)) = out) :
    FnH Tryz.prog 23 [.c (.nm s)] H nx ⟨.t (.c (.nm nx)), [(true, .own 3 1 out.length (ivs out))], [(s, some (.ab (sfB x'.R x'.fly node b bd bk))), (d, some (.ab (dkQ x' node bk)))], []⟩ := by
  refine fnAs (fn := Tryz.f23) 32 rfl rfl rfl (args' := [.c (.nm 0)]) [(s, sfP V W R.length fly node b bd bk, sfB x'.R x'.fly node b bd bk), (d, dkQ ⟨R, fly, last⟩ node bk, dkQ x' node bk)] [] ⟨⟨hs, ptr b, sf_pins _ _ _ _ _ _ _ _, sfB_pins _ _ _ _ _ _⟩, ⟨hd, ptr bk, disk_pins _ _ _ _, disk_pins _ _ _ _⟩, trivial⟩ trivial (by simp [hsd]) rfl rfl rfl rfl (v' := .t (.c (.nm 2))) (news' := [(true, .own 3 1 out.length (ivs out))]) rfl rfl rfl rfl rfl fun w Wh => ?_
  have hin := secs_four h4
  have hsl := secs_le (x := ⟨R, fly, last⟩)
  have hsc := fun (H : HL) (nx : Nat) (h3 : lookH H 3 = some (true, .ab (depP V R.length bd))) (h4 : lookH H 4 = some (true, .ab (frzP W))) => sectorsP (nx := nx) h3 h4 (by decide) h
  simp only at hsl
  generalize secs (und R) = ks at *
  refine At.unfoldTo 0 (L1 := (0, .t (.c (.p 2 0))) :: []) (H1 := [(2, some (true, .cells [.nm 3, .p 6 0, iT node, iT 0, .mp 5] 79)), (3, some (true, .ab (depP V (R.length : Nat) bd))), (4, some (true, .ab (frzP W))), (5, some (true, .mp (gm iV fly))), (6, some (false, .pin 6 bk)), (7, some (false, .pin 2 b)), (0, none), (0, some (true, .ab (sfP V W R.length fly node b bd bk))), (1, some (true, .ab (dkQ ⟨R, fly, last⟩ node bk)))]) (nx1 := 8) rfl rfl rfl rfl rfl rfl ?_
  refine rn [(12, .spec ⟨.t (.c (.nm 8)), [(true, .own 3 1 ks.length (ivs ks))], [(3, some (.ab (depP V R.length bd)))], []⟩)] rfl (by (repeat' (first | exact trivial | exact rfl | exact trivial | exact fun _ => trivial | first | exact hsc _ _ rfl rfl | rfl | decide | refine And.intro ?_ ?_))) ?_
  refine At.foldR 0 (.p 2 0) [(0, 2), (1, 3), (2, 4), (3, 5), (4, 6), (5, 7)] (sfO V W R.length fly node b bd bk) (.p 0 0) rfl (by repeat' (first | exact trivial | exact rfl | refine And.intro ?_ ?_)) (by repeat' (first | exact trivial | exact rfl | refine And.intro ?_ ?_)) rfl rfl (fun _ => rfl) ?_
  refine At.weak 9 (φ' := sfB R fly node b bd bk) rfl (sfB_st _ _ _ _ _ _) (sfB_of h) ?_
  refine At.nil 3 3 1 rfl ?_
  refine At.loop (X := (i : Nat) ×' (i ≤ ks.length)) 11 (fun x => ks.length - x.1)
    (fun x => [(0, .t (.c (.nm 9))), (3, .t (.c (.nm 10))), (12, .t (.c (.nm 8))), (13, .t (.c (iT (ks.length : Nat)))), (14, .t (.c (iT (x.1 : Nat))))])
    (fun x => [(1, some (true, .ab (dkQ (wrA ⟨R, fly, last⟩ (ks.take x.1)) node bk))), (8, some (true, .own 3 1 ks.length (ivs ks))), (9, some (true, .ab (sfB (wrA ⟨R, fly, last⟩ (ks.take x.1)).R (wrA ⟨R, fly, last⟩ (ks.take x.1)).fly node b bd bk))), (10, some (true, .own 3 1 (woA ⟨R, fly, last⟩ (ks.take x.1)).length (ivs (woA ⟨R, fly, last⟩ (ks.take x.1)))))]) ⟨0, by omega⟩ [] (fun x => wf rfl rfl) (by repeat' (first | exact trivial | exact rfl | refine And.intro ?_ ?_)) (by (repeat' (first | exact trivial | exact rfl | exact trivial | exact fun _ => trivial | first | rfl | (show _ = ivs (woA ⟨R, fly, last⟩ []); simp [woA, wrA, ivs]) | (show _ = (woA ⟨R, fly, last⟩ []).length; simp [woA, wrA]) | refine And.intro ?_ ?_))) rfl fun x => ?_
  obtain ⟨i, hi⟩ := x
  have w3 : IntKind.i64.wrap ((i : Int) + 1) = ((i + 1 : Nat) : Int) := by rw [wrap_sm (by omega) (by omega)]; omega
  have oki : SOk (wrA ⟨R, fly, last⟩ (ks.take i)) := SOk.wA (x := ⟨R, fly, last⟩) ok _
  have hli := wrA_last (ks.take i) ⟨R, fly, last⟩
  have hRi := wrA_len (ks.take i) ⟨R, fly, last⟩
  have hoi := woA_le ⟨R, fly, last⟩ (ks.take i)
  rw [List.length_take] at hli hoi
  refine rn [] rfl (by repeat' (first | exact trivial | exact rfl | refine And.intro ?_ ?_)) ?_
  refine ⟨fun h => ?_, fun h => ?_⟩
  · have hlt : i < ks.length := by have : (i : Int) < (ks.length : Int) := of_decide_eq_true h; omega
    clear h
    have e1 : (ivs ks)[(i : Int).toNat * 1]? = some (.int .i64 ks[i]) := by simpa using ivs_at hlt
    have b0 : (0 : Int) ≤ (i : Int) := by omega
    have b1 : (i : Int) < (ks.length : Int) := by omega
    have ht : ks.take (i + 1) = ks.take i ++ [ks[i]] := List.take_succ_eq_append_getElem hlt
    have hw2 : wrA ⟨R, fly, last⟩ (ks.take (i + 1)) = wr1 (wrA ⟨R, fly, last⟩ (ks.take i)) ks[i] := by rw [ht, wrA_snoc]
    have ho2 := woA_snoc ⟨R, fly, last⟩ (ks.take i) ks[i]
    rw [← ht] at ho2
    have hki := hin _ (List.getElem_mem hlt)
    have hyl : (wrA ⟨R, fly, last⟩ (ks.take i)).last ≤ 1000000 := by simp only at hli; omega
    have hyR : (wrA ⟨R, fly, last⟩ (ks.take i)).R.length ≤ 500 := by rw [hRi]; exact hR
    have hwr := fun (H : HL) (nx : Nat) (h9 : lookH H 9 = some (true, .ab (sfB (wrA ⟨R, fly, last⟩ (ks.take i)).R (wrA ⟨R, fly, last⟩ (ks.take i)).fly node b bd bk))) (h1 : lookH H 1 = some (true, .ab (dkQ (wrA ⟨R, fly, last⟩ (ks.take i)) node bk))) => takWrite (nx := nx) (R := (wrA ⟨R, fly, last⟩ (ks.take i)).R) (fly := (wrA ⟨R, fly, last⟩ (ks.take i)).fly) (last := (wrA ⟨R, fly, last⟩ (ks.take i)).last) h9 h1 (by decide) oki hyl hyR hn hki
    generalize hy : wrA ⟨R, fly, last⟩ (ks.take i) = y at *
    obtain ⟨yR, yf, yl⟩ := y
    generalize woA ⟨R, fly, last⟩ (ks.take i) = w0 at *
    have m1 : w0.length + 1 ≤ maxLen := by simp only [maxLen]; omega
    have m2 : (w0.length + 1) * 8 ≤ 140737488355328 := by omega
    by_cases hc : wrCn ⟨yR, yf, yl⟩ ks[i]
    · rw [if_pos hc] at ho2
      have e2 : sdE' yR ks[i] = 0 := sdE_yes hc
      have e3 : wr1N ⟨yR, yf, yl⟩ ks[i] = yl + 1 := if_pos hc
      rw [e2, e3] at hwr
      refine rn [(17, .ld [iT ks[i]]), (21, .spec ⟨.tup [.c (iT (yl + 1)), .c (iT 0)], [], [(9, some (.ab (sfB (wr1 ⟨yR, yf, yl⟩ ks[i]).R (wr1 ⟨yR, yf, yl⟩ ks[i]).fly node b bd bk))), (1, some (.ab (dkQ (wr1 ⟨yR, yf, yl⟩ ks[i]) node bk)))], []⟩), (25, .dec true)] rfl (by (repeat' (first | exact trivial | exact rfl | exact trivial | exact fun _ => trivial | first | exact hwr _ _ rfl rfl | exact e1 | exact ⟨e1, trivial⟩ | exact b0 | exact b1 | exact m1 | exact m2 | rfl | decide | refine And.intro ?_ ?_))) ?_
      refine roundEnd ⟨i + 1, by omega⟩ [(10, 12)] (by show ks.length - (i + 1) < ks.length - i; omega) (by (repeat' (first | exact trivial | exact rfl | exact w3 | exact fun _ => w3 | refine And.intro ?_ ?_))) ?_ rfl
      rw [hw2, ho2]
      repeat' (first | exact trivial | exact rfl | refine And.intro ?_ ?_)
      · simp
      · rw [ivsApp, app_eq]; rfl
    · rw [if_neg hc] at ho2
      have e4 : decide (sdE' yR ks[i] = 0) = false := by rcases sdE_no hc with e | e <;> (show decide (sdE' yR ks[i] = 0) = false) <;> (have e' : sdE' yR ks[i] = _ := e) <;> rw [e'] <;> rfl
      have e5 : (sdE' yR ks[i] == 0) = false := by rcases sdE_no hc with e | e <;> (have e' : sdE' yR ks[i] = _ := e) <;> rw [e'] <;> rfl
      refine rn [(17, .ld [iT ks[i]]), (21, .spec ⟨.tup [.c (iT (wr1N ⟨yR, yf, yl⟩ ks[i])), .c (iT (sdE' yR ks[i]))], [], [(9, some (.ab (sfB (wr1 ⟨yR, yf, yl⟩ ks[i]).R (wr1 ⟨yR, yf, yl⟩ ks[i]).fly node b bd bk))), (1, some (.ab (dkQ (wr1 ⟨yR, yf, yl⟩ ks[i]) node bk)))], []⟩), (25, .dec false)] rfl (by (repeat' (first | exact trivial | exact rfl | exact trivial | exact fun _ => trivial | first | exact hwr _ _ rfl rfl | exact e1 | exact ⟨e1, trivial⟩ | exact b0 | exact b1 | exact e4 | exact e5 | rfl | decide | refine And.intro ?_ ?_))) ?_
      refine roundEnd ⟨i + 1, by omega⟩ [] (by show ks.length - (i + 1) < ks.length - i; omega) (by (repeat' (first | exact trivial | exact rfl | exact w3 | exact fun _ => w3 | refine And.intro ?_ ?_))) ?_ rfl
      rw [hw2, ho2]
      repeat' (first | exact trivial | exact rfl | refine And.intro ?_ ?_)
  · have hlt : i = ks.length := by have : ¬ (i : Int) < (ks.length : Int) := of_decide_eq_false h; omega
    have ht : ks.take i = ks := by rw [hlt, List.take_length]
    rw [ht, hx, ho]
    refine rn [] rfl (by repeat' (first | exact trivial | exact rfl | refine And.intro ?_ ?_)) (roundExit rfl ?_)
    refine rnA [] rfl (by repeat' (first | exact trivial | exact rfl | refine And.intro ?_ ?_)) ?_
    exact retM tysOk [(0, 9), (1, 1), (2, 10)] rfl (by repeat' (first | exact trivial | exact rfl | refine And.intro ?_ ?_)) (by repeat' (first | exact trivial | exact rfl | refine And.intro ?_ ?_)) rfl rfl
theorem takWriteAll (hs : lookH H s = some (true, .ab (sfB R fly node b bd bk))) (hd : lookH H d = some (true, .ab (dkQ ⟨R, fly, last⟩ node bk))) (hsd : s ≠ d) (ok : SOk ⟨R, fly, last⟩) (h4 : ∀ c ∈ R, c.at' = 4) (hl : last ≤ 100000) (hR : R.length ≤ 500) (hn : node = 0 ∨ node = 1) :
    FnH Tryz.prog 23 [.c (.nm s)] H nx ⟨.t (.c (.nm nx)), [(true, .own 3 1 (woA ⟨R, fly, last⟩ (secs (und R))).length (ivs (woA ⟨R, fly, last⟩ (secs (und R)))))], [(s, some (.ab (sfB (wrA ⟨R, fly, last⟩ (secs (und R))).R (wrA ⟨R, fly, last⟩ (secs (und R))).fly node b bd bk))), (d, some (.ab (dkQ (wrA ⟨R, fly, last⟩ (secs (und R))) node bk)))], []⟩ :=
  fnh_ex2 hs (fun _ => absP_stable _ _) fun x => takWriteAll0 look_eq ((look_ne hsd).trans hd) hsd x.2 ok h4 hl hR hn rfl rfl
set_option maxRecDepth 100000 in
set_option maxHeartbeats 4000000 in
/-- A change with none told ahead. -/
theorem takAdd0 (hs : lookH H s = some (true, .ab (sfP V W R.length fly node b bd bk))) (hd : lookH H d = some (true, .ab (dkQ ⟨R, fly, last⟩ node bk))) (hsd : s ≠ d) (h : DR V W R) (ok : SOk ⟨R, fly, last⟩) (hR : R.length ≤ 500) {k o y : Int} (hk : k = 4) (ho : 0 ≤ o ∧ o < 64) :
    FnH Tryz.prog 125 [.c (.nm s), .c (iT k), .agg [iT o, .s (bt1 y)], .c .nsl] H nx ⟨.tup [.c (iT ((R.length : Int) + 1)), .c (iT 0)], [], [(s, some (.ab (sfB (R ++ [sfC R k o y []]) fly node b bd bk))), (d, some (.ab (dkQ ⟨R ++ [sfC R k o y []], fly, last⟩ node bk)))], []⟩ := by
  obtain ⟨_, w2, w3⟩ := SfOk.plus (node := node) ok (k := k) (o := o) (b := y) (xs := []) (by omega) ho (by simp)
  have w3 := sT_ext w3
  have e6 : dkQ ⟨R ++ [sfC R k o y []], fly, last⟩ node bk = dkQ ⟨R, fly, last⟩ node bk := by
    simp only [dkQ]
    rw [show sT (R ++ [sfC R k o y []]) = sT R from w3, show wOf node (R ++ [sfC R k o y []]) fly = wOf node R fly from w2]
  rw [e6]
  refine fnAs (fn := Tryz.f125) 34 rfl rfl rfl (args' := [.c (.nm 0), .c (iT k), .agg [iT o, .s (bt1 y)], .c .nsl]) [(s, sfP V W R.length fly node b bd bk, sfB (R ++ [sfC R k o y []]) fly node b bd bk), (d, dkQ ⟨R, fly, last⟩ node bk, dkQ ⟨R, fly, last⟩ node bk)] [] ⟨⟨hs, ptr b, sf_pins _ _ _ _ _ _ _ _, sfB_pins _ _ _ _ _ _⟩, ⟨hd, ptr bk, disk_pins _ _ _ _, disk_pins _ _ _ _⟩, trivial⟩ trivial (by simp [hsd]) rfl rfl rfl rfl (v' := .tup [.c (iT ((R.length : Int) + 1)), .c (iT 0)]) (news' := []) rfl rfl rfl rfl rfl fun w Wh => ?_
  refine At.unfoldTo 0 (L1 := (0, .t (.c (.p 2 0))) :: [(1, .t (.c (iT k))), (2, .t (.agg [iT o, .s (bt1 y)])), (3, .t (.c .nsl))]) (H1 := [(2, some (true, .cells [.nm 3, .p 6 0, iT node, iT 0, .mp 5] 79)), (3, some (true, .ab (depP V (R.length : Nat) bd))), (4, some (true, .ab (frzP W))), (5, some (true, .mp (gm iV fly))), (6, some (false, .pin 6 bk)), (7, some (false, .pin 2 b)), (0, none), (0, some (true, .ab (sfP V W R.length fly node b bd bk))), (1, some (true, .ab (dkQ ⟨R, fly, last⟩ node bk)))]) (nx1 := 8) rfl rfl rfl rfl rfl rfl ?_
  have hr := fun (H : HL) (nx : Nat) (h1 : lookH H 1 = some (true, .ab (dkQ ⟨R, fly, last⟩ node bk))) (h6 : lookH H 6 = some (false, .pin 6 bk)) => fnh_al1 h1 (disk_pins _ _ _ _) h6 (readA (nx := nx) h1 k)
  simp only [rd_ofT hk, rdE_ofT hk] at hr
  have hVl := h.le
  have hab : adB R.length k o (bt1 y) V.length [] = 0 := adB_zero (by omega) ho (by simp) (by omega)
  have hadd := fun (H : HL) (nx : Nat) (h3 : lookH H 3 = some (true, .ab (depP V R.length bd))) => addP (nx := nx) h3 SlQ.nil (by simp only [List.length_nil]; omega) (by rw [bt1_size]; decide) h hab
  refine rn [(18, .spec ⟨.tup [.c (.s (S (dkB R k))), .c (iT 0)], [], [(1, some (.ab (dkQ ⟨R, fly, last⟩ node bk)))], []⟩), (22, .dec false), (31, .spec ⟨.tup [.c (iT ((R.length : Int) + 1)), .c (iT 0)], [], [(3, some (.ab (adP V R.length bd (newC (und R) R.length k (o, bt1 y) []))))], []⟩)] rfl (by (repeat' (first | exact trivial | exact rfl | exact trivial | exact fun _ => trivial | first | exact hr _ _ rfl rfl | exact hadd _ _ rfl | rfl | decide | refine And.intro ?_ ?_))) ?_
  refine Done.growP 3 4 rfl rfl (by decide) h hab (by simp only [List.length_nil]; omega) (by rw [bt1_size]; decide) (by omega) rfl fun V' W' hdr' => ?_
  refine Done.fold [(0, 2), (1, 3), (2, 4), (3, 5), (4, 6), (5, 7)] (sfO V' W' (R ++ [sfC R k o y []]).length fly node b bd bk) (.p 0 0) (by repeat' (first | exact trivial | exact rfl | refine And.intro ?_ ?_)) rfl rfl (fun _ => rfl) ?_
  refine Done.weak 9 (φ' := sfB (R ++ [sfC R k o y []]) fly node b bd bk) rfl (sfB_st _ _ _ _ _ _) (sfB_of hdr') ?_
  exact retM tysOk [(0, 9), (1, 1)] rfl (by repeat' (first | exact trivial | exact rfl | refine And.intro ?_ ?_)) (by repeat' (first | exact trivial | exact rfl | refine And.intro ?_ ?_)) rfl rfl
theorem takAdd (hs : lookH H s = some (true, .ab (sfB R fly node b bd bk))) (hd : lookH H d = some (true, .ab (dkQ ⟨R, fly, last⟩ node bk))) (hsd : s ≠ d) (ok : SOk ⟨R, fly, last⟩) (hR : R.length ≤ 500) {k o y : Int} (hk : k = 4) (ho : 0 ≤ o ∧ o < 64) :
    FnH Tryz.prog 125 [.c (.nm s), .c (iT k), .agg [iT o, .s (bt1 y)], .c .nsl] H nx ⟨.tup [.c (iT ((R.length : Int) + 1)), .c (iT 0)], [], [(s, some (.ab (sfB (R ++ [sfC R k o y []]) fly node b bd bk))), (d, some (.ab (dkQ ⟨R ++ [sfC R k o y []], fly, last⟩ node bk)))], []⟩ :=
  fnh_ex2 hs (fun _ => absP_stable _ _) fun x => takAdd0 look_eq ((look_ne hsd).trans hd) hsd x.2 ok hR hk ho
theorem takDone {x : SS} (hd : lookH H d = some (true, .ab (dkQ x node bk))) (ok : SOk x) {n : Int} (hn : (n, 4) ∈ x.fly) (hnd : node = 0 ∨ node = 1) :
    FnH Tryz.prog 24 [.c (.nm d), .c (iT n)] H nx ⟨.tup [.c (.b true), .c (iT 0)], [], [(d, some (.ab (dkQ (dn1 x n 4) node bk)))], []⟩ := by
  have hA := applyD (nx := nx) hd (SfOk.diskT (node := node) ok) n
  have hw := wget_of (node := node) (R := x.R) (gget_of ok.key hn)
  obtain ⟨_, e2, e3⟩ := SfOk.done (node := node) ok hn
  have e4 : dkB (setK 4 0 x.R) 4 = flB x.R 4 := (dk_done ok.dep ok.ov 4).1
  have p0 : psD (s1 (sT x.R)) node 0 = true := by
    rw [s1_ofT, psD_wall (by decide) (by decide) node 0 hnd]
    rcases hnd with rfl | rfl <;> rfl
  have a1 : apB (sT x.R) (wOf node x.R x.fly) n = true := by simp only [apB, hw]; exact p0
  have a2 : apS (sT x.R) (wOf node x.R x.fly) n = sT (setK 4 0 x.R) := by
    simp only [apS, hw, p0, if_true]
    rw [sT, sT, e4]
    exact List.set_set ..
  have a3 : drE (wOf node x.R x.fly) n = 0 := by rw [drE, hw]; rfl
  rw [a1, a2, a3, wdel_of, ← e2] at hA
  exact hA
theorem takLost {x : SS} (hd : lookH H d = some (true, .ab (dkQ x node bk))) (ok : SOk x) {n k : Int} (hn : (n, k) ∈ x.fly) :
    FnH Tryz.prog 25 [.c (.nm d), .c (iT n)] H nx ⟨.t (.c (iT 0)), [], [(d, some (.ab (dkQ (ls1 x n k) node bk)))], []⟩ := by
  have hA := dropA (nx := nx) hd n
  have hw := wget_of (node := node) (R := x.R) (gget_of ok.key hn)
  obtain ⟨_, e2, e3⟩ := SfOk.lost (node := node) ok hn
  have e3 := sT_ext e3
  have a3 : drE (wOf node x.R x.fly) n = 0 := by rw [drE, hw]; rfl
  rw [a3, wdel_of, ← e2, ← e3] at hA
  exact hA
end
end Cw
namespace Cw
open Go Vc
open Go.Proofs
set_option maxRecDepth 100000
theorem gblock0 (a b c k p : Int) : Fn0 Tryz.prog 19 [geoT a b c, .c (iT k), .c (iT p)] (.tup [.c (iT (bs a b c k p)), .c (iT (be a b c k p))]) := ⟨fun w => block_any a b c k p w⟩
theorem gplace0 (a b c s : Int) : Fn0 Tryz.prog 21 [geoT a b c, .c (iT s)] (.tup [.c (iT (pg a b c s)), .c (iT (pp a b c s)), .c (iT (pe a b c s))]) := ⟨fun w => place_any a b c s w⟩
theorem blk129 : ∀ p : Fin 9, bs 1 2 9 0 (p : Nat) = 7 + (p : Nat) ∧ be 1 2 9 0 (p : Nat) = 0 ∧ pg 1 2 9 (7 + (p : Nat)) = 0 ∧ pp 1 2 9 (7 + (p : Nat)) = (p : Nat) ∧ pe 1 2 9 (7 + (p : Nat)) = 0 := by decide
theorem map129 : mapAt 1 2 9 0 true = 4 ∧ me 1 2 9 0 = 0 := by decide
theorem msetV {n p : Int} (v : Bool) (hn : 1 ≤ n ∧ n ≤ 64) (hp : 0 ≤ p ∧ p < n) : Fn0 Tryz.prog 124 [.c (iT n), .c (iT p), .c (.b v)] (.tup [.agg [iT p, .s (bt1 (if v then 1 else 0))], .c (iT 0)]) := by
  cases v with
  | true => exact mset0 hn hp
  | false =>
    refine fn0 (fn := Tryz.f124) 22 rfl rfl rfl rfl rfl fun w => ?_
    refine rn [(12, .ret (.t (.c (iT 0)))), (14, .dec false), (19, .dec false)] rfl (by (repeat' (first | exact trivial | exact rfl | exact trivial | exact fun _ => trivial | first | exact many0 hn hp | rfl | decide | refine And.intro ?_ ?_))) ?_
    exact ret0 tysOk rfl (by repeat' (first | exact trivial | exact rfl | refine And.intro ?_ ?_)) rfl
theorem mtaken0 {l : List UInt8} {n : Nat} (h : MapOk l n) {p : Nat} (hp : p < n) : Fn0 Tryz.prog 28 [.c (.s (S l)), .c (iT (n : Nat)), .c (iT (p : Nat))] (.tup [.c (.b (decide (l[p]? = some 1))), .c (iT 0)]) := by
  refine fn0 (fn := Tryz.f28) 20 rfl rfl rfl rfl rfl fun w => ?_
  have hm := mask0 h (p := (p : Nat)) (by omega)
  have hl := h.len
  have n64 := h.n64
  have z0 : (0 : Int) ≤ (p : Int) := by omega
  have hsz : (S l).size = 64 := by rw [S_size]; exact hl
  have z1 : (p : Int) < ((S l).size : Int) := by omega
  refine rn [(12, .ret (.t (.c (iT 0)))), (14, .dec false)] rfl (by (repeat' (first | exact trivial | exact rfl | exact trivial | exact fun _ => trivial | first | exact hm | exact z0 | exact z1 | exact ⟨z0, z1⟩ | rfl | decide | refine And.intro ?_ ?_))) ?_
  refine ret0 tysOk rfl ?_ rfl
  repeat' (first | exact trivial | exact rfl | refine And.intro ?_ ?_)
  all_goals
    have hp64 : p < l.length := by omega
    have hps : p < (S l).size := by rw [hsz]; omega
    have hg : (S l)[p]? = some l[p] := by
      rw [getElem?_pos (S l) p hps]
      rfl
    rw [Int.toNat_natCast, byteAt, hg, List.getElem?_eq_getElem hp64, Bool.eq_iff_iff, beq_iff_eq, decide_eq_true_eq, Option.some.injEq]
    constructor
    · intro hh
      have hh' : ((l[p].toNat : Nat) : Int) = 1 := hh
      apply UInt8.toNat_inj.1
      show l[p].toNat = 1
      omega
    · intro hh
      have hv : ∀ v : UInt8, v = 1 → ((v.toNat : Nat) : Int) = 1 := fun v hv => by rw [hv]; rfl
      exact hv _ hh
set_option maxRecDepth 100000 in
set_option maxHeartbeats 4000000 in
/-- There is no free place. -/
theorem mfull0 {l : List UInt8} {n : Nat} (h : MapOk l n) (hx : Lib.indexByte (l.take n) 0 = -1) : Fn0 Tryz.prog 91 [.c (.s (S l)), .c (iT (n : Nat)), .c (iT 0)] (.tup [.c (iT 0), .c (iT 50)]) := by
  refine fn0 (fn := Tryz.f91) 35 rfl rfl rfl rfl rfl fun w => ?_
  have n1 := h.n1
  have n64 := h.n64
  have hl := h.len
  have hsz : (S l).size = 64 := by rw [S_size]; exact hl
  have hm := mask0 h (p := 0) (by omega)
  have z0 : (0 : Int) ≤ (n : Int) := by omega
  have z1 : (n : Int) ≤ ((S l).size : Int) := by omega
  have hi : Fn0 Tryz.prog 123 [.c (.s ((S l).extract (0 : Int).toNat (n : Int).toNat)), .c (.s ⟨#[0]⟩)] (.t (.c (iT (-1)))) := by
    have := index0 ((S l).extract 0 n)
    rw [ext_take, hx] at this
    exact this
  have hj : Fn0 Tryz.prog 123 [.c (.s ((S l).extract (0 : Nat) (0 : Int).toNat)), .c (.s ⟨#[0]⟩)] (.t (.c (iT (-1)))) := by
    have := index0 ((S l).extract 0 0)
    rw [ext_take, List.take_zero] at this
    exact this
  refine rn [(14, .ret (.t (.c (iT 0)))), (16, .dec false), (22, .ret (.t (.c (iT (-1))))), (24, .dec false), (31, .ret (.t (.c (iT (-1))))), (33, .dec false)] rfl (by (repeat' (first | exact trivial | exact rfl | exact trivial | exact fun _ => trivial | first | exact hm | exact z0 | exact z1 | exact ⟨z0, z1⟩ | exact hi | exact hj | exact Int.natCast_nonneg _ | rfl | decide | refine And.intro ?_ ?_))) ?_
  exact ret0 tysOk rfl (by repeat' (first | exact trivial | exact rfl | refine And.intro ?_ ?_)) rfl
section
variable {H : HL} {nx s d q b bd bk : Nat} {b1 : Bool} {R : List Ch} {fly : List (Int × Int)} {last : Int}
theorem takRead (hs : lookH H s = some (true, .ab (sfB R fly 0 b bd bk))) (hd : lookH H d = some (true, .ab (dkQ ⟨R, fly, last⟩ 0 bk))) (hsd : s ≠ d) (ok : SOk ⟨R, fly, last⟩) (hR : R.length ≤ 500) :
    FnH Tryz.prog 122 [.c (.nm s), .c (iT 4)] H nx ⟨.tup [.c (.s (S (alB R 4))), .c (iT 0)], [], [(s, some (.ab (sfB R fly 0 b bd bk))), (d, some (.ab (dkQ ⟨R, fly, last⟩ 0 bk)))], []⟩ :=
  fnh_ex2 hs (fun _ => absP_stable _ _) fun x => softReadG look_eq ((look_ne hsd).trans hd) hsd x.2 (rdE_ofT rfl) (rd_ofT rfl) (by rw [S_size, dkB_len]; decide) (SfOk.seen ok (by show R.length ≤ 1000; omega))
set_option maxRecDepth 100000 in
set_option maxHeartbeats 4000000 in
theorem twrong (hs : lookH H s = some (true, .ab (sfB R fly 0 b bd bk))) (hq : lookH H q = some (b1, .own 3 1 1 (ivs [0]))) (hqs : inL q [s] = false) :
    FnH Tryz.prog 61 [.c (.nm s), geoT 1 2 9, .c (.nm q)] H nx ⟨.t (.c (iT 0)), [], [(s, some (.ab (sfB R fly 0 b bd bk)))], []⟩ := by
  refine fnAs (fn := Tryz.f61) 32 rfl rfl rfl (args' := [.c (.nm 0), geoT 1 2 9, .c (.nm 1)]) [(s, sfB R fly 0 b bd bk, sfB R fly 0 b bd bk)] [(q, .own 3 1 1 (ivs [0]))] ⟨⟨hs, ptr b, sfB_pins _ _ _ _ _ _, sfB_pins _ _ _ _ _ _⟩, trivial⟩ ⟨⟨⟨_, hq⟩, fun _ => rfl, hqs⟩, trivial⟩ (by simp) rfl rfl rfl rfl (v' := .t (.c (iT 0))) (news' := []) rfl rfl rfl rfl rfl fun w Wh => ?_
  have hck := check0 1 2 9
  rw [gcheck, if_pos g129] at hck
  refine rn [(11, .spec ⟨.t (.c (.b false)), [], [], []⟩)] rfl (by (repeat' (first | exact trivial | exact rfl | exact nilTs rfl rfl rfl rfl | exact fun _ => nilTs rfl rfl rfl rfl | refine And.intro ?_ ?_))) ?_
  refine ⟨fun h => (by cases h), fun _ => ?_⟩
  refine rn [(13, .ret (.t (.c (iT 0)))), (15, .dec false)] rfl (by (repeat' (first | exact trivial | exact rfl | exact trivial | exact fun _ => trivial | first | exact hck | rfl | decide | refine And.intro ?_ ?_))) ?_
  refine At.unroll ?_
  refine rn [(20, .dec true), (22, .ld [iT 0]), (25, .dec false), (30, .dec false)] rfl (by (repeat' (first | exact trivial | exact rfl | exact trivial | exact fun _ => trivial | first | rfl | decide | refine And.intro ?_ ?_))) (nextRound ?_)
  refine rn [(20, .dec false)] rfl (by (repeat' (first | exact trivial | exact rfl | exact trivial | exact fun _ => trivial | decide | refine And.intro ?_ ?_))) (nextExit rfl ?_)
  refine rnA [] rfl (by repeat' (first | exact trivial | exact rfl | refine And.intro ?_ ?_)) ?_
  exact retM tysOk [(0, 0)] rfl (by repeat' (first | exact trivial | exact rfl | refine And.intro ?_ ?_)) (by repeat' (first | exact trivial | exact rfl | refine And.intro ?_ ?_)) rfl rfl
set_option maxRecDepth 100000 in
set_option maxHeartbeats 4000000 in
theorem twrong0 (hs : lookH H s = some (true, .ab (sfB R fly 0 b bd bk))) :
    FnH Tryz.prog 61 [.c (.nm s), geoT 1 2 9, .c .nsl] H nx ⟨.t (.c (iT 0)), [], [(s, some (.ab (sfB R fly 0 b bd bk)))], []⟩ := by
  refine fnAs (fn := Tryz.f61) 32 rfl rfl rfl (args' := [.c (.nm 0), geoT 1 2 9, .c .nsl]) [(s, sfB R fly 0 b bd bk, sfB R fly 0 b bd bk)] [] ⟨⟨hs, ptr b, sfB_pins _ _ _ _ _ _, sfB_pins _ _ _ _ _ _⟩, trivial⟩ trivial (by simp) rfl rfl rfl rfl (v' := .t (.c (iT 0))) (news' := []) rfl rfl rfl rfl rfl fun w Wh => ?_
  have hck := check0 1 2 9
  rw [gcheck, if_pos g129] at hck
  refine rn [(11, .spec ⟨.t (.c (.b false)), [], [], []⟩)] rfl (by (repeat' (first | exact trivial | exact rfl | exact nilTs rfl rfl rfl rfl | exact fun _ => nilTs rfl rfl rfl rfl | refine And.intro ?_ ?_))) ?_
  refine ⟨fun h => (by cases h), fun _ => ?_⟩
  refine rn [(13, .ret (.t (.c (iT 0)))), (15, .dec false)] rfl (by (repeat' (first | exact trivial | exact rfl | exact trivial | exact fun _ => trivial | first | exact hck | rfl | decide | refine And.intro ?_ ?_))) ?_
  refine At.unroll ?_
  refine rn [(20, .dec false)] rfl (by (repeat' (first | exact trivial | exact rfl | exact trivial | exact fun _ => trivial | first | rfl | decide | refine And.intro ?_ ?_))) (nextExit rfl ?_)
  refine rnA [] rfl (by repeat' (first | exact trivial | exact rfl | refine And.intro ?_ ?_)) ?_
  exact retM tysOk [(0, 0)] rfl (by repeat' (first | exact trivial | exact rfl | refine And.intro ?_ ?_)) (by repeat' (first | exact trivial | exact rfl | refine And.intro ?_ ?_)) rfl rfl
set_option maxRecDepth 100000 in
set_option maxHeartbeats 4000000 in
theorem tlook (hs : lookH H s = some (true, .ab (sfB R fly 0 b bd bk))) (hd : lookH H d = some (true, .ab (dkQ ⟨R, fly, last⟩ 0 bk))) (hsd : s ≠ d) (ok : SOk ⟨R, fly, last⟩) (hR : R.length ≤ 500) (hm : MapOk (alB R 4) 9) :
    FnH Tryz.prog 90 [.c (.nm s), geoT 1 2 9, .c (iT 0), .c (.b true)] H nx ⟨.tup [.agg [.nm nx, iT 4, .s (S (alB R 4)), iT ((9 : Nat) : Int)], .c (iT 0)], [(true, .ab (sfB R fly 0 b bd bk)), (true, .ab (dkQ ⟨R, fly, last⟩ 0 bk))], [(s, none), (d, none)], []⟩ := by
  refine fnK2 (fn := Tryz.f90) 48 rfl rfl rfl hs hd hsd (bs := [geoT 1 2 9, .c (iT 0), .c (.b true)]) rfl rfl rfl (v' := .tup [.agg [.nm 0, iT 4, .s (S (alB R 4)), iT ((9 : Nat) : Int)], .c (iT 0)]) (news' := [(true, .ab (sfB R fly 0 b bd bk)), (true, .ab (dkQ ⟨R, fly, last⟩ 0 bk))]) rfl rfl rfl rfl fun w Wh => ?_
  have hmap := gmap0 1 2 9 0 true
  rw [map129.1, map129.2] at hmap
  have hr := fun (H : HL) (nx : Nat) (h0 : lookH H 0 = some (true, .ab (sfB R fly 0 b bd bk))) (h1 : lookH H 1 = some (true, .ab (dkQ ⟨R, fly, last⟩ 0 bk))) => takRead (nx := nx) h0 h1 (by decide) ok hR
  refine rn [(16, .dec true), (24, .ret (.tup [.c (iT 4), .c (iT 0)])), (32, .spec ⟨.tup [.c (.s (S (alB R 4))), .c (iT 0)], [], [(0, some (.ab (sfB R fly 0 b bd bk))), (1, some (.ab (dkQ ⟨R, fly, last⟩ 0 bk)))], []⟩), (37, .dec false), (38, .dec false), (43, .ret (.t (.c (iT 0)))), (45, .dec false)] rfl (by (repeat' (first | exact trivial | exact rfl | exact trivial | exact fun _ => trivial | first | exact hmap | exact hr _ _ rfl rfl | exact mcheck0 hm | rfl | decide | refine And.intro ?_ ?_))) ?_
  exact retM tysOk [(0, 0), (1, 1)] rfl (by repeat' (first | exact trivial | exact rfl | refine And.intro ?_ ?_)) (by repeat' (first | exact trivial | exact rfl | refine And.intro ?_ ?_)) rfl rfl
set_option maxRecDepth 100000 in
set_option maxHeartbeats 4000000 in
theorem tset (hs : lookH H s = some (true, .ab (sfB R fly 0 b bd bk))) (hd : lookH H d = some (true, .ab (dkQ ⟨R, fly, last⟩ 0 bk))) (hsd : s ≠ d) (ok : SOk ⟨R, fly, last⟩) (hR : R.length ≤ 500) {x : Int} {t : ByteArray} (hx : 0 ≤ x ∧ x < 9) (v : Bool) {R' : List Ch} (hR' : R ++ [sfC R 4 x (if v then 1 else 0) []] = R') :
    FnH Tryz.prog 92 [.agg [.nm s, iT 4, .s t, iT ((9 : Nat) : Int)], .c (iT x), .c (.b v), .c .nsl] H nx ⟨.tup [.c (iT ((R.length : Int) + 1)), .c (iT 0)], [], [(s, some (.ab (sfB R' fly 0 b bd bk))), (d, some (.ab (dkQ ⟨R', fly, last⟩ 0 bk)))], []⟩ := by
  refine fnAs (fn := Tryz.f92) 32 rfl rfl rfl (args' := [.agg [.nm 0, iT 4, .s t, iT ((9 : Nat) : Int)], .c (iT x), .c (.b v), .c .nsl]) [(s, sfB R fly 0 b bd bk, sfB R' fly 0 b bd bk), (d, dkQ ⟨R, fly, last⟩ 0 bk, dkQ ⟨R', fly, last⟩ 0 bk)] [] ⟨⟨hs, ptr b, sfB_pins _ _ _ _ _ _, sfB_pins _ _ _ _ _ _⟩, ⟨hd, ptr bk, disk_pins _ _ _ _, disk_pins _ _ _ _⟩, trivial⟩ trivial (by simp [hsd]) rfl rfl rfl rfl (v' := .tup [.c (iT ((R.length : Int) + 1)), .c (iT 0)]) (news' := []) rfl rfl rfl rfl rfl fun w Wh => ?_
  have hst := msetV (n := 9) (p := x) v (by decide) hx
  have ha := fun (H : HL) (nx : Nat) (h0 : lookH H 0 = some (true, .ab (sfB R fly 0 b bd bk))) (h1 : lookH H 1 = some (true, .ab (dkQ ⟨R, fly, last⟩ 0 bk))) => takAdd (nx := nx) h0 h1 (by decide) ok hR (k := 4) (o := x) (y := if v then 1 else 0) rfl (by omega)
  rw [hR'] at ha
  refine rn [(17, .ret (.tup [.agg [iT x, .s (bt1 (if v then 1 else 0))], .c (iT 0)])), (21, .dec false), (29, .spec ⟨.tup [.c (iT ((R.length : Int) + 1)), .c (iT 0)], [], [(0, some (.ab (sfB R' fly 0 b bd bk))), (1, some (.ab (dkQ ⟨R', fly, last⟩ 0 bk)))], []⟩)] rfl (by (repeat' (first | exact trivial | exact rfl | exact trivial | exact fun _ => trivial | first | exact hst | exact ha _ _ rfl rfl | rfl | decide | refine And.intro ?_ ?_))) ?_
  exact retM tysOk [(0, 0), (1, 1)] rfl (by repeat' (first | exact trivial | exact rfl | refine And.intro ?_ ?_)) (by repeat' (first | exact trivial | exact rfl | refine And.intro ?_ ?_)) rfl rfl
end
end Cw
namespace Cw
open Go Vc
open Go.Proofs
set_option maxRecDepth 100000
section
variable {H : HL} {nx s d q b bd bk : Nat} {b1 : Bool} {R : List Ch} {fly : List (Int × Int)} {last : Int}
set_option maxRecDepth 100000 in
set_option maxHeartbeats 4000000 in
/-- A place is taken: the first that is free. -/
theorem ttake (hs : lookH H s = some (true, .ab (sfB R fly 0 b bd bk))) (hd : lookH H d = some (true, .ab (dkQ ⟨R, fly, last⟩ 0 bk))) (hsd : s ≠ d) (hq : lookH H q = some (b1, .own 3 1 1 (ivs [0]))) (hqs : inL q [s, d] = false) (ok : SOk ⟨R, fly, last⟩) (hR : R.length ≤ 500) (hm : MapOk (alB R 4) 9) {x : Int} (hx : Lib.indexByte ((alB R 4).take 9) 0 = x) (hx0 : 0 ≤ x ∧ x < 9) {R' : List Ch} (hR' : R ++ [sfC R 4 x 1 []] = R') :
    FnH Tryz.prog 59 [.c (.nm s), geoT 1 2 9, .c (.b true), .c (.nm q)] H nx ⟨.tup [.c (iT 0), .c (iT x), .c (iT ((R.length : Int) + 1)), .c (iT 0)], [], [(s, some (.ab (sfB R' fly 0 b bd bk))), (d, some (.ab (dkQ ⟨R', fly, last⟩ 0 bk)))], []⟩ := by
  refine fnAs (fn := Tryz.f59) 62 rfl rfl rfl (args' := [.c (.nm 0), geoT 1 2 9, .c (.b true), .c (.nm 2)]) [(s, sfB R fly 0 b bd bk, sfB R' fly 0 b bd bk), (d, dkQ ⟨R, fly, last⟩ 0 bk, dkQ ⟨R', fly, last⟩ 0 bk)] [(q, .own 3 1 1 (ivs [0]))] ⟨⟨hs, ptr b, sfB_pins _ _ _ _ _ _, sfB_pins _ _ _ _ _ _⟩, ⟨hd, ptr bk, disk_pins _ _ _ _, disk_pins _ _ _ _⟩, trivial⟩ ⟨⟨⟨_, hq⟩, fun _ => rfl, hqs⟩, trivial⟩ (by simp [hsd]) rfl rfl rfl rfl (v' := .tup [.c (iT 0), .c (iT x), .c (iT ((R.length : Int) + 1)), .c (iT 0)]) (news' := []) rfl rfl rfl rfl rfl fun w Wh => ?_
  show At _ _ _ _ _ _ [(0, some (true, .ab (sfB R fly 0 b bd bk))), (1, some (true, .ab (dkQ ⟨R, fly, last⟩ 0 bk))), (2, some (false, .own 3 1 1 (ivs [0])))] 3
  have hw := fun (H : HL) (nx : Nat) (h0 : lookH H 0 = some (true, .ab (sfB R fly 0 b bd bk))) (h2 : lookH H 2 = some (false, .own 3 1 1 (ivs [0]))) => twrong (nx := nx) h0 h2 rfl
  have hlk := fun (H : HL) (nx : Nat) (h0 : lookH H 0 = some (true, .ab (sfB R fly 0 b bd bk))) (h1 : lookH H 1 = some (true, .ab (dkQ ⟨R, fly, last⟩ 0 bk))) => tlook (nx := nx) h0 h1 (by decide) ok hR hm
  have hf := mfind0 hm hx hx0.1 (by omega)
  have hset := fun (H : HL) (nx : Nat) (h0 : lookH H 4 = some (true, .ab (sfB R fly 0 b bd bk))) (h1 : lookH H 5 = some (true, .ab (dkQ ⟨R, fly, last⟩ 0 bk))) => tset (nx := nx) (t := S (alB R 4)) h0 h1 (by decide) ok hR hx0 true hR'
  refine rn [(20, .spec ⟨.t (.c (iT 0)), [], [(0, some (.ab (sfB R fly 0 b bd bk)))], []⟩), (22, .dec false)] rfl (by (repeat' (first | exact trivial | exact rfl | exact trivial | exact fun _ => trivial | first | exact hw _ _ rfl rfl | rfl | decide | refine And.intro ?_ ?_))) ?_
  refine At.unroll ?_
  refine rn [(27, .dec true), (29, .ld [iT 0]), (35, .spec ⟨.tup [.agg [.nm 4, iT 4, .s (S (alB R 4)), iT ((9 : Nat) : Int)], .c (iT 0)], [(true, .ab (sfB R fly 0 b bd bk)), (true, .ab (dkQ ⟨R, fly, last⟩ 0 bk))], [(0, none), (1, none)], []⟩), (39, .dec false), (46, .ret (.tup [.c (iT x), .c (iT 0)])), (50, .dec false), (54, .spec ⟨.tup [.c (iT ((R.length : Int) + 1)), .c (iT 0)], [], [(4, some (.ab (sfB R' fly 0 b bd bk))), (5, some (.ab (dkQ ⟨R', fly, last⟩ 0 bk)))], []⟩)] rfl (by (repeat' (first | exact trivial | exact rfl | exact trivial | exact fun _ => trivial | first | exact hlk _ _ rfl rfl | exact hf | exact hset _ _ rfl rfl | rfl | decide | refine And.intro ?_ ?_))) ?_
  exact retM tysOk [(0, 4), (1, 5)] rfl (by repeat' (first | exact trivial | exact rfl | refine And.intro ?_ ?_)) (by repeat' (first | exact trivial | exact rfl | refine And.intro ?_ ?_)) rfl rfl
set_option maxRecDepth 100000 in
set_option maxHeartbeats 4000000 in
/-- There is no free place. -/
theorem ttakeNo (hs : lookH H s = some (true, .ab (sfB R fly 0 b bd bk))) (hd : lookH H d = some (true, .ab (dkQ ⟨R, fly, last⟩ 0 bk))) (hsd : s ≠ d) (hq : lookH H q = some (b1, .own 3 1 1 (ivs [0]))) (hqs : inL q [s, d] = false) (ok : SOk ⟨R, fly, last⟩) (hR : R.length ≤ 500) (hm : MapOk (alB R 4) 9) (hx : Lib.indexByte ((alB R 4).take 9) 0 = -1) :
    FnH Tryz.prog 59 [.c (.nm s), geoT 1 2 9, .c (.b true), .c (.nm q)] H nx ⟨.tup [.c (iT 0), .c (iT 0), .c (iT 0), .c (iT 109)], [], [(s, some (.ab (sfB R fly 0 b bd bk))), (d, some (.ab (dkQ ⟨R, fly, last⟩ 0 bk)))], []⟩ := by
  refine fnAs (fn := Tryz.f59) 62 rfl rfl rfl (args' := [.c (.nm 0), geoT 1 2 9, .c (.b true), .c (.nm 2)]) [(s, sfB R fly 0 b bd bk, sfB R fly 0 b bd bk), (d, dkQ ⟨R, fly, last⟩ 0 bk, dkQ ⟨R, fly, last⟩ 0 bk)] [(q, .own 3 1 1 (ivs [0]))] ⟨⟨hs, ptr b, sfB_pins _ _ _ _ _ _, sfB_pins _ _ _ _ _ _⟩, ⟨hd, ptr bk, disk_pins _ _ _ _, disk_pins _ _ _ _⟩, trivial⟩ ⟨⟨⟨_, hq⟩, fun _ => rfl, hqs⟩, trivial⟩ (by simp [hsd]) rfl rfl rfl rfl (v' := .tup [.c (iT 0), .c (iT 0), .c (iT 0), .c (iT 109)]) (news' := []) rfl rfl rfl rfl rfl fun w Wh => ?_
  show At _ _ _ _ _ _ [(0, some (true, .ab (sfB R fly 0 b bd bk))), (1, some (true, .ab (dkQ ⟨R, fly, last⟩ 0 bk))), (2, some (false, .own 3 1 1 (ivs [0])))] 3
  have hw := fun (H : HL) (nx : Nat) (h0 : lookH H 0 = some (true, .ab (sfB R fly 0 b bd bk))) (h2 : lookH H 2 = some (false, .own 3 1 1 (ivs [0]))) => twrong (nx := nx) h0 h2 rfl
  have hlk := fun (H : HL) (nx : Nat) (h0 : lookH H 0 = some (true, .ab (sfB R fly 0 b bd bk))) (h1 : lookH H 1 = some (true, .ab (dkQ ⟨R, fly, last⟩ 0 bk))) => tlook (nx := nx) h0 h1 (by decide) ok hR hm
  have hf := mfull0 hm hx
  refine rn [(20, .spec ⟨.t (.c (iT 0)), [], [(0, some (.ab (sfB R fly 0 b bd bk)))], []⟩), (22, .dec false)] rfl (by (repeat' (first | exact trivial | exact rfl | exact trivial | exact fun _ => trivial | first | exact hw _ _ rfl rfl | rfl | decide | refine And.intro ?_ ?_))) ?_
  refine At.unroll ?_
  refine rn [(27, .dec true), (29, .ld [iT 0]), (35, .spec ⟨.tup [.agg [.nm 4, iT 4, .s (S (alB R 4)), iT ((9 : Nat) : Int)], .c (iT 0)], [(true, .ab (sfB R fly 0 b bd bk)), (true, .ab (dkQ ⟨R, fly, last⟩ 0 bk))], [(0, none), (1, none)], []⟩), (39, .dec false), (46, .ret (.tup [.c (iT 0), .c (iT 50)])), (50, .dec true)] rfl (by (repeat' (first | exact trivial | exact rfl | exact trivial | exact fun _ => trivial | first | exact hlk _ _ rfl rfl | exact hf | rfl | decide | refine And.intro ?_ ?_))) (nextRound ?_)
  refine rn [(27, .dec false)] rfl (by (repeat' (first | exact trivial | exact rfl | exact trivial | exact fun _ => trivial | decide | refine And.intro ?_ ?_))) (nextExit rfl ?_)
  refine rnA [] rfl (by repeat' (first | exact trivial | exact rfl | refine And.intro ?_ ?_)) ?_
  exact retM tysOk [(0, 4), (1, 5)] rfl (by repeat' (first | exact trivial | exact rfl | refine And.intro ?_ ?_)) (by repeat' (first | exact trivial | exact rfl | refine And.intro ?_ ?_)) rfl rfl
end
end Cw
namespace Cw
open Go Vc
open Go.Proofs
set_option maxRecDepth 100000
section
variable {H : HL} {nx s d q b bd bk : Nat} {b1 : Bool} {R : List Ch} {fly : List (Int × Int)} {last : Int}
set_option maxRecDepth 100000 in
set_option maxHeartbeats 4000000 in
theorem tblock (hs : lookH H s = some (true, .ab (sfB R fly 0 b bd bk))) (hd : lookH H d = some (true, .ab (dkQ ⟨R, fly, last⟩ 0 bk))) (hsd : s ≠ d) (hq : lookH H q = some (b1, .own 3 1 1 (ivs [0]))) (hqs : inL q [s, d] = false) (ok : SOk ⟨R, fly, last⟩) (hR : R.length ≤ 500) (hm : MapOk (alB R 4) 9) {p : Nat} (hx : Lib.indexByte ((alB R 4).take 9) 0 = (p : Nat)) (hp : p < 9) {R' : List Ch} (hR' : R ++ [sfC R 4 (p : Nat) 1 []] = R') :
    FnH Tryz.prog 20 [.c (.nm s), geoT 1 2 9, .c (.nm q)] H nx ⟨.tup [.c (iT (7 + (p : Nat))), .c (iT ((R.length : Int) + 1)), .c (iT 0)], [], [(s, some (.ab (sfB R' fly 0 b bd bk))), (d, some (.ab (dkQ ⟨R', fly, last⟩ 0 bk)))], []⟩ := by
  refine fnAs (fn := Tryz.f20) 33 rfl rfl rfl (args' := [.c (.nm 0), geoT 1 2 9, .c (.nm 2)]) [(s, sfB R fly 0 b bd bk, sfB R' fly 0 b bd bk), (d, dkQ ⟨R, fly, last⟩ 0 bk, dkQ ⟨R', fly, last⟩ 0 bk)] [(q, .own 3 1 1 (ivs [0]))] ⟨⟨hs, ptr b, sfB_pins _ _ _ _ _ _, sfB_pins _ _ _ _ _ _⟩, ⟨hd, ptr bk, disk_pins _ _ _ _, disk_pins _ _ _ _⟩, trivial⟩ ⟨⟨⟨_, hq⟩, fun _ => rfl, hqs⟩, trivial⟩ (by simp [hsd]) rfl rfl rfl rfl (v' := .tup [.c (iT (7 + (p : Nat))), .c (iT ((R.length : Int) + 1)), .c (iT 0)]) (news' := []) rfl rfl rfl rfl rfl fun w Wh => ?_
  show At _ _ _ _ _ _ [(0, some (true, .ab (sfB R fly 0 b bd bk))), (1, some (true, .ab (dkQ ⟨R, fly, last⟩ 0 bk))), (2, some (false, .own 3 1 1 (ivs [0])))] 3
  have hw := fun (H : HL) (nx : Nat) (h0 : lookH H 0 = some (true, .ab (sfB R fly 0 b bd bk))) (h1 : lookH H 1 = some (true, .ab (dkQ ⟨R, fly, last⟩ 0 bk))) (h2 : lookH H 2 = some (false, .own 3 1 1 (ivs [0]))) => ttake (nx := nx) h0 h1 (by decide) h2 rfl ok hR hm hx (by omega) hR'
  have hb := gblock0 1 2 9 0 (p : Nat)
  obtain ⟨e1, e2, _⟩ := blk129 ⟨p, hp⟩
  simp only at e1 e2
  rw [e1, e2] at hb
  refine rn [(15, .spec ⟨.tup [.c (iT 0), .c (iT (p : Nat)), .c (iT ((R.length : Int) + 1)), .c (iT 0)], [], [(0, some (.ab (sfB R' fly 0 b bd bk))), (1, some (.ab (dkQ ⟨R', fly, last⟩ 0 bk)))], []⟩), (21, .dec false), (27, .ret (.tup [.c (iT (7 + (p : Nat))), .c (iT 0)]))] rfl (by (repeat' (first | exact trivial | exact rfl | exact trivial | exact fun _ => trivial | first | exact hw _ _ rfl rfl rfl | exact hb | rfl | decide | refine And.intro ?_ ?_))) ?_
  exact retM tysOk [(0, 0), (1, 1)] rfl (by repeat' (first | exact trivial | exact rfl | refine And.intro ?_ ?_)) (by repeat' (first | exact trivial | exact rfl | refine And.intro ?_ ?_)) rfl rfl
set_option maxRecDepth 100000 in
set_option maxHeartbeats 4000000 in
theorem tblockNo (hs : lookH H s = some (true, .ab (sfB R fly 0 b bd bk))) (hd : lookH H d = some (true, .ab (dkQ ⟨R, fly, last⟩ 0 bk))) (hsd : s ≠ d) (hq : lookH H q = some (b1, .own 3 1 1 (ivs [0]))) (hqs : inL q [s, d] = false) (ok : SOk ⟨R, fly, last⟩) (hR : R.length ≤ 500) (hm : MapOk (alB R 4) 9) (hx : Lib.indexByte ((alB R 4).take 9) 0 = -1) :
    FnH Tryz.prog 20 [.c (.nm s), geoT 1 2 9, .c (.nm q)] H nx ⟨.tup [.c (iT 0), .c (iT 0), .c (iT 109)], [], [(s, some (.ab (sfB R fly 0 b bd bk))), (d, some (.ab (dkQ ⟨R, fly, last⟩ 0 bk)))], []⟩ := by
  refine fnAs (fn := Tryz.f20) 33 rfl rfl rfl (args' := [.c (.nm 0), geoT 1 2 9, .c (.nm 2)]) [(s, sfB R fly 0 b bd bk, sfB R fly 0 b bd bk), (d, dkQ ⟨R, fly, last⟩ 0 bk, dkQ ⟨R, fly, last⟩ 0 bk)] [(q, .own 3 1 1 (ivs [0]))] ⟨⟨hs, ptr b, sfB_pins _ _ _ _ _ _, sfB_pins _ _ _ _ _ _⟩, ⟨hd, ptr bk, disk_pins _ _ _ _, disk_pins _ _ _ _⟩, trivial⟩ ⟨⟨⟨_, hq⟩, fun _ => rfl, hqs⟩, trivial⟩ (by simp [hsd]) rfl rfl rfl rfl (v' := .tup [.c (iT 0), .c (iT 0), .c (iT 109)]) (news' := []) rfl rfl rfl rfl rfl fun w Wh => ?_
  show At _ _ _ _ _ _ [(0, some (true, .ab (sfB R fly 0 b bd bk))), (1, some (true, .ab (dkQ ⟨R, fly, last⟩ 0 bk))), (2, some (false, .own 3 1 1 (ivs [0])))] 3
  have hw := fun (H : HL) (nx : Nat) (h0 : lookH H 0 = some (true, .ab (sfB R fly 0 b bd bk))) (h1 : lookH H 1 = some (true, .ab (dkQ ⟨R, fly, last⟩ 0 bk))) (h2 : lookH H 2 = some (false, .own 3 1 1 (ivs [0]))) => ttakeNo (nx := nx) h0 h1 (by decide) h2 rfl ok hR hm hx
  refine rn [(15, .spec ⟨.tup [.c (iT 0), .c (iT 0), .c (iT 0), .c (iT 109)], [], [(0, some (.ab (sfB R fly 0 b bd bk))), (1, some (.ab (dkQ ⟨R, fly, last⟩ 0 bk)))], []⟩), (21, .dec true)] rfl (by (repeat' (first | exact trivial | exact rfl | exact trivial | exact fun _ => trivial | first | exact hw _ _ rfl rfl rfl | rfl | decide | refine And.intro ?_ ?_))) ?_
  exact retM tysOk [(0, 0), (1, 1)] rfl (by repeat' (first | exact trivial | exact rfl | refine And.intro ?_ ?_)) (by repeat' (first | exact trivial | exact rfl | refine And.intro ?_ ?_)) rfl rfl
set_option maxRecDepth 100000 in
set_option maxHeartbeats 4000000 in
/-- A place is freed. -/
theorem tgive (hs : lookH H s = some (true, .ab (sfB R fly 0 b bd bk))) (hd : lookH H d = some (true, .ab (dkQ ⟨R, fly, last⟩ 0 bk))) (hsd : s ≠ d) (ok : SOk ⟨R, fly, last⟩) (hR : R.length ≤ 500) (hm : MapOk (alB R 4) 9) {p : Nat} (hp : p < 9) (hx : (alB R 4)[p]? = some 1) {R' : List Ch} (hR' : R ++ [sfC R 4 (p : Nat) 0 []] = R') :
    FnH Tryz.prog 62 [.c (.nm s), geoT 1 2 9, .c (.b true), .c (iT 0), .c (iT (p : Nat)), .c .nsl] H nx ⟨.tup [.c (iT ((R.length : Int) + 1)), .c (iT 0)], [], [(s, some (.ab (sfB R' fly 0 b bd bk))), (d, some (.ab (dkQ ⟨R', fly, last⟩ 0 bk)))], []⟩ := by
  refine fnAs (fn := Tryz.f62) 46 rfl rfl rfl (args' := [.c (.nm 0), geoT 1 2 9, .c (.b true), .c (iT 0), .c (iT (p : Nat)), .c .nsl]) [(s, sfB R fly 0 b bd bk, sfB R' fly 0 b bd bk), (d, dkQ ⟨R, fly, last⟩ 0 bk, dkQ ⟨R', fly, last⟩ 0 bk)] [] ⟨⟨hs, ptr b, sfB_pins _ _ _ _ _ _, sfB_pins _ _ _ _ _ _⟩, ⟨hd, ptr bk, disk_pins _ _ _ _, disk_pins _ _ _ _⟩, trivial⟩ trivial (by simp [hsd]) rfl rfl rfl rfl (v' := .tup [.c (iT ((R.length : Int) + 1)), .c (iT 0)]) (news' := []) rfl rfl rfl rfl rfl fun w Wh => ?_
  show At _ _ _ _ _ _ [(0, some (true, .ab (sfB R fly 0 b bd bk))), (1, some (true, .ab (dkQ ⟨R, fly, last⟩ 0 bk)))] 2
  have hlk := fun (H : HL) (nx : Nat) (h0 : lookH H 0 = some (true, .ab (sfB R fly 0 b bd bk))) (h1 : lookH H 1 = some (true, .ab (dkQ ⟨R, fly, last⟩ 0 bk))) => tlook (nx := nx) h0 h1 (by decide) ok hR hm
  have ht := mtaken0 hm hp
  rw [decide_eq_true hx] at ht
  have hset := fun (H : HL) (nx : Nat) (h0 : lookH H 3 = some (true, .ab (sfB R fly 0 b bd bk))) (h1 : lookH H 4 = some (true, .ab (dkQ ⟨R, fly, last⟩ 0 bk))) => tset (nx := nx) (t := S (alB R 4)) h0 h1 (by decide) ok hR (x := (p : Nat)) (by omega) false hR'
  refine rn [(23, .spec ⟨.tup [.agg [.nm 3, iT 4, .s (S (alB R 4)), iT ((9 : Nat) : Int)], .c (iT 0)], [(true, .ab (sfB R fly 0 b bd bk)), (true, .ab (dkQ ⟨R, fly, last⟩ 0 bk))], [(0, none), (1, none)], []⟩), (27, .dec false), (35, .ret (.tup [.c (.b true), .c (iT 0)])), (39, .dec false), (43, .spec ⟨.tup [.c (iT ((R.length : Int) + 1)), .c (iT 0)], [], [(3, some (.ab (sfB R' fly 0 b bd bk))), (4, some (.ab (dkQ ⟨R', fly, last⟩ 0 bk)))], []⟩)] rfl (by (repeat' (first | exact trivial | exact rfl | exact trivial | exact fun _ => trivial | first | exact hlk _ _ rfl rfl | exact ht | exact hset _ _ rfl rfl | rfl | decide | refine And.intro ?_ ?_))) ?_
  exact retM tysOk [(0, 3), (1, 4)] rfl (by repeat' (first | exact trivial | exact rfl | refine And.intro ?_ ?_)) (by repeat' (first | exact trivial | exact rfl | refine And.intro ?_ ?_)) rfl rfl
set_option maxRecDepth 100000 in
set_option maxHeartbeats 4000000 in
/-- A place that is free is not freed. -/
theorem tgiveNo (hs : lookH H s = some (true, .ab (sfB R fly 0 b bd bk))) (hd : lookH H d = some (true, .ab (dkQ ⟨R, fly, last⟩ 0 bk))) (hsd : s ≠ d) (ok : SOk ⟨R, fly, last⟩) (hR : R.length ≤ 500) (hm : MapOk (alB R 4) 9) {p : Nat} (hp : p < 9) (hx : (alB R 4)[p]? ≠ some 1) :
    FnH Tryz.prog 62 [.c (.nm s), geoT 1 2 9, .c (.b true), .c (iT 0), .c (iT (p : Nat)), .c .nsl] H nx ⟨.tup [.c (iT 0), .c (iT 120)], [], [(s, some (.ab (sfB R fly 0 b bd bk))), (d, some (.ab (dkQ ⟨R, fly, last⟩ 0 bk)))], []⟩ := by
  refine fnAs (fn := Tryz.f62) 46 rfl rfl rfl (args' := [.c (.nm 0), geoT 1 2 9, .c (.b true), .c (iT 0), .c (iT (p : Nat)), .c .nsl]) [(s, sfB R fly 0 b bd bk, sfB R fly 0 b bd bk), (d, dkQ ⟨R, fly, last⟩ 0 bk, dkQ ⟨R, fly, last⟩ 0 bk)] [] ⟨⟨hs, ptr b, sfB_pins _ _ _ _ _ _, sfB_pins _ _ _ _ _ _⟩, ⟨hd, ptr bk, disk_pins _ _ _ _, disk_pins _ _ _ _⟩, trivial⟩ trivial (by simp [hsd]) rfl rfl rfl rfl (v' := .tup [.c (iT 0), .c (iT 120)]) (news' := []) rfl rfl rfl rfl rfl fun w Wh => ?_
  show At _ _ _ _ _ _ [(0, some (true, .ab (sfB R fly 0 b bd bk))), (1, some (true, .ab (dkQ ⟨R, fly, last⟩ 0 bk)))] 2
  have hlk := fun (H : HL) (nx : Nat) (h0 : lookH H 0 = some (true, .ab (sfB R fly 0 b bd bk))) (h1 : lookH H 1 = some (true, .ab (dkQ ⟨R, fly, last⟩ 0 bk))) => tlook (nx := nx) h0 h1 (by decide) ok hR hm
  have ht := mtaken0 hm hp
  rw [decide_eq_false hx] at ht
  refine rn [(23, .spec ⟨.tup [.agg [.nm 3, iT 4, .s (S (alB R 4)), iT ((9 : Nat) : Int)], .c (iT 0)], [(true, .ab (sfB R fly 0 b bd bk)), (true, .ab (dkQ ⟨R, fly, last⟩ 0 bk))], [(0, none), (1, none)], []⟩), (27, .dec false), (35, .ret (.tup [.c (.b false), .c (iT 0)])), (39, .dec true)] rfl (by (repeat' (first | exact trivial | exact rfl | exact trivial | exact fun _ => trivial | first | exact hlk _ _ rfl rfl | exact ht | rfl | decide | refine And.intro ?_ ?_))) ?_
  exact retM tysOk [(0, 3), (1, 4)] rfl (by repeat' (first | exact trivial | exact rfl | refine And.intro ?_ ?_)) (by repeat' (first | exact trivial | exact rfl | refine And.intro ?_ ?_)) rfl rfl
set_option maxRecDepth 100000 in
set_option maxHeartbeats 4000000 in
/-- A block is freed, or is not. -/
theorem tfree {e1 e2 : Int} {R' : List Ch} (hs : lookH H s = some (true, .ab (sfB R fly 0 b bd bk))) (hd : lookH H d = some (true, .ab (dkQ ⟨R, fly, last⟩ 0 bk))) (hsd : s ≠ d) {p : Nat} (hp : p < 9)
    (hg : ∀ (H : HL) (nx : Nat), lookH H 0 = some (true, .ab (sfB R fly 0 b bd bk)) → lookH H 1 = some (true, .ab (dkQ ⟨R, fly, last⟩ 0 bk)) → FnH Tryz.prog 62 [.c (.nm 0), geoT 1 2 9, .c (.b true), .c (iT 0), .c (iT (p : Nat)), .c .nsl] H nx ⟨.tup [.c (iT e1), .c (iT e2)], [], [(0, some (.ab (sfB R' fly 0 b bd bk))), (1, some (.ab (dkQ ⟨R', fly, last⟩ 0 bk)))], []⟩) :
    FnH Tryz.prog 22 [.c (.nm s), geoT 1 2 9, .c (iT (7 + (p : Nat))), .c .nsl] H nx ⟨.tup [.c (iT e1), .c (iT e2)], [], [(s, some (.ab (sfB R' fly 0 b bd bk))), (d, some (.ab (dkQ ⟨R', fly, last⟩ 0 bk)))], []⟩ := by
  refine fnAs (fn := Tryz.f22) 37 rfl rfl rfl (args' := [.c (.nm 0), geoT 1 2 9, .c (iT (7 + (p : Nat))), .c .nsl]) [(s, sfB R fly 0 b bd bk, sfB R' fly 0 b bd bk), (d, dkQ ⟨R, fly, last⟩ 0 bk, dkQ ⟨R', fly, last⟩ 0 bk)] [] ⟨⟨hs, ptr b, sfB_pins _ _ _ _ _ _, sfB_pins _ _ _ _ _ _⟩, ⟨hd, ptr bk, disk_pins _ _ _ _, disk_pins _ _ _ _⟩, trivial⟩ trivial (by simp [hsd]) rfl rfl rfl rfl (v' := .tup [.c (iT e1), .c (iT e2)]) (news' := []) rfl rfl rfl rfl rfl fun w Wh => ?_
  show At _ _ _ _ _ _ [(0, some (true, .ab (sfB R fly 0 b bd bk))), (1, some (true, .ab (dkQ ⟨R, fly, last⟩ 0 bk)))] 2
  have hw := fun (H : HL) (nx : Nat) (h0 : lookH H 0 = some (true, .ab (sfB R fly 0 b bd bk))) => twrong0 (nx := nx) h0
  have hb := gplace0 1 2 9 (7 + (p : Nat))
  obtain ⟨_, _, q1, q2, q3⟩ := blk129 ⟨p, hp⟩
  simp only at q1 q2 q3
  rw [q1, q2, q3] at hb
  refine rn [(15, .spec ⟨.t (.c (iT 0)), [], [(0, some (.ab (sfB R fly 0 b bd bk)))], []⟩), (17, .dec false), (22, .ret (.tup [.c (iT 0), .c (iT (p : Nat)), .c (iT 0)])), (27, .dec false), (34, .spec ⟨.tup [.c (iT e1), .c (iT e2)], [], [(0, some (.ab (sfB R' fly 0 b bd bk))), (1, some (.ab (dkQ ⟨R', fly, last⟩ 0 bk)))], []⟩)] rfl (by (repeat' (first | exact trivial | exact rfl | exact trivial | exact fun _ => trivial | first | exact hw _ _ rfl | exact hb | exact hg _ _ rfl rfl | rfl | decide | refine And.intro ?_ ?_))) ?_
  exact retM tysOk [(0, 0), (1, 1)] rfl (by repeat' (first | exact trivial | exact rfl | refine And.intro ?_ ?_)) (by repeat' (first | exact trivial | exact rfl | refine And.intro ?_ ?_)) rfl rfl
end
end Cw
namespace Cw
open Go Vc
open Go.Proofs
set_option maxRecDepth 100000
def hbs (has : List Bool) : List UInt8 := has.map fun v => if v then 1 else 0
structure TkI (R : List Ch) (last : Int) (has : List Bool) : Prop where
  ok : SOk ⟨R, [], last⟩
  at4 : ∀ c ∈ R, c.at' = 4
  hl : has.length = 9
  al : alB R 4 = hbs has ++ List.replicate 55 0
theorem hbs_len (has : List Bool) : (hbs has).length = has.length := by simp [hbs]
section
variable {R : List Ch} {last : Int} {has : List Bool}
theorem TkI.new : TkI [] 0 (List.replicate 9 false) := ⟨SfOk.nil, by simp, by simp, rfl⟩
theorem TkI.tk (h : TkI R last has) : (alB R 4).take 9 = hbs has := by
  rw [h.al, List.take_append_of_le_length (by rw [hbs_len, h.hl]; decide), List.take_of_length_le (by rw [hbs_len, h.hl]; decide)]
theorem TkI.map (h : TkI R last has) : MapOk (alB R 4) 9 where
  len := by rw [h.al, List.length_append, hbs_len, h.hl]; rfl
  n1 := by decide
  n64 := by decide
  lo := fun b hb => by
    rw [h.tk] at hb
    obtain ⟨v, _, rfl⟩ := List.mem_map.1 hb
    cases v
    · exact .inl rfl
    · exact .inr rfl
  hi := fun b hb => by
    rw [h.al, List.drop_append_of_le_length (by rw [hbs_len, h.hl]; decide), List.drop_of_length_le (by rw [hbs_len, h.hl]; decide), List.nil_append] at hb
    exact List.eq_of_mem_replicate hb
theorem TkI.get (h : TkI R last has) {p : Nat} (hp : p < has.length) : (alB R 4)[p]? = some (if has[p] then 1 else 0) := by
  rw [h.al, List.getElem?_append_left (by rw [hbs_len]; exact hp), hbs, List.getElem?_map, List.getElem?_eq_getElem hp]
  rfl
/-- The first place that is free, or none. -/
theorem TkI.find (h : TkI R last has) : (∃ p, ∃ hp : p < has.length, has[p] = false ∧ Lib.indexByte ((alB R 4).take 9) 0 = (p : Nat)) ∨ Lib.indexByte ((alB R 4).take 9) 0 = -1 := by
  rw [h.tk]
  have hge := Lib.indexByte_ge (hbs has) 0
  by_cases hm : Lib.indexByte (hbs has) 0 = -1
  · exact .inr hm
  · left
    obtain ⟨p, hp⟩ : ∃ p : Nat, Lib.indexByte (hbs has) 0 = (p : Nat) := ⟨(Lib.indexByte (hbs has) 0).toNat, by omega⟩
    obtain ⟨h1, _⟩ := Lib.indexByte_some hp
    have hlt : p < (hbs has).length := by
      rcases Nat.lt_or_ge p (hbs has).length with h' | h'
      · exact h'
      · rw [List.getElem?_eq_none h'] at h1; cases h1
    rw [hbs_len] at hlt
    refine ⟨p, hlt, ?_, hp⟩
    rw [hbs, List.getElem?_map, List.getElem?_eq_getElem hlt] at h1
    cases hv : has[p] with
    | false => rfl
    | true =>
      rw [hv] at h1
      exact absurd (Option.some.inj h1) (by decide)
end
end Cw
namespace Vc
open Go Go.RowKit
/-- A block's cells, told otherwise. -/
theorem Sat.recellT {F : Frm} {L' : LF} {H : HL} {d : Nat} {cs cs' : List CV} {T : TypeId} {b : Bool} {e : Env} {a : Act} {w : World} (S : Sat F L' (lookH H) e a w) (hd : lookH H d = some (b, .cells cs T)) (he : cs'.map (CV.den e) = cs.map (CV.den e)) : Sat F L' (lookH ((d, some (b, .cells cs' T)) :: H)) e a w := by
  refine ⟨S.fr, S.sz, S.df, S.sl, fun n c o hz => ?_, fun n o m c q hn hm hne g hg hg' => ?_⟩
  · rw [lookH_cons] at hz
    split at hz
    · rename_i hn
      cases hz
      subst hn
      obtain ⟨h3, h4⟩ := S.ob n b _ hd
      exact ⟨⟨h3.1, by rw [he]; exact h3.2⟩, h4⟩
    · exact S.ob n c o hz
  · rw [lookH_cons] at hn hm
    split at hn
    · rename_i h2
      cases hn
      subst h2
      rw [if_neg (fun h => hne h.symm)] at hm
      exact S.dj n _ m c q hd hm hne g hg hg'
    · split at hm
      · rename_i h2
        cases hm
        subst h2
        exact S.dj n o _ _ _ hn hd hne g hg hg'
      · exact S.dj n o m c q hn hm hne g hg hg'
theorem wf_recellT {L : LL} {H : HL} {nx d : Nat} {cs cs' : List CV} {T : TypeId} {b : Bool} (hW : WF L H nx) (hd : lookH H d = some (b, .cells cs T)) (hn : ∀ m ∈ flatN (cs'.map CV.ns), m < nx) : WF L ((d, some (b, .cells cs' T)) :: H) nx :=
  ⟨hW.l, fun n z hz => by
    rw [lookH_cons] at hz
    split at hz
    · rename_i hn'
      cases hz
      subst hn'
      exact ⟨(hW.h n _ hd).1, fun m hm => hn m hm⟩
    · exact hW.h n z hz⟩
theorem den_pinT {F : Frm} {L : LF} {H : HL} {e : Env} {a : Act} {w : World} {φ : Value → (Nat → Prop) → World → Prop} {n m bk : Nat} {b1 b2 : Bool} (S : Sat F L (lookH H) e a w) (hn : lookH H n = some (b1, .ab φ)) (hp : ∀ v F w, φ v F w → v = .pointer (some ⟨bk, 0, none⟩)) (hm : lookH H m = some (b2, .pin m bk)) : CV.den e (.nm n) = CV.den e (.p m 0) := by
  have h1 := hp _ _ _ (S.ob n b1 _ hn).1.1
  have h2 : e.blk m = bk := (S.ob m b2 _ hm).1.2
  show e.val n = .pointer (some ⟨e.blk m, 0, none⟩)
  rw [h1, h2]
section
variable {P : Program} {F : Frm} {Q : Exit → Act → World → Prop} {c : Code} {ks : List KI} {L : LL} {H : HL} {nx : Nat}
/-- What cells hold, told by other names. -/
theorem At.recellT {cs cs' : List CV} {T : TypeId} {b : Bool} (d : Nat) (hd : lookH H d = some (b, .cells cs T)) (he : ∀ {e a w}, Sat F (fun t => look t L) (lookH H) e a w → cs'.map (CV.den e) = cs.map (CV.den e)) (hn : ∀ m ∈ flatN (cs'.map CV.ns), m < nx)
    (h : At P F Q c ks L ((d, some (b, .cells cs' T)) :: H) nx) : At P F Q c ks L H nx :=
  ⟨fun hW e a w S => h.h (wf_recellT hW hd hn) e a w (S.recellT hd (he S))⟩
end
end Vc
namespace Cw
open Go Vc
open Go.Proofs
set_option maxRecDepth 100000
theorem imgB_appT (l m : List Ch) (s : List UInt8) : imgB (l ++ m) s = imgB m (imgB l s) := by rw [imgB, List.foldl_append]; rfl
theorem alB_plus (R : List Ch) (p : Nat) (y : Int) : alB (R ++ [sfC R 4 (p : Nat) y []]) 4 = (alB R 4).set p (UInt8.ofNat y.toNat) := by
  rw [alB, List.filter_append, imgB_appT]
  rfl
theorem hbs_set (has : List Bool) (p : Nat) (v : Bool) : (hbs has).set p (if v then 1 else 0) = hbs (has.set p v) := by
  rw [hbs, hbs, List.map_set]
theorem setF_at4 {p : Ch → Bool} {s : Int} {R : List Ch} (h : ∀ c ∈ R, c.at' = 4) : ∀ c ∈ setF p s R, c.at' = 4 := fun c hc => by
  obtain ⟨c0, h0, rfl⟩ := List.mem_map.1 hc
  have := h c0 h0
  split <;> exact this
theorem wr1_at4 {x : SS} (h : ∀ c ∈ x.R, c.at' = 4) (k : Int) : ∀ c ∈ (wr1 x k).R, c.at' = 4 := by
  by_cases hc : wrCn x k
  · rw [wr1_yes hc]; exact setF_at4 h
  · rw [wr1_no hc]; exact h
theorem wrA_at4 : ∀ (ks : List Int) {x : SS}, (∀ c ∈ x.R, c.at' = 4) → ∀ c ∈ (wrA x ks).R, c.at' = 4
  | [], _, h => h
  | k :: ks, _, h => wrA_at4 ks (wr1_at4 h k)
theorem fly_four {x : SS} (h : SOk x) (h4 : ∀ c ∈ x.R, c.at' = 4) {n k : Int} (hn : (n, k) ∈ x.fly) : k = 4 := by
  have h1 := (h.fl k).1 (List.mem_map.2 ⟨_, hn, rfl⟩)
  refine Classical.byContradiction fun hne => h1 ?_
  rw [ofN, List.map_eq_nil_iff, List.filter_eq_nil_iff]
  intro c hc hcon
  have h2 := h4 c hc
  have h3 : c.at' = k := by simp at hcon; exact hcon.1
  omega
section
variable {R : List Ch} {last : Int} {has : List Bool}
theorem TkI.plus (h : TkI R last has) {p : Nat} (hp : p < has.length) (v : Bool) {y : Int} (hy : UInt8.ofNat y.toNat = if v then 1 else 0) : TkI (R ++ [sfC R 4 (p : Nat) y []]) last (has.set p v) where
  ok := (SfOk.plus (node := 0) h.ok (k := 4) (o := (p : Nat)) (b := y) (xs := []) (by omega) (by have := h.hl; omega) (by simp)).1
  at4 := fun c hc => by
    rcases List.mem_append.1 hc with hc | hc
    · exact h.at4 c hc
    · rw [List.mem_singleton.1 hc]; rfl
  hl := by rw [List.length_set]; exact h.hl
  al := by rw [alB_plus, h.al, hy, List.set_append_left _ _ (by rw [hbs_len]; exact hp), hbs_set]
theorem TkI.step {x : SS} (h : TkI R last has) (h1 : SOk x) (h2 : x.fly = []) (h3 : ∀ c ∈ x.R, c.at' = 4) (h4 : alB x.R 4 = alB R 4) : TkI x.R x.last has where
  ok := by rw [← h2]; exact h1
  at4 := h3
  hl := h.hl
  al := h4.trans h.al
end
/-- What is done with a write: done, or lost. -/
def stp (ok : Bool) (x : SS) (n : Int) : SS := if ok then dn1 x n 4 else ls1 x n 4
theorem stp_ok {x : SS} (ok : Bool) (h : SOk x) {n : Int} (hn : (n, 4) ∈ x.fly) : SOk (stp ok x n) := by
  cases ok
  · exact h.l1 hn
  · exact h.d1 hn
theorem stp_al (ok : Bool) (x : SS) (n : Int) : alB (stp ok x n).R 4 = alB x.R 4 := by cases ok <;> exact alB_setF _ _ _ _
theorem stp_len (ok : Bool) (x : SS) (n : Int) : (stp ok x n).R.length = x.R.length := by cases ok <;> exact setK_len _ _ _
theorem stp_at4 (ok : Bool) {x : SS} (h : ∀ c ∈ x.R, c.at' = 4) (n : Int) : ∀ c ∈ (stp ok x n).R, c.at' = 4 := by cases ok <;> exact setF_at4 h
theorem stp_fly (ok : Bool) (x : SS) (n : Int) : (stp ok x n).fly = gdel n x.fly := by cases ok <;> rfl
theorem stp_last (ok : Bool) (x : SS) (n : Int) : (stp ok x n).last = x.last := by cases ok <;> rfl
/-- The map of blocks of a disk that is laid. -/
theorem fmt_four : (fmtL 1 2 9)[4]? = some (S zB) := by
  rw [fmtL, List.getElem?_set_ne (by decide), List.getElem?_set_ne (by decide)]
  rfl
theorem sT_nil : sT [] = fmtL 1 2 9 := by
  rw [sT, show dkB [] 4 = zB from rfl]
  have h : 4 < (fmtL 1 2 9).length := by rw [fmtL_len g129, fZ129]; decide
  have h2 := fmt_four
  rw [List.getElem?_eq_getElem h] at h2
  rw [← Option.some.inj h2]
  exact List.set_getElem_self h
section
variable {H : HL} {nx : Nat} {a bb c : Int}
set_option maxRecDepth 100000 in
set_option maxHeartbeats 8000000 in
/-- A disk is laid, and a side begins: the disk itself, and the side told open. -/
theorem laidC_h (hg : Gok a bb c) :
    FnH Tryz.prog 12 [geoT a bb c] H nx ⟨.tup [.c (.nm nx), .c (.p (nx + 1) 0)], [(true, .ab (exP (dP (fmtL a bb c) [] 0))), (true, .cells [.nm (nx + 2), .nm nx, iT 0, iT 0, .mp (nx + 3)] 79), (true, .ab (depX [] 0)), (true, .mp [])], [], []⟩ := by
  obtain ⟨hn, hs, h2, h132, hz, h403, hme, hmp, hie, his⟩ := fgeo hg
  refine fnM (fn := Tryz.f12) 34 rfl rfl rfl (args' := [geoT a bb c]) (H' := []) (nx' := 0) [] (fun e w M => ⟨e, ⟨fun n b o h => (by cases h), fun n o m c q h => (by cases h)⟩, rfl⟩) rfl rfl rfl (fun e w M u hu => by cases hu) (fun u hu => by cases hu) (by simp) (v' := .tup [.c (.nm 0), .c (.p 1 0)]) (news' := [(true, .ab (exP (dP (fmtL a bb c) [] 0))), (true, .cells [.nm 2, .nm 0, iT 0, iT 0, .mp 3] 79), (true, .ab (depX [] 0)), (true, .mp [])]) (by simp only [SV.re, TV.re, CV.re, List.map, reT, List.length_nil, Nat.sub_zero, Nat.add_zero]) (by simp only [reN, Ob.re, reC, CV.re, List.length_nil, Nat.sub_zero, Nat.add_zero]) rfl rfl rfl fun w Wh => ?_
  have hsz := gsize0 a bb c
  rw [hs] at hsz
  have hnew := fun (H : HL) (nx : Nat) => newA (H := H) (nx := nx) (n := fZ a bb c) (by omega) (by omega)
  refine rn [(9, .ret (.t (.c (iT (fZ a bb c : Nat))))), (10, .spec ⟨.tup [.c (.nm 1), .c (iT 0)], [(true, .ab (exP (dP (S0 (fZ a bb c)) [] 0)))], [], []⟩), (20002, .dec true)] rfl (by (repeat' (first | exact trivial | exact rfl | exact trivial | exact fun _ => trivial | first | exact hsz | exact hnew _ _ | rfl | decide | refine And.intro ?_ ?_))) ?_
  refine At.ex (φ := dP (S0 (fZ a bb c)) [] 0) 1 rfl (fun _ => absP_stable _ _) fun bk => ?_
  have hlay := fun (H : HL) (nx : Nat) (h1 : lookH H 1 = some (true, .ab (dP (S0 (fZ a bb c)) [] 0 bk))) => alay_h (nx := nx) h1 hg (S0_len _)
  have hso := fun (H : HL) (nx : Nat) (h1 : lookH H 1 = some (true, .ab (dP (fmtL a bb c) [] 0 bk))) => softNewG (nx := nx) (node := 0) h1 (.inl rfl)
  refine rn [(14, .spec ⟨.t (.c (.b false)), [], [], []⟩), (15, .dec false), (19, .dec false), (22, .spec ⟨.t (.c (iT 0)), [], [(1, some (.ab (dP (fmtL a bb c) [] 0 bk)))], []⟩), (24, .dec false), (27, .spec ⟨.tup [.c (.nm 2), .c (iT 0)], [(true, .ab (sfX 0 bk))], [(1, some (.ab (dP (fmtL a bb c) [] 0 bk)))], []⟩)] rfl (by (repeat' (first | exact trivial | exact rfl | exact trivial | exact fun _ => trivial | first | exact nilDq2 rfl rfl rfl rfl | exact hlay _ _ rfl | exact hso _ _ rfl | rfl | decide | refine And.intro ?_ ?_))) ?_
  refine ⟨fun h => absurd h (by decide), fun _ => ?_⟩
  refine At.ex (φ := fun p : Nat × Nat => sfB [] [] 0 p.1 p.2 bk) 2 rfl (fun _ => sfB_st _ _ _ _ _ _) fun p => ?_
  obtain ⟨b, bd⟩ := p
  refine At.ex (φ := fun x : { x : DV × WW // DR x.1 x.2 [] } => sfP x.1.1 x.1.2 ([] : List Ch).length [] 0 b bd bk) 2 rfl (fun _ => absP_stable _ _) fun x => ?_
  obtain ⟨⟨V, W⟩, hx⟩ := x
  have hV : V = [] := List.length_eq_zero_iff.1 hx.len
  subst hV
  refine At.unfold 2 (O := sfO [] W 0 [] 0 b bd bk) (x := .p 0 0) rfl rfl rfl ?_
  refine At.recellT (cs' := [.nm 4, .nm 1, iT 0, iT 0, .mp 6]) 3 rfl (fun S => ?_) (show ∀ m ∈ flatN ([CV.nm 4, .nm 1, iT 0, iT 0, .mp 6].map CV.ns), m < 9 from by decide) ?_
  · have h1 := den_pinT (n := 1) (m := 7) (bk := bk) S rfl (disk_pins _ _ _ _) rfl
    simp only [List.map_cons, List.map_nil, h1]
    rfl
  refine At.weak 4 (φ' := depX [] 0) rfl (exP_stable fun _ => absP_stable _ _) (fun v F w h => ⟨bd, h⟩) ?_
  refine At.weak 1 (φ' := exP (dP (fmtL a bb c) [] 0)) rfl (exP_stable fun _ => absP_stable _ _) (fun v F w h => ⟨bk, h⟩) ?_
  refine rn [] rfl (by repeat' (first | exact trivial | exact rfl | refine And.intro ?_ ?_)) ?_
  exact retM tysOk [(0, 1), (1, 3), (2, 4), (3, 6)] rfl (by repeat' (first | exact trivial | exact rfl | refine And.intro ?_ ?_)) (by repeat' (first | exact trivial | exact rfl | refine And.intro ?_ ?_)) rfl rfl
end
end Cw
namespace Cw
open Go Vc
open Go.Proofs
set_option maxRecDepth 100000
def btv (l : List Bool) : List Value := l.map Value.bool
theorem btv_len (l : List Bool) : (btv l).length = l.length := by simp [btv]
theorem btv_at {l : List Bool} {p : Nat} (h : p < l.length) : (btv l)[(p : Int).toNat * 1]? = some (.bool l[p]) := by
  simp [btv, h]
theorem btv_at0 {l : List Bool} {p : Nat} (h : p < l.length) : (btv l)[0 + (p : Int).toNat * 1]? = some (.bool l[p]) := by
  rw [Nat.zero_add]; exact btv_at h
theorem btv_set {l : List Bool} {p : Nat} (h : p < l.length) (v : Bool) : Vc.setAt (btv l) (0 + (p : Int).toNat * 1) [Value.bool v] = btv (l.set p v) := by
  rw [show 0 + (p : Int).toNat * 1 = p by omega, Vc.setAt, btv, btv, List.map_set, List.set_eq_take_append_cons_drop, if_pos (by simpa using h)]
  simp
theorem has_same {l : List Bool} {p : Nat} (h : p < l.length) (hv : l[p] = false) : l.set p false = l := by
  rw [← hv]
  exact List.set_getElem_self h
theorem emodT (x : Int) {n : Nat} (h : 0 < n) : ∃ a : Nat, a < n ∧ x % (n : Int) = (a : Int) := by
  have h1 := Int.emod_nonneg x (show (n : Int) ≠ 0 by omega)
  have h2 := Int.emod_lt_of_pos x (show (0 : Int) < (n : Int) by omega)
  exact ⟨(x % (n : Int)).toNat, by omega, by omega⟩
theorem nilDT {H : HL} {nx d : Nat} {S : List ByteArray} {Y : List (Int × Wr)} {last : Int} {b1 : Bool} {b : Nat} (hd : lookH H d = some (b1, .ab (dP S Y last b))) {Lc : LL} {o : Oper} {x y : Operand} (hop : o.op = .binOp .eql 42 x y 42) (hx : ev Lc x = some (.c (.nm d))) (hy : ev Lc y = some (.c .np)) : Spec Tryz.prog Lc H nx o ⟨.t (.c (.b false)), [], [], []⟩ := nilDq2 hd hop hx hy
theorem nilST {H : HL} {nx d b bd bk : Nat} {b1 : Bool} {R : List Ch} {fly : List (Int × Int)} {node : Int} (hd : lookH H d = some (b1, .ab (sfB R fly node b bd bk))) {Lc : LL} {o : Oper} {x y : Operand} (hop : o.op = .binOp .eql 43 x y 43) (hx : ev Lc x = some (.c (.nm d))) (hy : ev Lc y = some (.c .np)) : Spec Tryz.prog Lc H nx o ⟨.t (.c (.b false)), [], [], []⟩ :=
  spec_nil tysOk hop hx hy rfl rfl hd (NotNil.pins (sfB_pins _ _ _ _ _ _))
set_option maxRecDepth 100000 in
set_option maxHeartbeats 32000000 in
theorem topTakes_h (acts : List Int) (drops : List Bool) (za : acts.length ≤ 100000000000000) (zd : drops.length ≤ 200000000000000) :
    FnH Tryz.prog 5 [.c (.nm 0), .c (.nm 1)] [(0, some (false, .rd 1 acts.length (ivs acts))), (1, some (false, .rd 1 drops.length (btv drops)))] 2 ⟨.t (.c (.b true)), [], [], []⟩ := by
  refine fnR (fn := Tryz.f5) 213 rfl rfl rfl (args' := [.c (.nm 0), .c (.nm 1)]) (H' := [(0, some (false, .rd 1 acts.length (ivs acts))), (1, some (false, .rd 1 drops.length (btv drops)))]) (nx' := 2) (fun e w M => ⟨_, mem_rd (fun n => n) (H' := [(0, some (false, .rd 1 acts.length (ivs acts))), (1, some (false, .rd 1 drops.length (btv drops)))]) ⟨⟨false, rfl⟩, ⟨false, rfl⟩, trivial⟩ M, rfl⟩) rfl rfl rfl rfl fun w => ?_
  have hla := fun (H : HL) (nx : Nat) => laidC_h (H := H) (nx := nx) g129
  rw [← sT_nil] at hla
  refine rn [(38, .spec ⟨.tup [.c (.nm 3), .c (.p 4 0)], [(true, .ab (exP (dP (sT []) [] 0))), (true, .cells [.nm 5, .nm 3, iT 0, iT 0, .mp 6] 79), (true, .ab (depX [] 0)), (true, .mp [])], [], []⟩), (20003, .dec true)] rfl (by (repeat' (first | exact trivial | exact rfl | exact trivial | exact fun _ => trivial | first | exact hla _ _ | rfl | decide | refine And.intro ?_ ?_))) ?_
  refine At.ex (φ := dP (sT []) [] 0) 3 rfl (fun _ => absP_stable _ _) fun bk => ?_
  refine At.ex (φ := depP [] 0) 5 rfl (fun _ => absP_stable _ _) fun bd => ?_
  refine At.num bk ?_
  refine At.recellT (cs' := [.nm 5, .p 7 0, iT 0, iT 0, .mp 6]) 4 rfl (fun S => ?_) (by decide) ?_
  · have h1 := den_pinT (n := 3) (m := 7) (bk := bk) S rfl (disk_pins _ _ _ _) rfl
    simp only [List.map_cons, List.map_nil, h1]
  refine At.newE (frzP []) (.pointer none) (frzP_stable _) rfl (fun w p hp => by cases hp) ?_
  refine At.pin 4 rfl fun b => ?_
  refine At.foldR 7 (.p 4 0) [(0, 4), (1, 5), (2, 8), (3, 6), (4, 7), (5, 9)] (sfO [] [] 0 [] 0 b bd bk) (.p 0 0) rfl (by repeat' (first | exact trivial | exact rfl | refine And.intro ?_ ?_)) (by repeat' (first | exact trivial | exact rfl | refine And.intro ?_ ?_)) rfl rfl (fun _ => rfl) ?_
  refine At.weak 10 (φ' := sfB [] [] 0 b bd bk) rfl (sfB_st _ _ _ _ _ _) (sfB_of DR.nil) ?_
  refine rn [(42, .spec ⟨.t (.c (.b false)), [], [], []⟩), (43, .dec false), (45, .spec ⟨.t (.c (.b false)), [], [], []⟩), (47, .dec false), (48, .spec ⟨.t (.c (.b true)), [], [], []⟩)] rfl (by (repeat' (first | exact trivial | exact rfl | exact trivial | exact fun _ => trivial | first | exact nilDT rfl rfl rfl rfl | exact nilST rfl rfl rfl rfl | exact begins_h | rfl | decide | refine And.intro ?_ ?_))) ?_
  refine ⟨fun h => absurd h (by decide), fun _ => ?_⟩
  refine rn [] rfl (by repeat' (first | exact trivial | exact rfl | refine And.intro ?_ ?_)) ?_
  refine At.loop (X := (i : Nat) ×' (R : List Ch) ×' (last : Int) ×' (has : List Bool) ×' (TkI R last has ∧ R.length ≤ i ∧ last ≤ 50 * (i : Int) ∧ i ≤ 50 ∧ i ≤ acts.length)) 12 (fun x => acts.length - x.1)
    (fun x => [(0, .t (.c (.nm 0))), (1, .t (.c (.nm 1))), (5, .t (.c (.p 2 0))), (6, .t (.c (.nm 3))), (7, .t (.c (.nm 10))), (8, .t (.c (.p 11 0))), (9, .t (.c (iT (x.1 : Nat))))])
    (fun x => [(0, some (false, .rd 1 acts.length (ivs acts))), (1, some (false, .rd 1 drops.length (btv drops))), (2, some (true, .cells [iT 1, iT 2, iT 9] 41)), (3, some (true, .ab (dkQ ⟨x.2.1, [], x.2.2.1⟩ 0 bk))), (10, some (true, .ab (sfB x.2.1 [] 0 b bd bk))), (11, some (true, .row (btv x.2.2.2.1) 62))]) ⟨0, [], 0, List.replicate 9 false, TkI.new, by simp, by decide, by omega, by omega⟩ [] (fun x => wf rfl rfl) (by repeat' (first | exact trivial | exact rfl | refine And.intro ?_ ?_)) (by repeat' (first | exact trivial | exact rfl | refine And.intro ?_ ?_)) rfl fun x => ?_
  obtain ⟨i, R, last, has, hI, hRi, hla', hi50, hil⟩ := x
  have w3 : IntKind.i64.wrap ((i : Int) + 1) = ((i + 1 : Nat) : Int) := by rw [wrap_sm (by omega) (by omega)]; omega
  refine rn [] rfl (by repeat' (first | exact trivial | exact rfl | refine And.intro ?_ ?_)) ?_
  refine ⟨fun h => ?_, fun h => ?_⟩
  · have hlt : i < acts.length := by have : (i : Int) < (acts.length : Int) := of_decide_eq_true (Bool.and_eq_true_iff.1 h).1; omega
    have h50 : i < 50 := by have : (i : Int) < 50 := of_decide_eq_true (Bool.and_eq_true_iff.1 h).2; omega
    clear h
    have e1 : (ivs acts)[(i : Int).toNat * 1]? = some (.int .i64 acts[i]) := by simpa using ivs_at hlt
    have b0 : (0 : Int) ≤ (i : Int) := by omega
    have b1 : (i : Int) < (acts.length : Int) := by omega
    generalize acts[i] = act at *
    have am9 := among0 act 9 (by decide) (by decide)
    obtain ⟨p, hp9, hpe⟩ := emodT act (n := 9) (by decide)
    rw [show ((9 : Nat) : Int) = 9 from rfl] at hpe
    rw [hpe] at am9
    have hbk := gblock0 1 2 9 0 (p : Nat)
    obtain ⟨be1, be2, _⟩ := blk129 ⟨p, hp9⟩
    simp only at be1 be2
    rw [be1, be2] at hbk
    have hph : p < has.length := by rw [hI.hl]; exact hp9
    refine rn [(66, .ld [iT act]), (67, .ret (.t (.c (iT (p : Nat))))), (68, .ret (.tup [.c (iT (7 + (p : Nat))), .c (iT 0)])), (40002, .dec true)] rfl (by (repeat' (first | exact trivial | exact rfl | exact trivial | exact fun _ => trivial | first | exact e1 | exact ⟨e1, trivial⟩ | exact b0 | exact b1 | exact am9 | exact hbk | rfl | decide | refine And.intro ?_ ?_))) ?_
    refine At.cut (Z := (R' : List Ch) ×' (has' : List Bool) ×' (TkI R' last has' ∧ R'.length ≤ i + 1)) 12
      (fun z => [(0, .t (.c (.nm 0))), (1, .t (.c (.nm 1))), (5, .t (.c (.p 2 0))), (6, .t (.c (.nm 3))), (7, .t (.c (.nm 10))), (8, .t (.c (.p 11 0))), (9, .t (.c (iT (i : Nat))))])
      (fun z => [(0, some (false, .rd 1 acts.length (ivs acts))), (1, some (false, .rd 1 drops.length (btv drops))), (2, some (true, .cells [iT 1, iT 2, iT 9] 41)), (3, some (true, .ab (dkQ ⟨z.1, [], last⟩ 0 bk))), (10, some (true, .ab (sfB z.1 [] 0 b bd bk))), (11, some (true, .row (btv z.2.1) 62))]) (fun z => wf rfl rfl) ?_ fun z => ?_
    · obtain ⟨m, hm3, hme⟩ := emodT (i : Int) (n := 3) (by decide)
      have htm : (i : Int).tmod 3 = (m : Int) := by
        rw [Int.tmod_eq_emod_of_nonneg (by omega)]
        exact hme
      rcases m with _ | _ | _ | m
      · have m0 : ((i : Int).tmod 3 == 0) = true := by rw [htm]; rfl
        refine rn [] rfl (by repeat' (first | exact trivial | exact rfl | refine And.intro ?_ ?_)) ?_
        refine ⟨fun _ => ?_, fun h => (by cases m0.symm.trans h)⟩
        rcases hI.find with ⟨q, hq, hqf, hqx⟩ | hno
        · have hq9 : q < 9 := by rw [← hI.hl]; exact hq
          have hI' := hI.plus hq true (y := 1) rfl
          have hRl : (R ++ [sfC R 4 (q : Nat) 1 []]).length = R.length + 1 := by simp
          have hblk := fun (H : HL) (nx : Nat) (h10 : lookH H 10 = some (true, .ab (sfB R [] 0 b bd bk))) (h3 : lookH H 3 = some (true, .ab (dkQ ⟨R, [], last⟩ 0 bk))) (h12 : lookH H 12 = some (true, .own 3 1 1 (ivs [0]))) => tblock (nx := nx) h10 h3 (by decide) h12 rfl hI.ok (by omega) hI.map hqx hq9 rfl
          generalize R ++ [sfC R 4 (q : Nat) 1 []] = R' at *
          have hpl := gplace0 1 2 9 (7 + (q : Nat))
          obtain ⟨_, _, q1, q2, q3⟩ := blk129 ⟨q, hq9⟩
          simp only at q1 q2 q3
          rw [q1, q2, q3] at hpl
          have k1 := btv_at0 hq
          rw [hqf] at k1
          have k2 := btv_set hq true
          have k3 : 0 + (q : Int).toNat * 1 + 1 ≤ (btv has).length := by rw [btv_len]; omega
          have d0 : (0 : Int) ≤ (q : Int) := by omega
          have d1 : (q : Int) < 9 := by omega
          refine rn [(93, .dec true), (99, .dec true), (100, .spec ⟨.tup [.c (iT (7 + (q : Nat))), .c (iT ((R.length : Int) + 1)), .c (iT 0)], [], [(10, some (.ab (sfB R' [] 0 b bd bk))), (3, some (.ab (dkQ ⟨R', [], last⟩ 0 bk)))], []⟩), (105, .dec false), (109, .ret (.tup [.c (iT 0), .c (iT (q : Nat)), .c (iT 0)])), (115, .dec false), (119, .dec false), (122, .ld [.b false]), (123, .dec false)] rfl (by (repeat' (first | exact trivial | exact rfl | exact trivial | exact fun _ => trivial | first | exact m0 | exact hblk _ _ rfl rfl rfl | exact hpl | exact k1 | exact ⟨k1, trivial⟩ | exact k3 | exact d0 | exact d1 | rfl | decide | refine And.intro ?_ ?_))) ?_
          exact cutEnd ⟨R', has.set q true, hI', by omega⟩ [] (by repeat' (first | exact trivial | exact rfl | refine And.intro ?_ ?_)) (by (repeat' (first | exact trivial | exact rfl | exact trivial | exact fun _ => trivial | exact k2 | refine And.intro ?_ ?_))) rfl
        · have hblk := fun (H : HL) (nx : Nat) (h10 : lookH H 10 = some (true, .ab (sfB R [] 0 b bd bk))) (h3 : lookH H 3 = some (true, .ab (dkQ ⟨R, [], last⟩ 0 bk))) (h12 : lookH H 12 = some (true, .own 3 1 1 (ivs [0]))) => tblockNo (nx := nx) h10 h3 (by decide) h12 rfl hI.ok (by omega) hI.map hno
          refine rn [(93, .dec true), (99, .dec true), (100, .spec ⟨.tup [.c (iT 0), .c (iT 0), .c (iT 109)], [], [(10, some (.ab (sfB R [] 0 b bd bk))), (3, some (.ab (dkQ ⟨R, [], last⟩ 0 bk)))], []⟩), (105, .dec true)] rfl (by (repeat' (first | exact trivial | exact rfl | exact trivial | exact fun _ => trivial | first | exact m0 | exact hblk _ _ rfl rfl rfl | rfl | decide | refine And.intro ?_ ?_))) ?_
          refine cutExit rfl ?_
          refine rnA [] rfl (by repeat' (first | exact trivial | exact rfl | refine And.intro ?_ ?_)) ?_
          exact roundEnd ⟨i + 1, R, last, has, hI, by omega, by omega, by omega, by omega⟩ [] (by show acts.length - (i + 1) < acts.length - i; omega) (by (repeat' (first | exact trivial | exact rfl | exact w3 | exact fun _ => w3 | refine And.intro ?_ ?_))) (by repeat' (first | exact trivial | exact rfl | refine And.intro ?_ ?_)) rfl
      · have m0 : ((i : Int).tmod 3 == 0) = false := by rw [htm]; rfl
        have m1 : ((i : Int).tmod 3 == 1) = true := by rw [htm]; rfl
        refine rn [] rfl (by repeat' (first | exact trivial | exact rfl | refine And.intro ?_ ?_)) ?_
        refine ⟨fun h => (by cases m0.symm.trans h), fun _ => ?_⟩
        rcases hI.find with ⟨q, hq, hqf, hqx⟩ | hno
        · have hq9 : q < 9 := by rw [← hI.hl]; exact hq
          have hI' := hI.plus hq true (y := 1) rfl
          have hRl : (R ++ [sfC R 4 (q : Nat) 1 []]).length = R.length + 1 := by simp
          have hblk := fun (H : HL) (nx : Nat) (h10 : lookH H 10 = some (true, .ab (sfB R [] 0 b bd bk))) (h3 : lookH H 3 = some (true, .ab (dkQ ⟨R, [], last⟩ 0 bk))) (h12 : lookH H 12 = some (true, .own 3 1 1 (ivs [0]))) => tblock (nx := nx) h10 h3 (by decide) h12 rfl hI.ok (by omega) hI.map hqx hq9 rfl
          generalize R ++ [sfC R 4 (q : Nat) 1 []] = R' at *
          have hpl := gplace0 1 2 9 (7 + (q : Nat))
          obtain ⟨_, _, q1, q2, q3⟩ := blk129 ⟨q, hq9⟩
          simp only at q1 q2 q3
          rw [q1, q2, q3] at hpl
          have k1 := btv_at0 hq
          rw [hqf] at k1
          have k2 := btv_set hq true
          have k3 : 0 + (q : Int).toNat * 1 + 1 ≤ (btv has).length := by rw [btv_len]; omega
          have d0 : (0 : Int) ≤ (q : Int) := by omega
          have d1 : (q : Int) < 9 := by omega
          refine rn [(93, .dec true), (99, .dec true), (100, .spec ⟨.tup [.c (iT (7 + (q : Nat))), .c (iT ((R.length : Int) + 1)), .c (iT 0)], [], [(10, some (.ab (sfB R' [] 0 b bd bk))), (3, some (.ab (dkQ ⟨R', [], last⟩ 0 bk)))], []⟩), (105, .dec false), (109, .ret (.tup [.c (iT 0), .c (iT (q : Nat)), .c (iT 0)])), (115, .dec false), (119, .dec false), (122, .ld [.b false]), (123, .dec false)] rfl (by (repeat' (first | exact trivial | exact rfl | exact trivial | exact fun _ => trivial | first | exact m1 | exact hblk _ _ rfl rfl rfl | exact hpl | exact k1 | exact ⟨k1, trivial⟩ | exact k3 | exact d0 | exact d1 | rfl | decide | refine And.intro ?_ ?_))) ?_
          exact cutEnd ⟨R', has.set q true, hI', by omega⟩ [] (by repeat' (first | exact trivial | exact rfl | refine And.intro ?_ ?_)) (by (repeat' (first | exact trivial | exact rfl | exact trivial | exact fun _ => trivial | exact k2 | refine And.intro ?_ ?_))) rfl
        · have hblk := fun (H : HL) (nx : Nat) (h10 : lookH H 10 = some (true, .ab (sfB R [] 0 b bd bk))) (h3 : lookH H 3 = some (true, .ab (dkQ ⟨R, [], last⟩ 0 bk))) (h12 : lookH H 12 = some (true, .own 3 1 1 (ivs [0]))) => tblockNo (nx := nx) h10 h3 (by decide) h12 rfl hI.ok (by omega) hI.map hno
          refine rn [(93, .dec true), (99, .dec true), (100, .spec ⟨.tup [.c (iT 0), .c (iT 0), .c (iT 109)], [], [(10, some (.ab (sfB R [] 0 b bd bk))), (3, some (.ab (dkQ ⟨R, [], last⟩ 0 bk)))], []⟩), (105, .dec true)] rfl (by (repeat' (first | exact trivial | exact rfl | exact trivial | exact fun _ => trivial | first | exact m1 | exact hblk _ _ rfl rfl rfl | rfl | decide | refine And.intro ?_ ?_))) ?_
          refine cutExit rfl ?_
          refine rnA [] rfl (by repeat' (first | exact trivial | exact rfl | refine And.intro ?_ ?_)) ?_
          exact roundEnd ⟨i + 1, R, last, has, hI, by omega, by omega, by omega, by omega⟩ [] (by show acts.length - (i + 1) < acts.length - i; omega) (by (repeat' (first | exact trivial | exact rfl | exact w3 | exact fun _ => w3 | refine And.intro ?_ ?_))) (by repeat' (first | exact trivial | exact rfl | refine And.intro ?_ ?_)) rfl
      · have m0 : ((i : Int).tmod 3 == 0) = false := by rw [htm]; rfl
        have m1 : ((i : Int).tmod 3 == 1) = false := by rw [htm]; rfl
        refine rn [] rfl (by repeat' (first | exact trivial | exact rfl | refine And.intro ?_ ?_)) ?_
        refine ⟨fun h => (by cases m0.symm.trans h), fun _ => ?_⟩
        have k1 := btv_at0 hph
        have k2 := btv_set hph false
        have k3 : 0 + (p : Int).toNat * 1 + 1 ≤ (btv has).length := by rw [btv_len]; omega
        have d0 : (0 : Int) ≤ (p : Int) := by omega
        have d1 : (p : Int) < 9 := by omega
        have hg1 := hI.get hph
        cases hv : has[p] with
        | true =>
          rw [hv] at k1 hg1
          have hI' := hI.plus hph false (y := 0) rfl
          have hRl : (R ++ [sfC R 4 (p : Nat) 0 []]).length = R.length + 1 := by simp
          have hfr := fun (H : HL) (nx : Nat) (h10 : lookH H 10 = some (true, .ab (sfB R [] 0 b bd bk))) (h3 : lookH H 3 = some (true, .ab (dkQ ⟨R, [], last⟩ 0 bk))) => tfree (nx := nx) (e1 := (R.length : Int) + 1) (e2 := 0) (R' := R ++ [sfC R 4 (p : Nat) 0 []]) h10 h3 (by decide) hp9 fun H nx h0 h1 => tgive h0 h1 (by decide) hI.ok (by omega) hI.map hp9 hg1 rfl
          generalize R ++ [sfC R 4 (p : Nat) 0 []] = R' at *
          refine rn [(93, .dec false), (77, .spec ⟨.tup [.c (iT ((R.length : Int) + 1)), .c (iT 0)], [], [(10, some (.ab (sfB R' [] 0 b bd bk))), (3, some (.ab (dkQ ⟨R', [], last⟩ 0 bk)))], []⟩), (83, .ld [iT act]), (84, .ret (.t (.c (iT (p : Nat))))), (89, .ld [.b true]), (90, .dec false)] rfl (by (repeat' (first | exact trivial | exact rfl | exact trivial | exact fun _ => trivial | first | exact m1 | exact hfr _ _ rfl rfl | exact e1 | exact ⟨e1, trivial⟩ | exact b0 | exact b1 | exact am9 | exact k1 | exact ⟨k1, trivial⟩ | exact k3 | exact d0 | exact d1 | rfl | decide | refine And.intro ?_ ?_))) ?_
          exact cutEnd ⟨R', has.set p false, hI', by omega⟩ [] (by repeat' (first | exact trivial | exact rfl | refine And.intro ?_ ?_)) (by (repeat' (first | exact trivial | exact rfl | exact trivial | exact fun _ => trivial | exact k2 | refine And.intro ?_ ?_))) rfl
        | false =>
          rw [hv] at k1 hg1
          have hfr := fun (H : HL) (nx : Nat) (h10 : lookH H 10 = some (true, .ab (sfB R [] 0 b bd bk))) (h3 : lookH H 3 = some (true, .ab (dkQ ⟨R, [], last⟩ 0 bk))) => tfree (nx := nx) (e1 := 0) (e2 := 120) (R' := R) h10 h3 (by decide) hp9 fun H nx h0 h1 => tgiveNo h0 h1 (by decide) hI.ok (by omega) hI.map hp9 (by rw [hg1]; decide)
          rw [has_same hph hv] at k2
          refine rn [(93, .dec false), (77, .spec ⟨.tup [.c (iT 0), .c (iT 120)], [], [(10, some (.ab (sfB R [] 0 b bd bk))), (3, some (.ab (dkQ ⟨R, [], last⟩ 0 bk)))], []⟩), (83, .ld [iT act]), (84, .ret (.t (.c (iT (p : Nat))))), (89, .ld [.b false]), (90, .dec false)] rfl (by (repeat' (first | exact trivial | exact rfl | exact trivial | exact fun _ => trivial | first | exact m1 | exact hfr _ _ rfl rfl | exact e1 | exact ⟨e1, trivial⟩ | exact b0 | exact b1 | exact am9 | exact k1 | exact ⟨k1, trivial⟩ | exact k3 | exact d0 | exact d1 | rfl | decide | refine And.intro ?_ ?_))) ?_
          exact cutEnd ⟨R, has, hI, by omega⟩ [] (by repeat' (first | exact trivial | exact rfl | refine And.intro ?_ ?_)) (by (repeat' (first | exact trivial | exact rfl | exact trivial | exact fun _ => trivial | exact k2 | refine And.intro ?_ ?_))) rfl
      · exfalso; omega
    · obtain ⟨R1, hs1, hI1, hR1⟩ := z
      have hwa := fun (H : HL) (nx : Nat) (h10 : lookH H 10 = some (true, .ab (sfB R1 [] 0 b bd bk))) (h3 : lookH H 3 = some (true, .ab (dkQ ⟨R1, [], last⟩ 0 bk))) => takWriteAll (nx := nx) (R := R1) (fly := []) (last := last) h10 h3 (by decide) hI1.ok hI1.at4 (by omega) (by omega) (.inl rfl)
      have z1 := SOk.wA (x := ⟨R1, [], last⟩) hI1.ok (secs (und R1))
      have z2 := wrA_len (secs (und R1)) ⟨R1, [], last⟩
      have z3 := wrA_last (secs (und R1)) ⟨R1, [], last⟩
      have z4 := wrA_at4 (secs (und R1)) (x := ⟨R1, [], last⟩) hI1.at4
      have z5 := wrA_al 4 (secs (und R1)) ⟨R1, [], last⟩
      have z6 := secs_le (x := ⟨R1, [], last⟩)
      have z7 : woA ⟨R1, [], last⟩ (secs (und R1)) = (wrA ⟨R1, [], last⟩ (secs (und R1))).fly.map Prod.fst := by rw [woA]; rfl
      have z9 := wrA_und (secs (und R1)) (x := ⟨R1, [], last⟩) hI1.ok
      simp only at z2 z3 z5 z6 z9
      rw [z7] at hwa
      generalize secs (und R1) = ks at *
      generalize wrA ⟨R1, [], last⟩ ks = y1 at *
      have z8 : y1.fly.length ≤ 8 := SfOk.flen z1
      refine rnA [(127, .spec ⟨.t (.c (.nm 12)), [(true, .own 3 1 (y1.fly.map Prod.fst).length (ivs (y1.fly.map Prod.fst)))], [(10, some (.ab (sfB y1.R y1.fly 0 b bd bk))), (3, some (.ab (dkQ y1 0 bk)))], []⟩)] rfl (by (repeat' (first | exact trivial | exact rfl | exact trivial | exact fun _ => trivial | first | exact hwa _ _ rfl rfl | rfl | decide | refine And.intro ?_ ?_))) ?_
      refine At.loop (X := (k : Nat) ×' (y : SS) ×' (SOk y ∧ y.fly = y1.fly.drop k ∧ (∀ c ∈ y.R, c.at' = 4) ∧ y.R.length = y1.R.length ∧ alB y.R 4 = alB R1 4 ∧ y.last = y1.last ∧ k ≤ y1.fly.length)) 13 (fun x => y1.fly.length - x.1)
        (fun y => [(0, .t (.c (.nm 0))), (1, .t (.c (.nm 1))), (5, .t (.c (.p 2 0))), (6, .t (.c (.nm 3))), (7, .t (.c (.nm 10))), (8, .t (.c (.p 11 0))), (9, .t (.c (iT (i : Nat)))), (127, .t (.c (.nm 12))), (128, .t (.c (iT ((y1.fly.map Prod.fst).length : Nat)))), (129, .t (.c (iT (y.1 : Nat))))])
        (fun y => [(0, some (false, .rd 1 acts.length (ivs acts))), (1, some (false, .rd 1 drops.length (btv drops))), (2, some (true, .cells [iT 1, iT 2, iT 9] 41)), (3, some (true, .ab (dkQ y.2.1 0 bk))), (10, some (true, .ab (sfB y.2.1.R y.2.1.fly 0 b bd bk))), (11, some (true, .row (btv hs1) 62)), (12, some (true, .own 3 1 (y1.fly.map Prod.fst).length (ivs (y1.fly.map Prod.fst))))]) ⟨0, y1, z1, rfl, z4, rfl, z5, rfl, by omega⟩ [] (fun x => wf rfl rfl) (by repeat' (first | exact trivial | exact rfl | refine And.intro ?_ ?_)) (by repeat' (first | exact trivial | exact rfl | refine And.intro ?_ ?_)) rfl fun y => ?_
      obtain ⟨k, y, v1, v2, v3, v4, v5, v6, v7⟩ := y
      obtain ⟨yR, yf, yl⟩ := y
      simp only at v2 v3 v4 v5 v6
      have w5 : IntKind.i64.wrap ((k : Int) + 1) = ((k + 1 : Nat) : Int) := by rw [wrap_sm (by omega) (by omega)]; omega
      have hml : (y1.fly.map Prod.fst).length = y1.fly.length := List.length_map _
      refine rn [] rfl (by repeat' (first | exact trivial | exact rfl | refine And.intro ?_ ?_)) ?_
      refine ⟨fun h1 => ?_, fun h1 => ?_⟩
      · have hkl : k < y1.fly.length := by have : (k : Int) < ((y1.fly.map Prod.fst).length : Int) := of_decide_eq_true h1; omega
        clear h1
        have e1 : (ivs (y1.fly.map Prod.fst))[(k : Int).toNat * 1]? = some (.int .i64 y1.fly[k].1) := by
          have := ivs_at (l := y1.fly.map Prod.fst) (k := k) (by omega)
          simpa using this
        have d0 : (0 : Int) ≤ (k : Int) := by omega
        have d1 : (k : Int) < ((y1.fly.map Prod.fst).length : Int) := by omega
        have hcons : yf = (y1.fly[k].1, y1.fly[k].2) :: y1.fly.drop (k + 1) := by rw [v2]; exact List.drop_eq_getElem_cons hkl
        generalize y1.fly[k].1 = nn at *
        generalize y1.fly[k].2 = kk at *
        have hin : (nn, kk) ∈ (⟨yR, yf, yl⟩ : SS).fly := by show (nn, kk) ∈ yf; rw [hcons]; simp
        have hk4 : kk = 4 := fly_four v1 v3 hin
        subst hk4
        have hof := (v1.fl 4).1 (List.mem_map.2 ⟨_, hin, rfl⟩)
        have hD := fun (H : HL) (nx : Nat) (h3 : lookH H 3 = some (true, .ab (dkQ ⟨yR, yf, yl⟩ 0 bk))) => takDone (nx := nx) h3 v1 hin (.inl rfl)
        have hE := fun (H : HL) (nx : Nat) (h10 : lookH H 10 = some (true, .ab (sfB yR yf 0 b bd bk))) => softDone (nx := nx) h10 (gget_of v1.key hin) hof
        rw [show setK 4 0 yR = (stp true ⟨yR, yf, yl⟩ nn).R from rfl, show gdel nn yf = (stp true ⟨yR, yf, yl⟩ nn).fly from rfl] at hE
        rw [show dn1 ⟨yR, yf, yl⟩ nn 4 = stp true ⟨yR, yf, yl⟩ nn from rfl] at hD
        have hD2 := fun (H : HL) (nx : Nat) (h3 : lookH H 3 = some (true, .ab (dkQ ⟨yR, yf, yl⟩ 0 bk))) => takLost (nx := nx) h3 v1 hin
        have hE2 := fun (H : HL) (nx : Nat) (h10 : lookH H 10 = some (true, .ab (sfB yR yf 0 b bd bk))) => softLost (nx := nx) h10 (gget_of v1.key hin) hof
        rw [show setK 4 1 yR = (stp false ⟨yR, yf, yl⟩ nn).R from rfl, show gdel nn yf = (stp false ⟨yR, yf, yl⟩ nn).fly from rfl] at hE2
        rw [show ls1 ⟨yR, yf, yl⟩ nn 4 = stp false ⟨yR, yf, yl⟩ nn from rfl] at hD2
        have u1 := fun ok => stp_ok ok v1 hin
        have u2 : ∀ ok, (stp ok ⟨yR, yf, yl⟩ nn).fly = y1.fly.drop (k + 1) := fun ok => by rw [stp_fly]; show gdel nn yf = _; rw [hcons, gdel_head]
        have u3 := fun ok => stp_at4 ok (x := ⟨yR, yf, yl⟩) v3 nn
        have u4 := fun ok => (stp_len ok ⟨yR, yf, yl⟩ nn).trans v4
        have u5 := fun ok => (stp_al ok ⟨yR, yf, yl⟩ nn).trans v5
        have u6 := fun ok => (stp_last ok ⟨yR, yf, yl⟩ nn).trans v6
        by_cases hdr : i < drops.length
        · have g1 : decide ((i : Int) ≥ (drops.length : Int)) = false := by simp; omega
          have r1 := btv_at hdr
          have c0 : (0 : Int) ≤ (i : Int) := by omega
          have c1 : (i : Int) < (drops.length : Int) := by omega
          cases hv : drops[i] with
          | true =>
            rw [hv] at r1
            have q1 := u1 false
            have q2 := u2 false
            have q3 := u3 false
            have q4 := u4 false
            have q5 := u5 false
            have q6 := u6 false
            generalize stp false ⟨yR, yf, yl⟩ nn = y2 at *
            refine rn [(132, .ld [iT nn]), (137, .dec false), (141, .ld [.b true]), (144, .dec false), (150, .spec ⟨.t (.c (iT 0)), [], [(3, some (.ab (dkQ y2 0 bk)))], []⟩), (154, .spec ⟨.tup [.c (iT 4), .c (iT 0)], [], [(10, some (.ab (sfB y2.R y2.fly 0 b bd bk)))], []⟩)] rfl
              (by (repeat' (first | exact trivial | exact rfl | exact trivial | exact fun _ => trivial | first | exact e1 | exact ⟨e1, trivial⟩ | exact d0 | exact d1 | exact hD2 _ _ rfl | exact hE2 _ _ rfl | exact g1 | exact r1 | exact ⟨r1, trivial⟩ | exact c0 | exact c1 | rfl | decide | refine And.intro ?_ ?_))) ?_
            exact roundEnd ⟨k + 1, y2, q1, q2, q3, q4, q5, q6, by omega⟩ [] (by show y1.fly.length - (k + 1) < y1.fly.length - k; omega) (by (repeat' (first | exact trivial | exact rfl | exact w5 | exact fun _ => w5 | refine And.intro ?_ ?_))) (by repeat' (first | exact trivial | exact rfl | refine And.intro ?_ ?_)) rfl
          | false =>
            rw [hv] at r1
            have q1 := u1 true
            have q2 := u2 true
            have q3 := u3 true
            have q4 := u4 true
            have q5 := u5 true
            have q6 := u6 true
            generalize stp true ⟨yR, yf, yl⟩ nn = y2 at *
            refine rn [(132, .ld [iT nn]), (137, .dec false), (141, .ld [.b false]), (144, .dec true), (147, .spec ⟨.tup [.c (.b true), .c (iT 0)], [], [(3, some (.ab (dkQ y2 0 bk)))], []⟩), (154, .spec ⟨.tup [.c (iT 4), .c (iT 0)], [], [(10, some (.ab (sfB y2.R y2.fly 0 b bd bk)))], []⟩)] rfl
              (by (repeat' (first | exact trivial | exact rfl | exact trivial | exact fun _ => trivial | first | exact e1 | exact ⟨e1, trivial⟩ | exact d0 | exact d1 | exact hD _ _ rfl | exact hE _ _ rfl | exact g1 | exact r1 | exact ⟨r1, trivial⟩ | exact c0 | exact c1 | rfl | decide | refine And.intro ?_ ?_))) ?_
            exact roundEnd ⟨k + 1, y2, q1, q2, q3, q4, q5, q6, by omega⟩ [] (by show y1.fly.length - (k + 1) < y1.fly.length - k; omega) (by (repeat' (first | exact trivial | exact rfl | exact w5 | exact fun _ => w5 | refine And.intro ?_ ?_))) (by repeat' (first | exact trivial | exact rfl | refine And.intro ?_ ?_)) rfl
        · have g1 : decide ((i : Int) ≥ (drops.length : Int)) = true := by simp; omega
          have q1 := u1 true
          have q2 := u2 true
          have q3 := u3 true
          have q4 := u4 true
          have q5 := u5 true
          have q6 := u6 true
          generalize stp true ⟨yR, yf, yl⟩ nn = y2 at *
          refine rn [(132, .ld [iT nn]), (137, .dec true), (144, .dec true), (147, .spec ⟨.tup [.c (.b true), .c (iT 0)], [], [(3, some (.ab (dkQ y2 0 bk)))], []⟩), (154, .spec ⟨.tup [.c (iT 4), .c (iT 0)], [], [(10, some (.ab (sfB y2.R y2.fly 0 b bd bk)))], []⟩)] rfl
            (by (repeat' (first | exact trivial | exact rfl | exact trivial | exact fun _ => trivial | first | exact e1 | exact ⟨e1, trivial⟩ | exact d0 | exact d1 | exact hD _ _ rfl | exact hE _ _ rfl | exact g1 | rfl | decide | refine And.intro ?_ ?_))) ?_
          exact roundEnd ⟨k + 1, y2, q1, q2, q3, q4, q5, q6, by omega⟩ [] (by show y1.fly.length - (k + 1) < y1.fly.length - k; omega) (by (repeat' (first | exact trivial | exact rfl | exact w5 | exact fun _ => w5 | refine And.intro ?_ ?_))) (by repeat' (first | exact trivial | exact rfl | refine And.intro ?_ ?_)) rfl
      · have hke : k = y1.fly.length := by have : ¬ (k : Int) < ((y1.fly.map Prod.fst).length : Int) := of_decide_eq_false h1; omega
        have hyf : yf = [] := by rw [v2, hke]; exact List.drop_length
        subst hyf
        refine rn [] rfl (by repeat' (first | exact trivial | exact rfl | refine And.intro ?_ ?_)) (roundExit rfl ?_)
        refine rnA [] rfl (by repeat' (first | exact trivial | exact rfl | refine And.intro ?_ ?_)) ?_
        exact roundEnd ⟨i + 1, yR, yl, hs1, hI1.step (x := ⟨yR, [], yl⟩) v1 rfl v3 v5, by omega, by omega, by omega, by omega⟩ [] (by show acts.length - (i + 1) < acts.length - i; omega) (by (repeat' (first | exact trivial | exact rfl | exact w3 | exact fun _ => w3 | refine And.intro ?_ ?_))) (by repeat' (first | exact trivial | exact rfl | refine And.intro ?_ ?_)) rfl
  · refine rn [] rfl (by repeat' (first | exact trivial | exact rfl | refine And.intro ?_ ?_)) (roundExit rfl ?_)
    refine rnA [] rfl (by repeat' (first | exact trivial | exact rfl | refine And.intro ?_ ?_)) ?_
    refine At.loop (X := (j : Nat) ×' (x : SS) ×' (SOk x ∧ x.fly = [] ∧ (∀ c ∈ x.R, c.at' = 4) ∧ x.R.length = R.length ∧ (und x.R).length ≤ 60 - j ∧ alB x.R 4 = alB R 4 ∧ x.last ≤ 2500 + 50 * (j : Int) ∧ j ≤ 60)) 12 (fun x => 60 - x.1)
      (fun x => [(5, .t (.c (.p 2 0))), (6, .t (.c (.nm 3))), (7, .t (.c (.nm 10))), (8, .t (.c (.p 11 0))), (156, .t (.c (iT (x.1 : Nat))))])
      (fun x => [(2, some (true, .cells [iT 1, iT 2, iT 9] 41)), (3, some (true, .ab (dkQ x.2.1 0 bk))), (10, some (true, .ab (sfB x.2.1.R x.2.1.fly 0 b bd bk))), (11, some (true, .row (btv has) 62))])
      ⟨0, ⟨R, [], last⟩, hI.ok, rfl, hI.at4, rfl, by have := List.length_filter_le (fun c : Ch => c.st != 0) R; show (und R).length ≤ 60 - 0; rw [und]; omega, rfl, by show last ≤ 2500 + 50 * ((0 : Nat) : Int); omega, by omega⟩ [] (fun x => wf rfl rfl) (by repeat' (first | exact trivial | exact rfl | refine And.intro ?_ ?_)) (by repeat' (first | exact trivial | exact rfl | refine And.intro ?_ ?_)) rfl fun x => ?_
    obtain ⟨j, x, x1, x2, x3, x4, x5, x6, x7, x8⟩ := x
    obtain ⟨xR, xf, xl⟩ := x
    simp only at x2 x3 x4 x5 x6 x7
    subst x2
    have w4 : IntKind.i64.wrap ((j : Int) + 1) = ((j + 1 : Nat) : Int) := by rw [wrap_sm (by omega) (by omega)]; omega
    refine rn [] rfl (by repeat' (first | exact trivial | exact rfl | refine And.intro ?_ ?_)) ?_
    refine ⟨fun h1 => ?_, fun h1 => ?_⟩
    · have hj60 : j < 60 := by have : (j : Int) < 60 := of_decide_eq_true h1; omega
      clear h1
      have hwa := fun (H : HL) (nx : Nat) (h10 : lookH H 10 = some (true, .ab (sfB xR [] 0 b bd bk))) (h3 : lookH H 3 = some (true, .ab (dkQ ⟨xR, [], xl⟩ 0 bk))) => takWriteAll (nx := nx) (R := xR) (fly := []) (last := xl) h10 h3 (by decide) x1 x3 (by omega) (by omega) (.inl rfl)
      have hgo := fun hu : und xR ≠ [] => SOk.goes (x := ⟨xR, [], xl⟩) x1 rfl hu
      simp only at hgo
      have z1 := SOk.wA (x := ⟨xR, [], xl⟩) x1 (secs (und xR))
      have z2 := wrA_len (secs (und xR)) ⟨xR, [], xl⟩
      have z3 := wrA_last (secs (und xR)) ⟨xR, [], xl⟩
      have z4 := wrA_at4 (secs (und xR)) (x := ⟨xR, [], xl⟩) x3
      have z5 := wrA_al 4 (secs (und xR)) ⟨xR, [], xl⟩
      have z6 := secs_le (x := ⟨xR, [], xl⟩)
      have z7 : woA ⟨xR, [], xl⟩ (secs (und xR)) = (wrA ⟨xR, [], xl⟩ (secs (und xR))).fly.map Prod.fst := by rw [woA]; rfl
      have z9 := wrA_und (secs (und xR)) (x := ⟨xR, [], xl⟩) x1
      simp only at z2 z3 z5 z6 z9
      rw [z7] at hwa
      generalize secs (und xR) = ks at *
      generalize wrA ⟨xR, [], xl⟩ ks = y1 at *
      have z8 : y1.fly.length ≤ 8 := SfOk.flen z1
      refine rn [(159, .spec ⟨.t (.c (.nm 12)), [(true, .own 3 1 (y1.fly.map Prod.fst).length (ivs (y1.fly.map Prod.fst)))], [(10, some (.ab (sfB y1.R y1.fly 0 b bd bk))), (3, some (.ab (dkQ y1 0 bk)))], []⟩)] rfl (by (repeat' (first | exact trivial | exact rfl | exact trivial | exact fun _ => trivial | first | exact hwa _ _ rfl rfl | rfl | decide | refine And.intro ?_ ?_))) ?_
      refine At.loop (X := (k : Nat) ×' (y : SS) ×' (SOk y ∧ y.fly = y1.fly.drop k ∧ (∀ c ∈ y.R, c.at' = 4) ∧ y.R.length = y1.R.length ∧ alB y.R 4 = alB R 4 ∧ y.last = y1.last ∧ (und y.R).length + k ≤ (und y1.R).length ∧ k ≤ y1.fly.length)) 13 (fun x => y1.fly.length - x.1)
        (fun y => [(5, .t (.c (.p 2 0))), (6, .t (.c (.nm 3))), (7, .t (.c (.nm 10))), (8, .t (.c (.p 11 0))), (156, .t (.c (iT (j : Nat)))), (159, .t (.c (.nm 12))), (160, .t (.c (iT ((y1.fly.map Prod.fst).length : Nat)))), (161, .t (.c (iT (y.1 : Nat))))])
        (fun y => [(2, some (true, .cells [iT 1, iT 2, iT 9] 41)), (3, some (true, .ab (dkQ y.2.1 0 bk))), (10, some (true, .ab (sfB y.2.1.R y.2.1.fly 0 b bd bk))), (11, some (true, .row (btv has) 62)), (12, some (true, .own 3 1 (y1.fly.map Prod.fst).length (ivs (y1.fly.map Prod.fst))))]) ⟨0, y1, z1, rfl, z4, rfl, z5.trans x6, rfl, by omega, by omega⟩ [] (fun x => wf rfl rfl) (by repeat' (first | exact trivial | exact rfl | refine And.intro ?_ ?_)) (by repeat' (first | exact trivial | exact rfl | refine And.intro ?_ ?_)) rfl fun y => ?_
      obtain ⟨k, y, v1, v2, v3, v4, v5, v6, v8, v7⟩ := y
      obtain ⟨yR, yf, yl⟩ := y
      simp only at v2 v3 v4 v5 v6 v8
      have w5 : IntKind.i64.wrap ((k : Int) + 1) = ((k + 1 : Nat) : Int) := by rw [wrap_sm (by omega) (by omega)]; omega
      have hml : (y1.fly.map Prod.fst).length = y1.fly.length := List.length_map _
      refine rn [] rfl (by repeat' (first | exact trivial | exact rfl | refine And.intro ?_ ?_)) ?_
      refine ⟨fun h1 => ?_, fun h1 => ?_⟩
      · have hkl : k < y1.fly.length := by have : (k : Int) < ((y1.fly.map Prod.fst).length : Int) := of_decide_eq_true h1; omega
        clear h1
        have e1 : (ivs (y1.fly.map Prod.fst))[(k : Int).toNat * 1]? = some (.int .i64 y1.fly[k].1) := by
          have := ivs_at (l := y1.fly.map Prod.fst) (k := k) (by omega)
          simpa using this
        have d0 : (0 : Int) ≤ (k : Int) := by omega
        have d1 : (k : Int) < ((y1.fly.map Prod.fst).length : Int) := by omega
        have hcons : yf = (y1.fly[k].1, y1.fly[k].2) :: y1.fly.drop (k + 1) := by rw [v2]; exact List.drop_eq_getElem_cons hkl
        generalize y1.fly[k].1 = nn at *
        generalize y1.fly[k].2 = kk at *
        have hin : (nn, kk) ∈ (⟨yR, yf, yl⟩ : SS).fly := by show (nn, kk) ∈ yf; rw [hcons]; simp
        have hk4 : kk = 4 := fly_four v1 v3 hin
        subst hk4
        have hof := (v1.fl 4).1 (List.mem_map.2 ⟨_, hin, rfl⟩)
        have hD := fun (H : HL) (nx : Nat) (h3 : lookH H 3 = some (true, .ab (dkQ ⟨yR, yf, yl⟩ 0 bk))) => takDone (nx := nx) h3 v1 hin (.inl rfl)
        have hE := fun (H : HL) (nx : Nat) (h10 : lookH H 10 = some (true, .ab (sfB yR yf 0 b bd bk))) => softDone (nx := nx) h10 (gget_of v1.key hin) hof
        rw [show setK 4 0 yR = (stp true ⟨yR, yf, yl⟩ nn).R from rfl, show gdel nn yf = (stp true ⟨yR, yf, yl⟩ nn).fly from rfl] at hE
        rw [show dn1 ⟨yR, yf, yl⟩ nn 4 = stp true ⟨yR, yf, yl⟩ nn from rfl] at hD
        have u1 := fun ok => stp_ok ok v1 hin
        have u2 : ∀ ok, (stp ok ⟨yR, yf, yl⟩ nn).fly = y1.fly.drop (k + 1) := fun ok => by rw [stp_fly]; show gdel nn yf = _; rw [hcons, gdel_head]
        have u3 := fun ok => stp_at4 ok (x := ⟨yR, yf, yl⟩) v3 nn
        have u4 := fun ok => (stp_len ok ⟨yR, yf, yl⟩ nn).trans v4
        have u5 := fun ok => (stp_al ok ⟨yR, yf, yl⟩ nn).trans v5
        have u6 := fun ok => (stp_last ok ⟨yR, yf, yl⟩ nn).trans v6
        have u7 : (und (stp true ⟨yR, yf, yl⟩ nn).R).length < (und yR).length := dn1_und v1 hin
        have q1 := u1 true
        have q2 := u2 true
        have q3 := u3 true
        have q4 := u4 true
        have q5 := u5 true
        have q6 := u6 true
        generalize stp true ⟨yR, yf, yl⟩ nn = y2 at *
        refine rn [(164, .ld [iT nn]), (168, .spec ⟨.tup [.c (.b true), .c (iT 0)], [], [(3, some (.ab (dkQ y2 0 bk)))], []⟩), (174, .spec ⟨.tup [.c (iT 4), .c (iT 0)], [], [(10, some (.ab (sfB y2.R y2.fly 0 b bd bk)))], []⟩)] rfl
          (by (repeat' (first | exact trivial | exact rfl | exact trivial | exact fun _ => trivial | first | exact e1 | exact ⟨e1, trivial⟩ | exact d0 | exact d1 | exact hD _ _ rfl | exact hE _ _ rfl | rfl | decide | refine And.intro ?_ ?_))) ?_
        exact roundEnd ⟨k + 1, y2, q1, q2, q3, q4, q5, q6, by omega, by omega⟩ [] (by show y1.fly.length - (k + 1) < y1.fly.length - k; omega) (by (repeat' (first | exact trivial | exact rfl | exact w5 | exact fun _ => w5 | refine And.intro ?_ ?_))) (by repeat' (first | exact trivial | exact rfl | refine And.intro ?_ ?_)) rfl
      · have hke : k = y1.fly.length := by have : ¬ (k : Int) < ((y1.fly.map Prod.fst).length : Int) := of_decide_eq_false h1; omega
        have hyf : yf = [] := by rw [v2, hke]; exact List.drop_length
        subst hyf
        have hfin : (und yR).length ≤ 60 - (j + 1) := by
          by_cases hu : und xR = []
          · have h0 : (und xR).length = 0 := by rw [hu]; rfl
            omega
          · have := List.length_pos_iff.2 (hgo hu)
            omega
        refine rn [] rfl (by repeat' (first | exact trivial | exact rfl | refine And.intro ?_ ?_)) (roundExit rfl ?_)
        refine rnA [] rfl (by repeat' (first | exact trivial | exact rfl | refine And.intro ?_ ?_)) ?_
        exact roundEnd ⟨j + 1, ⟨yR, [], yl⟩, v1, rfl, v3, v4.trans (z2.trans x4), hfin, v5, by show yl ≤ _; omega, by omega⟩ [] (by show 60 - (j + 1) < 60 - j; omega) (by (repeat' (first | exact trivial | exact rfl | exact w4 | exact fun _ => w4 | refine And.intro ?_ ?_))) (by repeat' (first | exact trivial | exact rfl | refine And.intro ?_ ?_)) rfl
    · have hjE : j = 60 := by have : ¬ (j : Int) < 60 := of_decide_eq_false h1; omega
      have hu0 : und xR = [] := List.length_eq_zero_iff.1 (by omega)
      have hdk : dkB xR 4 = alB R 4 := (all_done hu0 4).trans x6
      have hmp := gmap0 1 2 9 0 true
      rw [map129.1, map129.2] at hmp
      have hrd := fun (H : HL) (nx : Nat) (h3 : lookH H 3 = some (true, .ab (dkQ ⟨xR, [], xl⟩ 0 bk))) => readA (nx := nx) h3 4
      simp only [rd_ofT (R := xR) (k := 4) rfl, rdE_ofT (R := xR) (k := 4) rfl, hdk] at hrd
      refine rn [] rfl (by repeat' (first | exact trivial | exact rfl | refine And.intro ?_ ?_)) (roundExit rfl ?_)
      refine rnA [(179, .ret (.tup [.c (iT 4), .c (iT 0)])), (185, .spec ⟨.tup [.c (.s (S (alB R 4))), .c (iT 0)], [], [(3, some (.ab (dkQ ⟨xR, [], xl⟩ 0 bk)))], []⟩)] rfl (by (repeat' (first | exact trivial | exact rfl | exact trivial | exact fun _ => trivial | first | exact hmp | exact hrd _ _ rfl | rfl | decide | refine And.intro ?_ ?_))) ?_
      refine At.loop (X := (k : Nat) ×' (k ≤ 9)) 12 (fun x => 9 - x.1)
        (fun x => [(7, .t (.c (.nm 10))), (8, .t (.c (.p 11 0))), (30, .t (.c (.s (S (alB R 4))))), (188, .t (.c (iT (x.1 : Nat))))])
        (fun x => [(10, some (true, .ab (sfB xR [] 0 b bd bk))), (11, some (true, .row (btv has) 62))]) ⟨0, by omega⟩ [] (fun x => wf rfl rfl) (by repeat' (first | exact trivial | exact rfl | refine And.intro ?_ ?_)) (by repeat' (first | exact trivial | exact rfl | refine And.intro ?_ ?_)) rfl fun x => ?_
      obtain ⟨k, hk⟩ := x
      have w5 : IntKind.i64.wrap ((k : Int) + 1) = ((k + 1 : Nat) : Int) := by rw [wrap_sm (by omega) (by omega)]; omega
      refine rn [] rfl (by repeat' (first | exact trivial | exact rfl | refine And.intro ?_ ?_)) ?_
      refine ⟨fun h1 => ?_, fun h1 => ?_⟩
      · have hk9 : k < 9 := by have : (k : Int) < 9 := of_decide_eq_true h1; omega
        clear h1
        have hkh : k < has.length := by rw [hI.hl]; exact hk9
        have ht := mtaken0 hI.map hk9
        have hgk := hI.get hkh
        have k1 := btv_at0 hkh
        have d0 : (0 : Int) ≤ (k : Int) := by omega
        have d1 : (k : Int) < 9 := by omega
        have hb : decide ((alB R 4)[k]? = some 1) = has[k] := by
          rw [hgk]
          cases has[k] <;> rfl
        rw [hb] at ht
        have g1 : (has[k] != has[k]) = false := by simp
        generalize has[k] = v at *
        refine rn [(194, .ret (.tup [.c (.b v), .c (iT 0)])), (199, .dec false), (203, .ld [.b v]), (205, .dec false)] rfl (by (repeat' (first | exact trivial | exact rfl | exact trivial | exact fun _ => trivial | first | exact ht | exact k1 | exact ⟨k1, trivial⟩ | exact d0 | exact d1 | exact g1 | rfl | decide | refine And.intro ?_ ?_))) ?_
        exact roundEnd ⟨k + 1, by omega⟩ [] (by show 9 - (k + 1) < 9 - k; omega) (by (repeat' (first | exact trivial | exact rfl | exact w5 | exact fun _ => w5 | refine And.intro ?_ ?_))) (by repeat' (first | exact trivial | exact rfl | refine And.intro ?_ ?_)) rfl
      · refine rn [] rfl (by repeat' (first | exact trivial | exact rfl | refine And.intro ?_ ?_)) (roundExit rfl ?_)
        refine rnA [(20051, .dec true)] rfl (by repeat' (first | exact trivial | exact rfl | refine And.intro ?_ ?_)) ?_
        refine At.num b ?_
        refine At.num bd ?_
        refine At.alias 7 10 12 rfl (sfB_pins _ _ _ _ _ _) rfl rfl ?_
        have hL := fun (H : HL) (nx : Nat) (h10 : lookH H 10 = some (true, .ab (sfB xR [] 0 b bd bk))) (h13 : lookH H 13 = some (false, .pin 13 bd)) => leftS (nx := nx) h10 h13 (by decide)
        rw [hu0] at hL
        refine rn [(210, .spec ⟨.t (.c (.p 13 0)), [], [], []⟩), (211, .spec ⟨.t (.c (iT 0)), [], [], []⟩)] rfl
          (by (repeat' (first | exact trivial | exact rfl | exact trivial | exact fun _ => trivial | first | exact spec_rdS (r := 10) (q := 12) (m := 13) rfl rfl rfl (fun _ => rfl) rfl rfl rfl rfl | exact hL _ _ rfl rfl | rfl | decide | refine And.intro ?_ ?_))) ?_
        exact ret0 tysOk rfl (by repeat' (first | exact trivial | exact rfl | refine And.intro ?_ ?_)) rfl
theorem topTakes_true (acts : List Int) (drops : List Bool) (A1 A2 : Option Addr) (c1 c2 : Nat) (w : World) (z1 : acts.length ≤ 100000000000000) (z2 : drops.length ≤ 200000000000000) (h1 : Vc.Rds w A1 acts.length c1 1 (ivs acts)) (h2 : Vc.Rds w A2 drops.length c2 1 (btv drops)) :
    Calls Tryz.prog 5 #[.slice A1 acts.length c1, .slice A2 drops.length c2] w fun e w' => e = .returned (.bool true) ∧ RowKit.Below w.heap.size w w' := by
  obtain ⟨e, M, v0, v1⟩ := memr2 h1 h2
  have := fnh_law (topTakes_h acts drops z1 z2) rfl rfl M
  rw [show ([.c (.nm 0), .c (.nm 1)] : List TV).map (TV.den e) = [e.val 0, e.val 1] from rfl, v0, v1] at this
  exact this
end Cw
