/- The statements of deps: a sector goes on, by reckoning. -/
import Derived.Test.YtkcgmjjngpppdaaDepN
namespace Cw
open Go Vc
open Go.Proofs
set_option maxRecDepth 100000
/-- A sector goes on. -/
def mvR (R : List Ch) (k : Int) (lost : Bool) : List Ch := if ofN R k 2 = [] then setN (rdyN R k) 2 R else if lost = true then setK k 1 R else setK k 0 R
theorem mvR_len (R : List Ch) (k : Int) (lost : Bool) : (mvR R k lost).length = R.length := by
  unfold mvR
  split
  · exact setN_len _ _ _
  · split <;> exact setK_len _ _ _
theorem txt_ne {a b : ByteArray} (h : a ≠ b) : (a.toList == b.toList) = false := by
  rw [ByteArray.toList_eq, ByteArray.toList_eq]
  simp only [beq_eq_false_iff_ne]
  exact fun e => h (ByteArray.ext (Array.toList_inj.1 e))
theorem rdy_le (R : List Ch) (k : Int) : (rdyL R k).length ≤ R.length := by
  rw [rdyL, List.length_map]
  exact rdyT_le R k R.length
theorem setN_nil (s : Int) (R : List Ch) : setN [] s R = R := by
  rw [setN, setF]
  exact List.map_id' R
theorem setF_get {p : Ch → Bool} {s : Int} {R : List Ch} {i : Nat} (h : i < (setF p s R).length) : ((setF p s R)[i]).at' = (R[i]'(by rw [setF_len] at h; exact h)).at' ∧ ((setF p s R)[i]).off = (R[i]'(by rw [setF_len] at h; exact h)).off ∧ ((setF p s R)[i]).by' = (R[i]'(by rw [setF_len] at h; exact h)).by' ∧ ((setF p s R)[i]).ah = (R[i]'(by rw [setF_len] at h; exact h)).ah := by
  simp only [setF, List.getElem_map]
  split <;> exact ⟨rfl, rfl, rfl, rfl⟩
theorem RunOk.set {x : RunSt} {R : List Ch} (ok : RunOk x R) {p : Ch → Bool} {s : Int} {V' : DV} {D' F' : List ByteArray} (hdr : DR V' x.W (setF p s R)) (hov : overOk (setF p s R)) (hdk : DkOk D' F' (setF p s R)) : RunOk { x with V := V', D := D', F := F' } (setF p s R) := by
  have hl := setF_len p s R
  refine ⟨hdr, hov, ok.ok.setF p s, hdk, by rw [hl]; exact ok.ql, by rw [hl]; exact ok.al, ok.aw, fun i h h' => ?_, fun i h h' n hn => ?_, ok.az⟩
  · obtain ⟨h1, h2, h3, _⟩ := setF_get h
    rw [h1, h2, h3]
    exact ok.q i (by rw [hl] at h; exact h) h'
  · obtain ⟨_, _, _, h4⟩ := setF_get h
    rw [h4]
    exact ok.a i (by rw [hl] at h; exact h) h' n hn
theorem RunOk.next {x : RunSt} {R R' : List Ch} (ok : RunOk x R) {V' : DV} (hdr : DR V' x.W R') (hR : R' = R) : RunOk { x with V := V' } R' := by
  subst hR
  exact ⟨hdr, ok.ov, ok.ok, ok.dk, ok.ql, ok.al, ok.aw, ok.q, ok.a, ok.az⟩
theorem RunOk.sent {x : RunSt} {R R' : List Ch} {k : Int} (ok : RunOk x R) {V' : DV} {F' : List ByteArray} (hdr : DR V' x.W R') (hR : R' = setN (rdyN R k) 2 R) (hdk : DkOk x.D F' (setN (rdyN R k) 2 R)) : RunOk { x with V := V', F := F' } R' := by
  subst hR
  exact ok.set hdr (ok.ov.send ok.dr.dep k) hdk
theorem RunOk.fly {x : RunSt} {R R' : List Ch} {k s : Int} (ok : RunOk x R) {V' : DV} {D' F' : List ByteArray} (hdr : DR V' x.W R') (hR : R' = setK k s R) (hdk : DkOk D' F' (setK k s R)) : RunOk { x with V := V', D := D', F := F' } R' := by
  subst hR
  exact ok.set hdr (ok.ov.fly k s) hdk
section
variable {H : HL} {nx d q b bd : Nat} {b1 : Bool} {R : List Ch}
set_option maxRecDepth 100000 in
set_option maxHeartbeats 8000000 in
theorem move0 {x : RunSt} (hd : lookH H d = some (true, .ab (runP x R.length b bd))) (ok : RunOk x R) (hsml : R.length ≤ 1000) (at' : Int) (hk : at' % 8 = 0) (lost : Bool) :
    FnH Try.prog 31 [.c (.nm d), .c (iT at'), .c (.b lost)] H nx ⟨.t (.c (.b true)), [], [(d, some (.ab (runB (mvR R 0 lost) b bd)))], []⟩ := by
  obtain ⟨V, W, D, F, Q, A⟩ := x
  have ok0 := ok
  obtain ⟨hdr, hov, hob, hdk, hql, hal, haw, hq, ha, haz⟩ := ok
  simp only at hdr hdk hql hal haw hq ha
  obtain ⟨d0, d1, d2, d3, d4, d5, d6, d7, rfl⟩ := eight hdk.d8
  obtain ⟨f0, f1, f2, f3, f4, f5, f6, f7, rfl⟩ := eight hdk.f8
  have hf0 : f0 = if ofN R 0 2 = [] then ⟨#[]⟩ else S (flB R 0) := hdk.fl 0 (by show 0 < 8; decide)
  have am := among0 at' 8 (by decide) (by decide)
  rw [hk] at am
  refine fnA (fn := Try.f31) 103 rfl rfl rfl hd (ptr b) (run_pins _ _ _ _) (runB_pins _ _ _) rfl rfl rfl (v' := .t (.c (.b true))) (news' := []) rfl rfl rfl rfl fun w Wr => ?_
  refine At.unfoldTo 0 (L1 := [(0, .t (.c (.p 1 0))), (1, .t (.c (iT at'))), (2, .t (.c (.b lost)))]) (H1 := [(1, some (true, .cells [.nm 2, .s d0, .s d1, .s d2, .s d3, .s d4, .s d5, .s d6, .s d7, .s f0, .s f1, .s f2, .s f3, .s f4, .s f5, .s f6, .s f7, .nm 4, .nm 5] 61)), (2, some (true, .ab (depP V (R.length : Nat) bd))), (3, some (true, .ab (frzP W))), (4, some (true, .own 64 4 Q.length (fcs chQ Q))), (5, some (true, .own 33 1 A.length (fcs ahQ A))), (6, some (false, .pin 1 b)), (0, none), (0, some (true, .ab (runP ⟨V, W, [d0, d1, d2, d3, d4, d5, d6, d7], [f0, f1, f2, f3, f4, f5, f6, f7], Q, A⟩ R.length b bd)))]) (nx1 := 7) rfl rfl rfl rfl rfl rfl ?_
  by_cases h0 : ofN R 0 2 = []
  · rw [if_pos h0] at hf0
    have g0 : (!f0.toList == (⟨#[]⟩ : ByteArray).toList) = false := by rw [hf0]; simp
    have hd0 : d0 = S (dkB R 0) := hdk.dk 0 (by show 0 < 8; decide)
    have hsz : d0.size = 64 := by rw [hd0, S_size, dkB_len]
    have hlo := rdy_le R 0
    have hrl := hdr.z
    have him := pt_img (hob.rdyL hdr.nd 0) (by have := hsml; omega) hsz
    have hi := fun (H : HL) (nx : Nat) (h2 : lookH H 2 = some (true, .ab (depP V R.length bd))) (h3 : lookH H 3 = some (true, .ab (frzP W))) => imageP (nx := nx) h2 h3 (by decide) hdr 0 d0 (by omega)
    have hs := fun (H : HL) (nx : Nat) (h2 : lookH H 2 = some (true, .ab (depP V R.length bd))) (h3 : lookH H 3 = some (true, .ab (frzP W))) => sendP (nx := nx) h2 h3 (by decide) hdr 0
    have e1 : pt d0 (rdyP R 0) = S (imgB (rdyL R 0) (dkB R 0)) := him.1.trans (by rw [hd0]; rfl)
    have e2 : pte d0 (rdyP R 0) = 0 := him.2
    have e3 : sdL' R 0 = rdyN R 0 := by rw [sdL', h0]; rfl
    have hsd : sdR R 0 = setN (rdyN R 0) 2 R := by rw [sdR, h0]; rfl
    have hmv : mvR R 0 lost = setN (rdyN R 0) 2 R := if_pos h0
    have hdr' := hdr.send 0
    rw [hsd, ← hmv] at hdr'
    rw [e1, e2] at hi
    rw [e3] at hs
    generalize sdV V 0 = V' at *
    by_cases hr : rdyN R 0 = []
    · have e4 : sdE' R 0 = 5 := by rw [sdE', h0, hr]; rfl
      rw [e4, hr] at hs
      have hR : mvR R 0 lost = R := by rw [hmv, hr]; exact setN_nil _ _
      refine rn [(14, .ret (.t (.c (iT 0)))), (21, .dec false), (30074, .dec true), (74, .spec ⟨.tup [.c (.s (S (imgB (rdyL R 0) (dkB R 0)))), .c (iT 0)], [], [(2, some (.ab (depP V R.length bd)))], []⟩), (83, .spec ⟨.tup [.c (.nm 7), .c (iT 5)], [(true, .own 3 1 0 (ivs []))], [(2, some (.ab (depP V' R.length bd)))], []⟩), (87, .dec true), (90, .dec true)] rfl (by (repeat' (first | exact trivial | exact rfl | exact am | exact fun _ => am | first | exact g0 | exact hi _ _ rfl rfl | exact hs _ _ rfl rfl | rfl | decide | refine And.intro ?_ ?_))) ?_
      refine Done.fold [(0, 1), (1, 2), (2, 3), (3, 4), (4, 5), (5, 6)] (runO ⟨V', W, [d0, d1, d2, d3, d4, d5, d6, d7], [f0, f1, f2, f3, f4, f5, f6, f7], Q, A⟩ R.length b bd) (.p 0 0) (by repeat' (first | exact trivial | exact rfl | refine And.intro ?_ ?_)) rfl rfl (fun _ => rfl) ?_
      refine Done.weak 8 (φ' := runB (mvR R 0 lost) b bd) rfl (runB_st _ _ _) (fun v F w h => ⟨⟨_, ok0.next hdr' hR⟩, by rw [mvR_len]; exact h⟩) ?_
      exact retM tysOk [(0, 8)] rfl (by repeat' (first | exact trivial | exact rfl | refine And.intro ?_ ?_)) (by repeat' (first | exact trivial | exact rfl | refine And.intro ?_ ?_)) rfl rfl
    · have e4 : sdE' R 0 = 0 := by rw [sdE', h0]; show (if (rdyN R 0).length = 0 then _ else _) = _; rw [if_neg (fun h => hr (List.length_eq_zero_iff.1 h))]
      rw [e4] at hs
      have hdk' := hdk.send hdr.dep (k := 0) (by decide) h0 hr
      refine rn [(14, .ret (.t (.c (iT 0)))), (21, .dec false), (30074, .dec true), (74, .spec ⟨.tup [.c (.s (S (imgB (rdyL R 0) (dkB R 0)))), .c (iT 0)], [], [(2, some (.ab (depP V R.length bd)))], []⟩), (83, .spec ⟨.tup [.c (.nm 7), .c (iT 0)], [(true, .own 3 1 (rdyN R 0).length (ivs (rdyN R 0)))], [(2, some (.ab (depP V' R.length bd)))], []⟩), (87, .dec false)] rfl (by (repeat' (first | exact trivial | exact rfl | exact am | exact fun _ => am | first | exact g0 | exact hi _ _ rfl rfl | exact hs _ _ rfl rfl | rfl | decide | refine And.intro ?_ ?_))) ?_
      refine Done.fold [(0, 1), (1, 2), (2, 3), (3, 4), (4, 5), (5, 6)] (runO ⟨V', W, [d0, d1, d2, d3, d4, d5, d6, d7], [f0, f1, f2, f3, f4, f5, f6, f7].set 0 (S (imgB (rdyL R 0) (dkB R 0))), Q, A⟩ R.length b bd) (.p 0 0) (by repeat' (first | exact trivial | exact rfl | refine And.intro ?_ ?_)) rfl rfl (fun _ => rfl) ?_
      refine Done.weak 8 (φ' := runB (mvR R 0 lost) b bd) rfl (runB_st _ _ _) (fun v F w h => ⟨⟨_, ok0.sent hdr' hmv hdk'⟩, by rw [mvR_len]; exact h⟩) ?_
      exact retM tysOk [(0, 8)] rfl (by repeat' (first | exact trivial | exact rfl | refine And.intro ?_ ?_)) (by repeat' (first | exact trivial | exact rfl | refine And.intro ?_ ?_)) rfl rfl
  · rw [if_neg h0] at hf0
    have g0 : (!f0.toList == (⟨#[]⟩ : ByteArray).toList) = true := by
      rw [txt_ne (fun h => by have h1 := congrArg ByteArray.size h; rw [hf0, S_size, flB_len] at h1; cases h1)]
      rfl
    have e4 : dnE' R 0 = 0 := by rw [dnE', if_neg (fun h => h0 (List.length_eq_zero_iff.1 h))]
    cases lost with
    | true =>
      have hmv : mvR R 0 true = setK 0 1 R := by rw [mvR, if_neg h0, if_pos rfl]
      have hl := fun (H : HL) (nx : Nat) (h2 : lookH H 2 = some (true, .ab (depP V R.length bd))) => lostP (nx := nx) h2 hdr 0
      have hdr' := hdr.lost 0
      rw [e4] at hl
      rw [← hmv] at hdr'
      have hdk' := hdk.lost (k := 0) (by decide)
      generalize setP V (ofI (chs V) 0 2) 1 = V' at *
      refine rn [(14, .ret (.t (.c (iT 0)))), (21, .dec true), (22, .dec true), (33, .spec ⟨.t (.c (iT 0)), [], [(2, some (.ab (depP V' R.length bd)))], []⟩)] rfl (by (repeat' (first | exact trivial | exact rfl | exact am | exact fun _ => am | first | exact g0 | exact hl _ _ rfl | rfl | decide | refine And.intro ?_ ?_))) ?_
      refine Done.fold [(0, 1), (1, 2), (2, 3), (3, 4), (4, 5), (5, 6)] (runO ⟨V', W, [d0, d1, d2, d3, d4, d5, d6, d7], [f0, f1, f2, f3, f4, f5, f6, f7].set 0 ⟨#[]⟩, Q, A⟩ R.length b bd) (.p 0 0) (by repeat' (first | exact trivial | exact rfl | refine And.intro ?_ ?_)) rfl rfl (fun _ => rfl) ?_
      refine Done.weak 7 (φ' := runB (mvR R 0 true) b bd) rfl (runB_st _ _ _) (fun v F w h => ⟨⟨_, ok0.fly hdr' hmv hdk'⟩, by rw [mvR_len]; exact h⟩) ?_
      exact retM tysOk [(0, 7)] rfl (by repeat' (first | exact trivial | exact rfl | refine And.intro ?_ ?_)) (by repeat' (first | exact trivial | exact rfl | refine And.intro ?_ ?_)) rfl rfl
    | false =>
      have hmv : mvR R 0 false = setK 0 0 R := by rw [mvR, if_neg h0, if_neg (by decide)]
      have hl := fun (H : HL) (nx : Nat) (h2 : lookH H 2 = some (true, .ab (depP V R.length bd))) => doneP (nx := nx) h2 hdr 0
      have hdr' := hdr.done 0
      rw [e4] at hl
      rw [← hmv] at hdr'
      have hdk' := hdk.done hdr.dep hov (k := 0) (by decide) h0
      generalize dnV V 0 = V' at *
      refine rn [(14, .ret (.t (.c (iT 0)))), (21, .dec true), (22, .dec false), (57, .spec ⟨.tup [.c (.nm 7), .c (iT 0)], [(true, .own 3 1 (ofN R 0 2).length (ivs (ofN R 0 2)))], [(2, some (.ab (depP V' R.length bd)))], []⟩)] rfl (by (repeat' (first | exact trivial | exact rfl | exact am | exact fun _ => am | first | exact g0 | exact hl _ _ rfl | rfl | decide | refine And.intro ?_ ?_))) ?_
      refine Done.fold [(0, 1), (1, 2), (2, 3), (3, 4), (4, 5), (5, 6)] (runO ⟨V', W, [d0, d1, d2, d3, d4, d5, d6, d7].set 0 f0, [f0, f1, f2, f3, f4, f5, f6, f7].set 0 ⟨#[]⟩, Q, A⟩ R.length b bd) (.p 0 0) (by repeat' (first | exact trivial | exact rfl | refine And.intro ?_ ?_)) rfl rfl (fun _ => rfl) ?_
      refine Done.weak 8 (φ' := runB (mvR R 0 false) b bd) rfl (runB_st _ _ _) (fun v F w h => ⟨⟨_, ok0.fly hdr' hmv hdk'⟩, by rw [mvR_len]; exact h⟩) ?_
      exact retM tysOk [(0, 8)] rfl (by repeat' (first | exact trivial | exact rfl | refine And.intro ?_ ?_)) (by repeat' (first | exact trivial | exact rfl | refine And.intro ?_ ?_)) rfl rfl
set_option maxRecDepth 100000 in
set_option maxHeartbeats 8000000 in
theorem move1 {x : RunSt} (hd : lookH H d = some (true, .ab (runP x R.length b bd))) (ok : RunOk x R) (hsml : R.length ≤ 1000) (at' : Int) (hk : at' % 8 = 1) (lost : Bool) :
    FnH Try.prog 31 [.c (.nm d), .c (iT at'), .c (.b lost)] H nx ⟨.t (.c (.b true)), [], [(d, some (.ab (runB (mvR R 1 lost) b bd)))], []⟩ := by
  obtain ⟨V, W, D, F, Q, A⟩ := x
  have ok0 := ok
  obtain ⟨hdr, hov, hob, hdk, hql, hal, haw, hq, ha, haz⟩ := ok
  simp only at hdr hdk hql hal haw hq ha
  obtain ⟨d0, d1, d2, d3, d4, d5, d6, d7, rfl⟩ := eight hdk.d8
  obtain ⟨f0, f1, f2, f3, f4, f5, f6, f7, rfl⟩ := eight hdk.f8
  have hf1 : f1 = if ofN R 1 2 = [] then ⟨#[]⟩ else S (flB R 1) := hdk.fl 1 (by show 1 < 8; decide)
  have am := among0 at' 8 (by decide) (by decide)
  rw [hk] at am
  refine fnA (fn := Try.f31) 103 rfl rfl rfl hd (ptr b) (run_pins _ _ _ _) (runB_pins _ _ _) rfl rfl rfl (v' := .t (.c (.b true))) (news' := []) rfl rfl rfl rfl fun w Wr => ?_
  refine At.unfoldTo 0 (L1 := [(0, .t (.c (.p 1 0))), (1, .t (.c (iT at'))), (2, .t (.c (.b lost)))]) (H1 := [(1, some (true, .cells [.nm 2, .s d0, .s d1, .s d2, .s d3, .s d4, .s d5, .s d6, .s d7, .s f0, .s f1, .s f2, .s f3, .s f4, .s f5, .s f6, .s f7, .nm 4, .nm 5] 61)), (2, some (true, .ab (depP V (R.length : Nat) bd))), (3, some (true, .ab (frzP W))), (4, some (true, .own 64 4 Q.length (fcs chQ Q))), (5, some (true, .own 33 1 A.length (fcs ahQ A))), (6, some (false, .pin 1 b)), (0, none), (0, some (true, .ab (runP ⟨V, W, [d0, d1, d2, d3, d4, d5, d6, d7], [f0, f1, f2, f3, f4, f5, f6, f7], Q, A⟩ R.length b bd)))]) (nx1 := 7) rfl rfl rfl rfl rfl rfl ?_
  by_cases h0 : ofN R 1 2 = []
  · rw [if_pos h0] at hf1
    have g0 : (!f1.toList == (⟨#[]⟩ : ByteArray).toList) = false := by rw [hf1]; simp
    have hd1 : d1 = S (dkB R 1) := hdk.dk 1 (by show 1 < 8; decide)
    have hsz : d1.size = 64 := by rw [hd1, S_size, dkB_len]
    have hlo := rdy_le R 1
    have hrl := hdr.z
    have him := pt_img (hob.rdyL hdr.nd 1) (by have := hsml; omega) hsz
    have hi := fun (H : HL) (nx : Nat) (h2 : lookH H 2 = some (true, .ab (depP V R.length bd))) (h3 : lookH H 3 = some (true, .ab (frzP W))) => imageP (nx := nx) h2 h3 (by decide) hdr 1 d1 (by omega)
    have hs := fun (H : HL) (nx : Nat) (h2 : lookH H 2 = some (true, .ab (depP V R.length bd))) (h3 : lookH H 3 = some (true, .ab (frzP W))) => sendP (nx := nx) h2 h3 (by decide) hdr 1
    have e1 : pt d1 (rdyP R 1) = S (imgB (rdyL R 1) (dkB R 1)) := him.1.trans (by rw [hd1]; rfl)
    have e2 : pte d1 (rdyP R 1) = 0 := him.2
    have e3 : sdL' R 1 = rdyN R 1 := by rw [sdL', h0]; rfl
    have hsd : sdR R 1 = setN (rdyN R 1) 2 R := by rw [sdR, h0]; rfl
    have hmv : mvR R 1 lost = setN (rdyN R 1) 2 R := if_pos h0
    have hdr' := hdr.send 1
    rw [hsd, ← hmv] at hdr'
    rw [e1, e2] at hi
    rw [e3] at hs
    generalize sdV V 1 = V' at *
    by_cases hr : rdyN R 1 = []
    · have e4 : sdE' R 1 = 5 := by rw [sdE', h0, hr]; rfl
      rw [e4, hr] at hs
      have hR : mvR R 1 lost = R := by rw [hmv, hr]; exact setN_nil _ _
      refine rn [(14, .ret (.t (.c (iT 1)))), (21, .dec false), (30074, .dec true), (74, .spec ⟨.tup [.c (.s (S (imgB (rdyL R 1) (dkB R 1)))), .c (iT 0)], [], [(2, some (.ab (depP V R.length bd)))], []⟩), (83, .spec ⟨.tup [.c (.nm 7), .c (iT 5)], [(true, .own 3 1 0 (ivs []))], [(2, some (.ab (depP V' R.length bd)))], []⟩), (87, .dec true), (90, .dec true)] rfl (by (repeat' (first | exact trivial | exact rfl | exact am | exact fun _ => am | first | exact g0 | exact hi _ _ rfl rfl | exact hs _ _ rfl rfl | rfl | decide | refine And.intro ?_ ?_))) ?_
      refine Done.fold [(0, 1), (1, 2), (2, 3), (3, 4), (4, 5), (5, 6)] (runO ⟨V', W, [d0, d1, d2, d3, d4, d5, d6, d7], [f0, f1, f2, f3, f4, f5, f6, f7], Q, A⟩ R.length b bd) (.p 0 0) (by repeat' (first | exact trivial | exact rfl | refine And.intro ?_ ?_)) rfl rfl (fun _ => rfl) ?_
      refine Done.weak 8 (φ' := runB (mvR R 1 lost) b bd) rfl (runB_st _ _ _) (fun v F w h => ⟨⟨_, ok0.next hdr' hR⟩, by rw [mvR_len]; exact h⟩) ?_
      exact retM tysOk [(0, 8)] rfl (by repeat' (first | exact trivial | exact rfl | refine And.intro ?_ ?_)) (by repeat' (first | exact trivial | exact rfl | refine And.intro ?_ ?_)) rfl rfl
    · have e4 : sdE' R 1 = 0 := by rw [sdE', h0]; show (if (rdyN R 1).length = 0 then _ else _) = _; rw [if_neg (fun h => hr (List.length_eq_zero_iff.1 h))]
      rw [e4] at hs
      have hdk' := hdk.send hdr.dep (k := 1) (by decide) h0 hr
      refine rn [(14, .ret (.t (.c (iT 1)))), (21, .dec false), (30074, .dec true), (74, .spec ⟨.tup [.c (.s (S (imgB (rdyL R 1) (dkB R 1)))), .c (iT 0)], [], [(2, some (.ab (depP V R.length bd)))], []⟩), (83, .spec ⟨.tup [.c (.nm 7), .c (iT 0)], [(true, .own 3 1 (rdyN R 1).length (ivs (rdyN R 1)))], [(2, some (.ab (depP V' R.length bd)))], []⟩), (87, .dec false)] rfl (by (repeat' (first | exact trivial | exact rfl | exact am | exact fun _ => am | first | exact g0 | exact hi _ _ rfl rfl | exact hs _ _ rfl rfl | rfl | decide | refine And.intro ?_ ?_))) ?_
      refine Done.fold [(0, 1), (1, 2), (2, 3), (3, 4), (4, 5), (5, 6)] (runO ⟨V', W, [d0, d1, d2, d3, d4, d5, d6, d7], [f0, f1, f2, f3, f4, f5, f6, f7].set 1 (S (imgB (rdyL R 1) (dkB R 1))), Q, A⟩ R.length b bd) (.p 0 0) (by repeat' (first | exact trivial | exact rfl | refine And.intro ?_ ?_)) rfl rfl (fun _ => rfl) ?_
      refine Done.weak 8 (φ' := runB (mvR R 1 lost) b bd) rfl (runB_st _ _ _) (fun v F w h => ⟨⟨_, ok0.sent hdr' hmv hdk'⟩, by rw [mvR_len]; exact h⟩) ?_
      exact retM tysOk [(0, 8)] rfl (by repeat' (first | exact trivial | exact rfl | refine And.intro ?_ ?_)) (by repeat' (first | exact trivial | exact rfl | refine And.intro ?_ ?_)) rfl rfl
  · rw [if_neg h0] at hf1
    have g0 : (!f1.toList == (⟨#[]⟩ : ByteArray).toList) = true := by
      rw [txt_ne (fun h => by have h1 := congrArg ByteArray.size h; rw [hf1, S_size, flB_len] at h1; cases h1)]
      rfl
    have e4 : dnE' R 1 = 0 := by rw [dnE', if_neg (fun h => h0 (List.length_eq_zero_iff.1 h))]
    cases lost with
    | true =>
      have hmv : mvR R 1 true = setK 1 1 R := by rw [mvR, if_neg h0, if_pos rfl]
      have hl := fun (H : HL) (nx : Nat) (h2 : lookH H 2 = some (true, .ab (depP V R.length bd))) => lostP (nx := nx) h2 hdr 1
      have hdr' := hdr.lost 1
      rw [e4] at hl
      rw [← hmv] at hdr'
      have hdk' := hdk.lost (k := 1) (by decide)
      generalize setP V (ofI (chs V) 1 2) 1 = V' at *
      refine rn [(14, .ret (.t (.c (iT 1)))), (21, .dec true), (22, .dec true), (33, .spec ⟨.t (.c (iT 0)), [], [(2, some (.ab (depP V' R.length bd)))], []⟩)] rfl (by (repeat' (first | exact trivial | exact rfl | exact am | exact fun _ => am | first | exact g0 | exact hl _ _ rfl | rfl | decide | refine And.intro ?_ ?_))) ?_
      refine Done.fold [(0, 1), (1, 2), (2, 3), (3, 4), (4, 5), (5, 6)] (runO ⟨V', W, [d0, d1, d2, d3, d4, d5, d6, d7], [f0, f1, f2, f3, f4, f5, f6, f7].set 1 ⟨#[]⟩, Q, A⟩ R.length b bd) (.p 0 0) (by repeat' (first | exact trivial | exact rfl | refine And.intro ?_ ?_)) rfl rfl (fun _ => rfl) ?_
      refine Done.weak 7 (φ' := runB (mvR R 1 true) b bd) rfl (runB_st _ _ _) (fun v F w h => ⟨⟨_, ok0.fly hdr' hmv hdk'⟩, by rw [mvR_len]; exact h⟩) ?_
      exact retM tysOk [(0, 7)] rfl (by repeat' (first | exact trivial | exact rfl | refine And.intro ?_ ?_)) (by repeat' (first | exact trivial | exact rfl | refine And.intro ?_ ?_)) rfl rfl
    | false =>
      have hmv : mvR R 1 false = setK 1 0 R := by rw [mvR, if_neg h0, if_neg (by decide)]
      have hl := fun (H : HL) (nx : Nat) (h2 : lookH H 2 = some (true, .ab (depP V R.length bd))) => doneP (nx := nx) h2 hdr 1
      have hdr' := hdr.done 1
      rw [e4] at hl
      rw [← hmv] at hdr'
      have hdk' := hdk.done hdr.dep hov (k := 1) (by decide) h0
      generalize dnV V 1 = V' at *
      refine rn [(14, .ret (.t (.c (iT 1)))), (21, .dec true), (22, .dec false), (57, .spec ⟨.tup [.c (.nm 7), .c (iT 0)], [(true, .own 3 1 (ofN R 1 2).length (ivs (ofN R 1 2)))], [(2, some (.ab (depP V' R.length bd)))], []⟩)] rfl (by (repeat' (first | exact trivial | exact rfl | exact am | exact fun _ => am | first | exact g0 | exact hl _ _ rfl | rfl | decide | refine And.intro ?_ ?_))) ?_
      refine Done.fold [(0, 1), (1, 2), (2, 3), (3, 4), (4, 5), (5, 6)] (runO ⟨V', W, [d0, d1, d2, d3, d4, d5, d6, d7].set 1 f1, [f0, f1, f2, f3, f4, f5, f6, f7].set 1 ⟨#[]⟩, Q, A⟩ R.length b bd) (.p 0 0) (by repeat' (first | exact trivial | exact rfl | refine And.intro ?_ ?_)) rfl rfl (fun _ => rfl) ?_
      refine Done.weak 8 (φ' := runB (mvR R 1 false) b bd) rfl (runB_st _ _ _) (fun v F w h => ⟨⟨_, ok0.fly hdr' hmv hdk'⟩, by rw [mvR_len]; exact h⟩) ?_
      exact retM tysOk [(0, 8)] rfl (by repeat' (first | exact trivial | exact rfl | refine And.intro ?_ ?_)) (by repeat' (first | exact trivial | exact rfl | refine And.intro ?_ ?_)) rfl rfl
set_option maxRecDepth 100000 in
set_option maxHeartbeats 8000000 in
theorem move2 {x : RunSt} (hd : lookH H d = some (true, .ab (runP x R.length b bd))) (ok : RunOk x R) (hsml : R.length ≤ 1000) (at' : Int) (hk : at' % 8 = 2) (lost : Bool) :
    FnH Try.prog 31 [.c (.nm d), .c (iT at'), .c (.b lost)] H nx ⟨.t (.c (.b true)), [], [(d, some (.ab (runB (mvR R 2 lost) b bd)))], []⟩ := by
  obtain ⟨V, W, D, F, Q, A⟩ := x
  have ok0 := ok
  obtain ⟨hdr, hov, hob, hdk, hql, hal, haw, hq, ha, haz⟩ := ok
  simp only at hdr hdk hql hal haw hq ha
  obtain ⟨d0, d1, d2, d3, d4, d5, d6, d7, rfl⟩ := eight hdk.d8
  obtain ⟨f0, f1, f2, f3, f4, f5, f6, f7, rfl⟩ := eight hdk.f8
  have hf2 : f2 = if ofN R 2 2 = [] then ⟨#[]⟩ else S (flB R 2) := hdk.fl 2 (by show 2 < 8; decide)
  have am := among0 at' 8 (by decide) (by decide)
  rw [hk] at am
  refine fnA (fn := Try.f31) 103 rfl rfl rfl hd (ptr b) (run_pins _ _ _ _) (runB_pins _ _ _) rfl rfl rfl (v' := .t (.c (.b true))) (news' := []) rfl rfl rfl rfl fun w Wr => ?_
  refine At.unfoldTo 0 (L1 := [(0, .t (.c (.p 1 0))), (1, .t (.c (iT at'))), (2, .t (.c (.b lost)))]) (H1 := [(1, some (true, .cells [.nm 2, .s d0, .s d1, .s d2, .s d3, .s d4, .s d5, .s d6, .s d7, .s f0, .s f1, .s f2, .s f3, .s f4, .s f5, .s f6, .s f7, .nm 4, .nm 5] 61)), (2, some (true, .ab (depP V (R.length : Nat) bd))), (3, some (true, .ab (frzP W))), (4, some (true, .own 64 4 Q.length (fcs chQ Q))), (5, some (true, .own 33 1 A.length (fcs ahQ A))), (6, some (false, .pin 1 b)), (0, none), (0, some (true, .ab (runP ⟨V, W, [d0, d1, d2, d3, d4, d5, d6, d7], [f0, f1, f2, f3, f4, f5, f6, f7], Q, A⟩ R.length b bd)))]) (nx1 := 7) rfl rfl rfl rfl rfl rfl ?_
  by_cases h0 : ofN R 2 2 = []
  · rw [if_pos h0] at hf2
    have g0 : (!f2.toList == (⟨#[]⟩ : ByteArray).toList) = false := by rw [hf2]; simp
    have hd2 : d2 = S (dkB R 2) := hdk.dk 2 (by show 2 < 8; decide)
    have hsz : d2.size = 64 := by rw [hd2, S_size, dkB_len]
    have hlo := rdy_le R 2
    have hrl := hdr.z
    have him := pt_img (hob.rdyL hdr.nd 2) (by have := hsml; omega) hsz
    have hi := fun (H : HL) (nx : Nat) (h2 : lookH H 2 = some (true, .ab (depP V R.length bd))) (h3 : lookH H 3 = some (true, .ab (frzP W))) => imageP (nx := nx) h2 h3 (by decide) hdr 2 d2 (by omega)
    have hs := fun (H : HL) (nx : Nat) (h2 : lookH H 2 = some (true, .ab (depP V R.length bd))) (h3 : lookH H 3 = some (true, .ab (frzP W))) => sendP (nx := nx) h2 h3 (by decide) hdr 2
    have e1 : pt d2 (rdyP R 2) = S (imgB (rdyL R 2) (dkB R 2)) := him.1.trans (by rw [hd2]; rfl)
    have e2 : pte d2 (rdyP R 2) = 0 := him.2
    have e3 : sdL' R 2 = rdyN R 2 := by rw [sdL', h0]; rfl
    have hsd : sdR R 2 = setN (rdyN R 2) 2 R := by rw [sdR, h0]; rfl
    have hmv : mvR R 2 lost = setN (rdyN R 2) 2 R := if_pos h0
    have hdr' := hdr.send 2
    rw [hsd, ← hmv] at hdr'
    rw [e1, e2] at hi
    rw [e3] at hs
    generalize sdV V 2 = V' at *
    by_cases hr : rdyN R 2 = []
    · have e4 : sdE' R 2 = 5 := by rw [sdE', h0, hr]; rfl
      rw [e4, hr] at hs
      have hR : mvR R 2 lost = R := by rw [hmv, hr]; exact setN_nil _ _
      refine rn [(14, .ret (.t (.c (iT 2)))), (21, .dec false), (30074, .dec true), (74, .spec ⟨.tup [.c (.s (S (imgB (rdyL R 2) (dkB R 2)))), .c (iT 0)], [], [(2, some (.ab (depP V R.length bd)))], []⟩), (83, .spec ⟨.tup [.c (.nm 7), .c (iT 5)], [(true, .own 3 1 0 (ivs []))], [(2, some (.ab (depP V' R.length bd)))], []⟩), (87, .dec true), (90, .dec true)] rfl (by (repeat' (first | exact trivial | exact rfl | exact am | exact fun _ => am | first | exact g0 | exact hi _ _ rfl rfl | exact hs _ _ rfl rfl | rfl | decide | refine And.intro ?_ ?_))) ?_
      refine Done.fold [(0, 1), (1, 2), (2, 3), (3, 4), (4, 5), (5, 6)] (runO ⟨V', W, [d0, d1, d2, d3, d4, d5, d6, d7], [f0, f1, f2, f3, f4, f5, f6, f7], Q, A⟩ R.length b bd) (.p 0 0) (by repeat' (first | exact trivial | exact rfl | refine And.intro ?_ ?_)) rfl rfl (fun _ => rfl) ?_
      refine Done.weak 8 (φ' := runB (mvR R 2 lost) b bd) rfl (runB_st _ _ _) (fun v F w h => ⟨⟨_, ok0.next hdr' hR⟩, by rw [mvR_len]; exact h⟩) ?_
      exact retM tysOk [(0, 8)] rfl (by repeat' (first | exact trivial | exact rfl | refine And.intro ?_ ?_)) (by repeat' (first | exact trivial | exact rfl | refine And.intro ?_ ?_)) rfl rfl
    · have e4 : sdE' R 2 = 0 := by rw [sdE', h0]; show (if (rdyN R 2).length = 0 then _ else _) = _; rw [if_neg (fun h => hr (List.length_eq_zero_iff.1 h))]
      rw [e4] at hs
      have hdk' := hdk.send hdr.dep (k := 2) (by decide) h0 hr
      refine rn [(14, .ret (.t (.c (iT 2)))), (21, .dec false), (30074, .dec true), (74, .spec ⟨.tup [.c (.s (S (imgB (rdyL R 2) (dkB R 2)))), .c (iT 0)], [], [(2, some (.ab (depP V R.length bd)))], []⟩), (83, .spec ⟨.tup [.c (.nm 7), .c (iT 0)], [(true, .own 3 1 (rdyN R 2).length (ivs (rdyN R 2)))], [(2, some (.ab (depP V' R.length bd)))], []⟩), (87, .dec false)] rfl (by (repeat' (first | exact trivial | exact rfl | exact am | exact fun _ => am | first | exact g0 | exact hi _ _ rfl rfl | exact hs _ _ rfl rfl | rfl | decide | refine And.intro ?_ ?_))) ?_
      refine Done.fold [(0, 1), (1, 2), (2, 3), (3, 4), (4, 5), (5, 6)] (runO ⟨V', W, [d0, d1, d2, d3, d4, d5, d6, d7], [f0, f1, f2, f3, f4, f5, f6, f7].set 2 (S (imgB (rdyL R 2) (dkB R 2))), Q, A⟩ R.length b bd) (.p 0 0) (by repeat' (first | exact trivial | exact rfl | refine And.intro ?_ ?_)) rfl rfl (fun _ => rfl) ?_
      refine Done.weak 8 (φ' := runB (mvR R 2 lost) b bd) rfl (runB_st _ _ _) (fun v F w h => ⟨⟨_, ok0.sent hdr' hmv hdk'⟩, by rw [mvR_len]; exact h⟩) ?_
      exact retM tysOk [(0, 8)] rfl (by repeat' (first | exact trivial | exact rfl | refine And.intro ?_ ?_)) (by repeat' (first | exact trivial | exact rfl | refine And.intro ?_ ?_)) rfl rfl
  · rw [if_neg h0] at hf2
    have g0 : (!f2.toList == (⟨#[]⟩ : ByteArray).toList) = true := by
      rw [txt_ne (fun h => by have h1 := congrArg ByteArray.size h; rw [hf2, S_size, flB_len] at h1; cases h1)]
      rfl
    have e4 : dnE' R 2 = 0 := by rw [dnE', if_neg (fun h => h0 (List.length_eq_zero_iff.1 h))]
    cases lost with
    | true =>
      have hmv : mvR R 2 true = setK 2 1 R := by rw [mvR, if_neg h0, if_pos rfl]
      have hl := fun (H : HL) (nx : Nat) (h2 : lookH H 2 = some (true, .ab (depP V R.length bd))) => lostP (nx := nx) h2 hdr 2
      have hdr' := hdr.lost 2
      rw [e4] at hl
      rw [← hmv] at hdr'
      have hdk' := hdk.lost (k := 2) (by decide)
      generalize setP V (ofI (chs V) 2 2) 1 = V' at *
      refine rn [(14, .ret (.t (.c (iT 2)))), (21, .dec true), (22, .dec true), (33, .spec ⟨.t (.c (iT 0)), [], [(2, some (.ab (depP V' R.length bd)))], []⟩)] rfl (by (repeat' (first | exact trivial | exact rfl | exact am | exact fun _ => am | first | exact g0 | exact hl _ _ rfl | rfl | decide | refine And.intro ?_ ?_))) ?_
      refine Done.fold [(0, 1), (1, 2), (2, 3), (3, 4), (4, 5), (5, 6)] (runO ⟨V', W, [d0, d1, d2, d3, d4, d5, d6, d7], [f0, f1, f2, f3, f4, f5, f6, f7].set 2 ⟨#[]⟩, Q, A⟩ R.length b bd) (.p 0 0) (by repeat' (first | exact trivial | exact rfl | refine And.intro ?_ ?_)) rfl rfl (fun _ => rfl) ?_
      refine Done.weak 7 (φ' := runB (mvR R 2 true) b bd) rfl (runB_st _ _ _) (fun v F w h => ⟨⟨_, ok0.fly hdr' hmv hdk'⟩, by rw [mvR_len]; exact h⟩) ?_
      exact retM tysOk [(0, 7)] rfl (by repeat' (first | exact trivial | exact rfl | refine And.intro ?_ ?_)) (by repeat' (first | exact trivial | exact rfl | refine And.intro ?_ ?_)) rfl rfl
    | false =>
      have hmv : mvR R 2 false = setK 2 0 R := by rw [mvR, if_neg h0, if_neg (by decide)]
      have hl := fun (H : HL) (nx : Nat) (h2 : lookH H 2 = some (true, .ab (depP V R.length bd))) => doneP (nx := nx) h2 hdr 2
      have hdr' := hdr.done 2
      rw [e4] at hl
      rw [← hmv] at hdr'
      have hdk' := hdk.done hdr.dep hov (k := 2) (by decide) h0
      generalize dnV V 2 = V' at *
      refine rn [(14, .ret (.t (.c (iT 2)))), (21, .dec true), (22, .dec false), (57, .spec ⟨.tup [.c (.nm 7), .c (iT 0)], [(true, .own 3 1 (ofN R 2 2).length (ivs (ofN R 2 2)))], [(2, some (.ab (depP V' R.length bd)))], []⟩)] rfl (by (repeat' (first | exact trivial | exact rfl | exact am | exact fun _ => am | first | exact g0 | exact hl _ _ rfl | rfl | decide | refine And.intro ?_ ?_))) ?_
      refine Done.fold [(0, 1), (1, 2), (2, 3), (3, 4), (4, 5), (5, 6)] (runO ⟨V', W, [d0, d1, d2, d3, d4, d5, d6, d7].set 2 f2, [f0, f1, f2, f3, f4, f5, f6, f7].set 2 ⟨#[]⟩, Q, A⟩ R.length b bd) (.p 0 0) (by repeat' (first | exact trivial | exact rfl | refine And.intro ?_ ?_)) rfl rfl (fun _ => rfl) ?_
      refine Done.weak 8 (φ' := runB (mvR R 2 false) b bd) rfl (runB_st _ _ _) (fun v F w h => ⟨⟨_, ok0.fly hdr' hmv hdk'⟩, by rw [mvR_len]; exact h⟩) ?_
      exact retM tysOk [(0, 8)] rfl (by repeat' (first | exact trivial | exact rfl | refine And.intro ?_ ?_)) (by repeat' (first | exact trivial | exact rfl | refine And.intro ?_ ?_)) rfl rfl
set_option maxRecDepth 100000 in
set_option maxHeartbeats 8000000 in
theorem move3 {x : RunSt} (hd : lookH H d = some (true, .ab (runP x R.length b bd))) (ok : RunOk x R) (hsml : R.length ≤ 1000) (at' : Int) (hk : at' % 8 = 3) (lost : Bool) :
    FnH Try.prog 31 [.c (.nm d), .c (iT at'), .c (.b lost)] H nx ⟨.t (.c (.b true)), [], [(d, some (.ab (runB (mvR R 3 lost) b bd)))], []⟩ := by
  obtain ⟨V, W, D, F, Q, A⟩ := x
  have ok0 := ok
  obtain ⟨hdr, hov, hob, hdk, hql, hal, haw, hq, ha, haz⟩ := ok
  simp only at hdr hdk hql hal haw hq ha
  obtain ⟨d0, d1, d2, d3, d4, d5, d6, d7, rfl⟩ := eight hdk.d8
  obtain ⟨f0, f1, f2, f3, f4, f5, f6, f7, rfl⟩ := eight hdk.f8
  have hf3 : f3 = if ofN R 3 2 = [] then ⟨#[]⟩ else S (flB R 3) := hdk.fl 3 (by show 3 < 8; decide)
  have am := among0 at' 8 (by decide) (by decide)
  rw [hk] at am
  refine fnA (fn := Try.f31) 103 rfl rfl rfl hd (ptr b) (run_pins _ _ _ _) (runB_pins _ _ _) rfl rfl rfl (v' := .t (.c (.b true))) (news' := []) rfl rfl rfl rfl fun w Wr => ?_
  refine At.unfoldTo 0 (L1 := [(0, .t (.c (.p 1 0))), (1, .t (.c (iT at'))), (2, .t (.c (.b lost)))]) (H1 := [(1, some (true, .cells [.nm 2, .s d0, .s d1, .s d2, .s d3, .s d4, .s d5, .s d6, .s d7, .s f0, .s f1, .s f2, .s f3, .s f4, .s f5, .s f6, .s f7, .nm 4, .nm 5] 61)), (2, some (true, .ab (depP V (R.length : Nat) bd))), (3, some (true, .ab (frzP W))), (4, some (true, .own 64 4 Q.length (fcs chQ Q))), (5, some (true, .own 33 1 A.length (fcs ahQ A))), (6, some (false, .pin 1 b)), (0, none), (0, some (true, .ab (runP ⟨V, W, [d0, d1, d2, d3, d4, d5, d6, d7], [f0, f1, f2, f3, f4, f5, f6, f7], Q, A⟩ R.length b bd)))]) (nx1 := 7) rfl rfl rfl rfl rfl rfl ?_
  by_cases h0 : ofN R 3 2 = []
  · rw [if_pos h0] at hf3
    have g0 : (!f3.toList == (⟨#[]⟩ : ByteArray).toList) = false := by rw [hf3]; simp
    have hd3 : d3 = S (dkB R 3) := hdk.dk 3 (by show 3 < 8; decide)
    have hsz : d3.size = 64 := by rw [hd3, S_size, dkB_len]
    have hlo := rdy_le R 3
    have hrl := hdr.z
    have him := pt_img (hob.rdyL hdr.nd 3) (by have := hsml; omega) hsz
    have hi := fun (H : HL) (nx : Nat) (h2 : lookH H 2 = some (true, .ab (depP V R.length bd))) (h3 : lookH H 3 = some (true, .ab (frzP W))) => imageP (nx := nx) h2 h3 (by decide) hdr 3 d3 (by omega)
    have hs := fun (H : HL) (nx : Nat) (h2 : lookH H 2 = some (true, .ab (depP V R.length bd))) (h3 : lookH H 3 = some (true, .ab (frzP W))) => sendP (nx := nx) h2 h3 (by decide) hdr 3
    have e1 : pt d3 (rdyP R 3) = S (imgB (rdyL R 3) (dkB R 3)) := him.1.trans (by rw [hd3]; rfl)
    have e2 : pte d3 (rdyP R 3) = 0 := him.2
    have e3 : sdL' R 3 = rdyN R 3 := by rw [sdL', h0]; rfl
    have hsd : sdR R 3 = setN (rdyN R 3) 2 R := by rw [sdR, h0]; rfl
    have hmv : mvR R 3 lost = setN (rdyN R 3) 2 R := if_pos h0
    have hdr' := hdr.send 3
    rw [hsd, ← hmv] at hdr'
    rw [e1, e2] at hi
    rw [e3] at hs
    generalize sdV V 3 = V' at *
    by_cases hr : rdyN R 3 = []
    · have e4 : sdE' R 3 = 5 := by rw [sdE', h0, hr]; rfl
      rw [e4, hr] at hs
      have hR : mvR R 3 lost = R := by rw [hmv, hr]; exact setN_nil _ _
      refine rn [(14, .ret (.t (.c (iT 3)))), (21, .dec false), (30074, .dec true), (74, .spec ⟨.tup [.c (.s (S (imgB (rdyL R 3) (dkB R 3)))), .c (iT 0)], [], [(2, some (.ab (depP V R.length bd)))], []⟩), (83, .spec ⟨.tup [.c (.nm 7), .c (iT 5)], [(true, .own 3 1 0 (ivs []))], [(2, some (.ab (depP V' R.length bd)))], []⟩), (87, .dec true), (90, .dec true)] rfl (by (repeat' (first | exact trivial | exact rfl | exact am | exact fun _ => am | first | exact g0 | exact hi _ _ rfl rfl | exact hs _ _ rfl rfl | rfl | decide | refine And.intro ?_ ?_))) ?_
      refine Done.fold [(0, 1), (1, 2), (2, 3), (3, 4), (4, 5), (5, 6)] (runO ⟨V', W, [d0, d1, d2, d3, d4, d5, d6, d7], [f0, f1, f2, f3, f4, f5, f6, f7], Q, A⟩ R.length b bd) (.p 0 0) (by repeat' (first | exact trivial | exact rfl | refine And.intro ?_ ?_)) rfl rfl (fun _ => rfl) ?_
      refine Done.weak 8 (φ' := runB (mvR R 3 lost) b bd) rfl (runB_st _ _ _) (fun v F w h => ⟨⟨_, ok0.next hdr' hR⟩, by rw [mvR_len]; exact h⟩) ?_
      exact retM tysOk [(0, 8)] rfl (by repeat' (first | exact trivial | exact rfl | refine And.intro ?_ ?_)) (by repeat' (first | exact trivial | exact rfl | refine And.intro ?_ ?_)) rfl rfl
    · have e4 : sdE' R 3 = 0 := by rw [sdE', h0]; show (if (rdyN R 3).length = 0 then _ else _) = _; rw [if_neg (fun h => hr (List.length_eq_zero_iff.1 h))]
      rw [e4] at hs
      have hdk' := hdk.send hdr.dep (k := 3) (by decide) h0 hr
      refine rn [(14, .ret (.t (.c (iT 3)))), (21, .dec false), (30074, .dec true), (74, .spec ⟨.tup [.c (.s (S (imgB (rdyL R 3) (dkB R 3)))), .c (iT 0)], [], [(2, some (.ab (depP V R.length bd)))], []⟩), (83, .spec ⟨.tup [.c (.nm 7), .c (iT 0)], [(true, .own 3 1 (rdyN R 3).length (ivs (rdyN R 3)))], [(2, some (.ab (depP V' R.length bd)))], []⟩), (87, .dec false)] rfl (by (repeat' (first | exact trivial | exact rfl | exact am | exact fun _ => am | first | exact g0 | exact hi _ _ rfl rfl | exact hs _ _ rfl rfl | rfl | decide | refine And.intro ?_ ?_))) ?_
      refine Done.fold [(0, 1), (1, 2), (2, 3), (3, 4), (4, 5), (5, 6)] (runO ⟨V', W, [d0, d1, d2, d3, d4, d5, d6, d7], [f0, f1, f2, f3, f4, f5, f6, f7].set 3 (S (imgB (rdyL R 3) (dkB R 3))), Q, A⟩ R.length b bd) (.p 0 0) (by repeat' (first | exact trivial | exact rfl | refine And.intro ?_ ?_)) rfl rfl (fun _ => rfl) ?_
      refine Done.weak 8 (φ' := runB (mvR R 3 lost) b bd) rfl (runB_st _ _ _) (fun v F w h => ⟨⟨_, ok0.sent hdr' hmv hdk'⟩, by rw [mvR_len]; exact h⟩) ?_
      exact retM tysOk [(0, 8)] rfl (by repeat' (first | exact trivial | exact rfl | refine And.intro ?_ ?_)) (by repeat' (first | exact trivial | exact rfl | refine And.intro ?_ ?_)) rfl rfl
  · rw [if_neg h0] at hf3
    have g0 : (!f3.toList == (⟨#[]⟩ : ByteArray).toList) = true := by
      rw [txt_ne (fun h => by have h1 := congrArg ByteArray.size h; rw [hf3, S_size, flB_len] at h1; cases h1)]
      rfl
    have e4 : dnE' R 3 = 0 := by rw [dnE', if_neg (fun h => h0 (List.length_eq_zero_iff.1 h))]
    cases lost with
    | true =>
      have hmv : mvR R 3 true = setK 3 1 R := by rw [mvR, if_neg h0, if_pos rfl]
      have hl := fun (H : HL) (nx : Nat) (h2 : lookH H 2 = some (true, .ab (depP V R.length bd))) => lostP (nx := nx) h2 hdr 3
      have hdr' := hdr.lost 3
      rw [e4] at hl
      rw [← hmv] at hdr'
      have hdk' := hdk.lost (k := 3) (by decide)
      generalize setP V (ofI (chs V) 3 2) 1 = V' at *
      refine rn [(14, .ret (.t (.c (iT 3)))), (21, .dec true), (22, .dec true), (33, .spec ⟨.t (.c (iT 0)), [], [(2, some (.ab (depP V' R.length bd)))], []⟩)] rfl (by (repeat' (first | exact trivial | exact rfl | exact am | exact fun _ => am | first | exact g0 | exact hl _ _ rfl | rfl | decide | refine And.intro ?_ ?_))) ?_
      refine Done.fold [(0, 1), (1, 2), (2, 3), (3, 4), (4, 5), (5, 6)] (runO ⟨V', W, [d0, d1, d2, d3, d4, d5, d6, d7], [f0, f1, f2, f3, f4, f5, f6, f7].set 3 ⟨#[]⟩, Q, A⟩ R.length b bd) (.p 0 0) (by repeat' (first | exact trivial | exact rfl | refine And.intro ?_ ?_)) rfl rfl (fun _ => rfl) ?_
      refine Done.weak 7 (φ' := runB (mvR R 3 true) b bd) rfl (runB_st _ _ _) (fun v F w h => ⟨⟨_, ok0.fly hdr' hmv hdk'⟩, by rw [mvR_len]; exact h⟩) ?_
      exact retM tysOk [(0, 7)] rfl (by repeat' (first | exact trivial | exact rfl | refine And.intro ?_ ?_)) (by repeat' (first | exact trivial | exact rfl | refine And.intro ?_ ?_)) rfl rfl
    | false =>
      have hmv : mvR R 3 false = setK 3 0 R := by rw [mvR, if_neg h0, if_neg (by decide)]
      have hl := fun (H : HL) (nx : Nat) (h2 : lookH H 2 = some (true, .ab (depP V R.length bd))) => doneP (nx := nx) h2 hdr 3
      have hdr' := hdr.done 3
      rw [e4] at hl
      rw [← hmv] at hdr'
      have hdk' := hdk.done hdr.dep hov (k := 3) (by decide) h0
      generalize dnV V 3 = V' at *
      refine rn [(14, .ret (.t (.c (iT 3)))), (21, .dec true), (22, .dec false), (57, .spec ⟨.tup [.c (.nm 7), .c (iT 0)], [(true, .own 3 1 (ofN R 3 2).length (ivs (ofN R 3 2)))], [(2, some (.ab (depP V' R.length bd)))], []⟩)] rfl (by (repeat' (first | exact trivial | exact rfl | exact am | exact fun _ => am | first | exact g0 | exact hl _ _ rfl | rfl | decide | refine And.intro ?_ ?_))) ?_
      refine Done.fold [(0, 1), (1, 2), (2, 3), (3, 4), (4, 5), (5, 6)] (runO ⟨V', W, [d0, d1, d2, d3, d4, d5, d6, d7].set 3 f3, [f0, f1, f2, f3, f4, f5, f6, f7].set 3 ⟨#[]⟩, Q, A⟩ R.length b bd) (.p 0 0) (by repeat' (first | exact trivial | exact rfl | refine And.intro ?_ ?_)) rfl rfl (fun _ => rfl) ?_
      refine Done.weak 8 (φ' := runB (mvR R 3 false) b bd) rfl (runB_st _ _ _) (fun v F w h => ⟨⟨_, ok0.fly hdr' hmv hdk'⟩, by rw [mvR_len]; exact h⟩) ?_
      exact retM tysOk [(0, 8)] rfl (by repeat' (first | exact trivial | exact rfl | refine And.intro ?_ ?_)) (by repeat' (first | exact trivial | exact rfl | refine And.intro ?_ ?_)) rfl rfl
set_option maxRecDepth 100000 in
set_option maxHeartbeats 8000000 in
theorem move4 {x : RunSt} (hd : lookH H d = some (true, .ab (runP x R.length b bd))) (ok : RunOk x R) (hsml : R.length ≤ 1000) (at' : Int) (hk : at' % 8 = 4) (lost : Bool) :
    FnH Try.prog 31 [.c (.nm d), .c (iT at'), .c (.b lost)] H nx ⟨.t (.c (.b true)), [], [(d, some (.ab (runB (mvR R 4 lost) b bd)))], []⟩ := by
  obtain ⟨V, W, D, F, Q, A⟩ := x
  have ok0 := ok
  obtain ⟨hdr, hov, hob, hdk, hql, hal, haw, hq, ha, haz⟩ := ok
  simp only at hdr hdk hql hal haw hq ha
  obtain ⟨d0, d1, d2, d3, d4, d5, d6, d7, rfl⟩ := eight hdk.d8
  obtain ⟨f0, f1, f2, f3, f4, f5, f6, f7, rfl⟩ := eight hdk.f8
  have hf4 : f4 = if ofN R 4 2 = [] then ⟨#[]⟩ else S (flB R 4) := hdk.fl 4 (by show 4 < 8; decide)
  have am := among0 at' 8 (by decide) (by decide)
  rw [hk] at am
  refine fnA (fn := Try.f31) 103 rfl rfl rfl hd (ptr b) (run_pins _ _ _ _) (runB_pins _ _ _) rfl rfl rfl (v' := .t (.c (.b true))) (news' := []) rfl rfl rfl rfl fun w Wr => ?_
  refine At.unfoldTo 0 (L1 := [(0, .t (.c (.p 1 0))), (1, .t (.c (iT at'))), (2, .t (.c (.b lost)))]) (H1 := [(1, some (true, .cells [.nm 2, .s d0, .s d1, .s d2, .s d3, .s d4, .s d5, .s d6, .s d7, .s f0, .s f1, .s f2, .s f3, .s f4, .s f5, .s f6, .s f7, .nm 4, .nm 5] 61)), (2, some (true, .ab (depP V (R.length : Nat) bd))), (3, some (true, .ab (frzP W))), (4, some (true, .own 64 4 Q.length (fcs chQ Q))), (5, some (true, .own 33 1 A.length (fcs ahQ A))), (6, some (false, .pin 1 b)), (0, none), (0, some (true, .ab (runP ⟨V, W, [d0, d1, d2, d3, d4, d5, d6, d7], [f0, f1, f2, f3, f4, f5, f6, f7], Q, A⟩ R.length b bd)))]) (nx1 := 7) rfl rfl rfl rfl rfl rfl ?_
  by_cases h0 : ofN R 4 2 = []
  · rw [if_pos h0] at hf4
    have g0 : (!f4.toList == (⟨#[]⟩ : ByteArray).toList) = false := by rw [hf4]; simp
    have hd4 : d4 = S (dkB R 4) := hdk.dk 4 (by show 4 < 8; decide)
    have hsz : d4.size = 64 := by rw [hd4, S_size, dkB_len]
    have hlo := rdy_le R 4
    have hrl := hdr.z
    have him := pt_img (hob.rdyL hdr.nd 4) (by have := hsml; omega) hsz
    have hi := fun (H : HL) (nx : Nat) (h2 : lookH H 2 = some (true, .ab (depP V R.length bd))) (h3 : lookH H 3 = some (true, .ab (frzP W))) => imageP (nx := nx) h2 h3 (by decide) hdr 4 d4 (by omega)
    have hs := fun (H : HL) (nx : Nat) (h2 : lookH H 2 = some (true, .ab (depP V R.length bd))) (h3 : lookH H 3 = some (true, .ab (frzP W))) => sendP (nx := nx) h2 h3 (by decide) hdr 4
    have e1 : pt d4 (rdyP R 4) = S (imgB (rdyL R 4) (dkB R 4)) := him.1.trans (by rw [hd4]; rfl)
    have e2 : pte d4 (rdyP R 4) = 0 := him.2
    have e3 : sdL' R 4 = rdyN R 4 := by rw [sdL', h0]; rfl
    have hsd : sdR R 4 = setN (rdyN R 4) 2 R := by rw [sdR, h0]; rfl
    have hmv : mvR R 4 lost = setN (rdyN R 4) 2 R := if_pos h0
    have hdr' := hdr.send 4
    rw [hsd, ← hmv] at hdr'
    rw [e1, e2] at hi
    rw [e3] at hs
    generalize sdV V 4 = V' at *
    by_cases hr : rdyN R 4 = []
    · have e4 : sdE' R 4 = 5 := by rw [sdE', h0, hr]; rfl
      rw [e4, hr] at hs
      have hR : mvR R 4 lost = R := by rw [hmv, hr]; exact setN_nil _ _
      refine rn [(14, .ret (.t (.c (iT 4)))), (21, .dec false), (30074, .dec true), (74, .spec ⟨.tup [.c (.s (S (imgB (rdyL R 4) (dkB R 4)))), .c (iT 0)], [], [(2, some (.ab (depP V R.length bd)))], []⟩), (83, .spec ⟨.tup [.c (.nm 7), .c (iT 5)], [(true, .own 3 1 0 (ivs []))], [(2, some (.ab (depP V' R.length bd)))], []⟩), (87, .dec true), (90, .dec true)] rfl (by (repeat' (first | exact trivial | exact rfl | exact am | exact fun _ => am | first | exact g0 | exact hi _ _ rfl rfl | exact hs _ _ rfl rfl | rfl | decide | refine And.intro ?_ ?_))) ?_
      refine Done.fold [(0, 1), (1, 2), (2, 3), (3, 4), (4, 5), (5, 6)] (runO ⟨V', W, [d0, d1, d2, d3, d4, d5, d6, d7], [f0, f1, f2, f3, f4, f5, f6, f7], Q, A⟩ R.length b bd) (.p 0 0) (by repeat' (first | exact trivial | exact rfl | refine And.intro ?_ ?_)) rfl rfl (fun _ => rfl) ?_
      refine Done.weak 8 (φ' := runB (mvR R 4 lost) b bd) rfl (runB_st _ _ _) (fun v F w h => ⟨⟨_, ok0.next hdr' hR⟩, by rw [mvR_len]; exact h⟩) ?_
      exact retM tysOk [(0, 8)] rfl (by repeat' (first | exact trivial | exact rfl | refine And.intro ?_ ?_)) (by repeat' (first | exact trivial | exact rfl | refine And.intro ?_ ?_)) rfl rfl
    · have e4 : sdE' R 4 = 0 := by rw [sdE', h0]; show (if (rdyN R 4).length = 0 then _ else _) = _; rw [if_neg (fun h => hr (List.length_eq_zero_iff.1 h))]
      rw [e4] at hs
      have hdk' := hdk.send hdr.dep (k := 4) (by decide) h0 hr
      refine rn [(14, .ret (.t (.c (iT 4)))), (21, .dec false), (30074, .dec true), (74, .spec ⟨.tup [.c (.s (S (imgB (rdyL R 4) (dkB R 4)))), .c (iT 0)], [], [(2, some (.ab (depP V R.length bd)))], []⟩), (83, .spec ⟨.tup [.c (.nm 7), .c (iT 0)], [(true, .own 3 1 (rdyN R 4).length (ivs (rdyN R 4)))], [(2, some (.ab (depP V' R.length bd)))], []⟩), (87, .dec false)] rfl (by (repeat' (first | exact trivial | exact rfl | exact am | exact fun _ => am | first | exact g0 | exact hi _ _ rfl rfl | exact hs _ _ rfl rfl | rfl | decide | refine And.intro ?_ ?_))) ?_
      refine Done.fold [(0, 1), (1, 2), (2, 3), (3, 4), (4, 5), (5, 6)] (runO ⟨V', W, [d0, d1, d2, d3, d4, d5, d6, d7], [f0, f1, f2, f3, f4, f5, f6, f7].set 4 (S (imgB (rdyL R 4) (dkB R 4))), Q, A⟩ R.length b bd) (.p 0 0) (by repeat' (first | exact trivial | exact rfl | refine And.intro ?_ ?_)) rfl rfl (fun _ => rfl) ?_
      refine Done.weak 8 (φ' := runB (mvR R 4 lost) b bd) rfl (runB_st _ _ _) (fun v F w h => ⟨⟨_, ok0.sent hdr' hmv hdk'⟩, by rw [mvR_len]; exact h⟩) ?_
      exact retM tysOk [(0, 8)] rfl (by repeat' (first | exact trivial | exact rfl | refine And.intro ?_ ?_)) (by repeat' (first | exact trivial | exact rfl | refine And.intro ?_ ?_)) rfl rfl
  · rw [if_neg h0] at hf4
    have g0 : (!f4.toList == (⟨#[]⟩ : ByteArray).toList) = true := by
      rw [txt_ne (fun h => by have h1 := congrArg ByteArray.size h; rw [hf4, S_size, flB_len] at h1; cases h1)]
      rfl
    have e4 : dnE' R 4 = 0 := by rw [dnE', if_neg (fun h => h0 (List.length_eq_zero_iff.1 h))]
    cases lost with
    | true =>
      have hmv : mvR R 4 true = setK 4 1 R := by rw [mvR, if_neg h0, if_pos rfl]
      have hl := fun (H : HL) (nx : Nat) (h2 : lookH H 2 = some (true, .ab (depP V R.length bd))) => lostP (nx := nx) h2 hdr 4
      have hdr' := hdr.lost 4
      rw [e4] at hl
      rw [← hmv] at hdr'
      have hdk' := hdk.lost (k := 4) (by decide)
      generalize setP V (ofI (chs V) 4 2) 1 = V' at *
      refine rn [(14, .ret (.t (.c (iT 4)))), (21, .dec true), (22, .dec true), (33, .spec ⟨.t (.c (iT 0)), [], [(2, some (.ab (depP V' R.length bd)))], []⟩)] rfl (by (repeat' (first | exact trivial | exact rfl | exact am | exact fun _ => am | first | exact g0 | exact hl _ _ rfl | rfl | decide | refine And.intro ?_ ?_))) ?_
      refine Done.fold [(0, 1), (1, 2), (2, 3), (3, 4), (4, 5), (5, 6)] (runO ⟨V', W, [d0, d1, d2, d3, d4, d5, d6, d7], [f0, f1, f2, f3, f4, f5, f6, f7].set 4 ⟨#[]⟩, Q, A⟩ R.length b bd) (.p 0 0) (by repeat' (first | exact trivial | exact rfl | refine And.intro ?_ ?_)) rfl rfl (fun _ => rfl) ?_
      refine Done.weak 7 (φ' := runB (mvR R 4 true) b bd) rfl (runB_st _ _ _) (fun v F w h => ⟨⟨_, ok0.fly hdr' hmv hdk'⟩, by rw [mvR_len]; exact h⟩) ?_
      exact retM tysOk [(0, 7)] rfl (by repeat' (first | exact trivial | exact rfl | refine And.intro ?_ ?_)) (by repeat' (first | exact trivial | exact rfl | refine And.intro ?_ ?_)) rfl rfl
    | false =>
      have hmv : mvR R 4 false = setK 4 0 R := by rw [mvR, if_neg h0, if_neg (by decide)]
      have hl := fun (H : HL) (nx : Nat) (h2 : lookH H 2 = some (true, .ab (depP V R.length bd))) => doneP (nx := nx) h2 hdr 4
      have hdr' := hdr.done 4
      rw [e4] at hl
      rw [← hmv] at hdr'
      have hdk' := hdk.done hdr.dep hov (k := 4) (by decide) h0
      generalize dnV V 4 = V' at *
      refine rn [(14, .ret (.t (.c (iT 4)))), (21, .dec true), (22, .dec false), (57, .spec ⟨.tup [.c (.nm 7), .c (iT 0)], [(true, .own 3 1 (ofN R 4 2).length (ivs (ofN R 4 2)))], [(2, some (.ab (depP V' R.length bd)))], []⟩)] rfl (by (repeat' (first | exact trivial | exact rfl | exact am | exact fun _ => am | first | exact g0 | exact hl _ _ rfl | rfl | decide | refine And.intro ?_ ?_))) ?_
      refine Done.fold [(0, 1), (1, 2), (2, 3), (3, 4), (4, 5), (5, 6)] (runO ⟨V', W, [d0, d1, d2, d3, d4, d5, d6, d7].set 4 f4, [f0, f1, f2, f3, f4, f5, f6, f7].set 4 ⟨#[]⟩, Q, A⟩ R.length b bd) (.p 0 0) (by repeat' (first | exact trivial | exact rfl | refine And.intro ?_ ?_)) rfl rfl (fun _ => rfl) ?_
      refine Done.weak 8 (φ' := runB (mvR R 4 false) b bd) rfl (runB_st _ _ _) (fun v F w h => ⟨⟨_, ok0.fly hdr' hmv hdk'⟩, by rw [mvR_len]; exact h⟩) ?_
      exact retM tysOk [(0, 8)] rfl (by repeat' (first | exact trivial | exact rfl | refine And.intro ?_ ?_)) (by repeat' (first | exact trivial | exact rfl | refine And.intro ?_ ?_)) rfl rfl
set_option maxRecDepth 100000 in
set_option maxHeartbeats 8000000 in
theorem move5 {x : RunSt} (hd : lookH H d = some (true, .ab (runP x R.length b bd))) (ok : RunOk x R) (hsml : R.length ≤ 1000) (at' : Int) (hk : at' % 8 = 5) (lost : Bool) :
    FnH Try.prog 31 [.c (.nm d), .c (iT at'), .c (.b lost)] H nx ⟨.t (.c (.b true)), [], [(d, some (.ab (runB (mvR R 5 lost) b bd)))], []⟩ := by
  obtain ⟨V, W, D, F, Q, A⟩ := x
  have ok0 := ok
  obtain ⟨hdr, hov, hob, hdk, hql, hal, haw, hq, ha, haz⟩ := ok
  simp only at hdr hdk hql hal haw hq ha
  obtain ⟨d0, d1, d2, d3, d4, d5, d6, d7, rfl⟩ := eight hdk.d8
  obtain ⟨f0, f1, f2, f3, f4, f5, f6, f7, rfl⟩ := eight hdk.f8
  have hf5 : f5 = if ofN R 5 2 = [] then ⟨#[]⟩ else S (flB R 5) := hdk.fl 5 (by show 5 < 8; decide)
  have am := among0 at' 8 (by decide) (by decide)
  rw [hk] at am
  refine fnA (fn := Try.f31) 103 rfl rfl rfl hd (ptr b) (run_pins _ _ _ _) (runB_pins _ _ _) rfl rfl rfl (v' := .t (.c (.b true))) (news' := []) rfl rfl rfl rfl fun w Wr => ?_
  refine At.unfoldTo 0 (L1 := [(0, .t (.c (.p 1 0))), (1, .t (.c (iT at'))), (2, .t (.c (.b lost)))]) (H1 := [(1, some (true, .cells [.nm 2, .s d0, .s d1, .s d2, .s d3, .s d4, .s d5, .s d6, .s d7, .s f0, .s f1, .s f2, .s f3, .s f4, .s f5, .s f6, .s f7, .nm 4, .nm 5] 61)), (2, some (true, .ab (depP V (R.length : Nat) bd))), (3, some (true, .ab (frzP W))), (4, some (true, .own 64 4 Q.length (fcs chQ Q))), (5, some (true, .own 33 1 A.length (fcs ahQ A))), (6, some (false, .pin 1 b)), (0, none), (0, some (true, .ab (runP ⟨V, W, [d0, d1, d2, d3, d4, d5, d6, d7], [f0, f1, f2, f3, f4, f5, f6, f7], Q, A⟩ R.length b bd)))]) (nx1 := 7) rfl rfl rfl rfl rfl rfl ?_
  by_cases h0 : ofN R 5 2 = []
  · rw [if_pos h0] at hf5
    have g0 : (!f5.toList == (⟨#[]⟩ : ByteArray).toList) = false := by rw [hf5]; simp
    have hd5 : d5 = S (dkB R 5) := hdk.dk 5 (by show 5 < 8; decide)
    have hsz : d5.size = 64 := by rw [hd5, S_size, dkB_len]
    have hlo := rdy_le R 5
    have hrl := hdr.z
    have him := pt_img (hob.rdyL hdr.nd 5) (by have := hsml; omega) hsz
    have hi := fun (H : HL) (nx : Nat) (h2 : lookH H 2 = some (true, .ab (depP V R.length bd))) (h3 : lookH H 3 = some (true, .ab (frzP W))) => imageP (nx := nx) h2 h3 (by decide) hdr 5 d5 (by omega)
    have hs := fun (H : HL) (nx : Nat) (h2 : lookH H 2 = some (true, .ab (depP V R.length bd))) (h3 : lookH H 3 = some (true, .ab (frzP W))) => sendP (nx := nx) h2 h3 (by decide) hdr 5
    have e1 : pt d5 (rdyP R 5) = S (imgB (rdyL R 5) (dkB R 5)) := him.1.trans (by rw [hd5]; rfl)
    have e2 : pte d5 (rdyP R 5) = 0 := him.2
    have e3 : sdL' R 5 = rdyN R 5 := by rw [sdL', h0]; rfl
    have hsd : sdR R 5 = setN (rdyN R 5) 2 R := by rw [sdR, h0]; rfl
    have hmv : mvR R 5 lost = setN (rdyN R 5) 2 R := if_pos h0
    have hdr' := hdr.send 5
    rw [hsd, ← hmv] at hdr'
    rw [e1, e2] at hi
    rw [e3] at hs
    generalize sdV V 5 = V' at *
    by_cases hr : rdyN R 5 = []
    · have e4 : sdE' R 5 = 5 := by rw [sdE', h0, hr]; rfl
      rw [e4, hr] at hs
      have hR : mvR R 5 lost = R := by rw [hmv, hr]; exact setN_nil _ _
      refine rn [(14, .ret (.t (.c (iT 5)))), (21, .dec false), (30074, .dec true), (74, .spec ⟨.tup [.c (.s (S (imgB (rdyL R 5) (dkB R 5)))), .c (iT 0)], [], [(2, some (.ab (depP V R.length bd)))], []⟩), (83, .spec ⟨.tup [.c (.nm 7), .c (iT 5)], [(true, .own 3 1 0 (ivs []))], [(2, some (.ab (depP V' R.length bd)))], []⟩), (87, .dec true), (90, .dec true)] rfl (by (repeat' (first | exact trivial | exact rfl | exact am | exact fun _ => am | first | exact g0 | exact hi _ _ rfl rfl | exact hs _ _ rfl rfl | rfl | decide | refine And.intro ?_ ?_))) ?_
      refine Done.fold [(0, 1), (1, 2), (2, 3), (3, 4), (4, 5), (5, 6)] (runO ⟨V', W, [d0, d1, d2, d3, d4, d5, d6, d7], [f0, f1, f2, f3, f4, f5, f6, f7], Q, A⟩ R.length b bd) (.p 0 0) (by repeat' (first | exact trivial | exact rfl | refine And.intro ?_ ?_)) rfl rfl (fun _ => rfl) ?_
      refine Done.weak 8 (φ' := runB (mvR R 5 lost) b bd) rfl (runB_st _ _ _) (fun v F w h => ⟨⟨_, ok0.next hdr' hR⟩, by rw [mvR_len]; exact h⟩) ?_
      exact retM tysOk [(0, 8)] rfl (by repeat' (first | exact trivial | exact rfl | refine And.intro ?_ ?_)) (by repeat' (first | exact trivial | exact rfl | refine And.intro ?_ ?_)) rfl rfl
    · have e4 : sdE' R 5 = 0 := by rw [sdE', h0]; show (if (rdyN R 5).length = 0 then _ else _) = _; rw [if_neg (fun h => hr (List.length_eq_zero_iff.1 h))]
      rw [e4] at hs
      have hdk' := hdk.send hdr.dep (k := 5) (by decide) h0 hr
      refine rn [(14, .ret (.t (.c (iT 5)))), (21, .dec false), (30074, .dec true), (74, .spec ⟨.tup [.c (.s (S (imgB (rdyL R 5) (dkB R 5)))), .c (iT 0)], [], [(2, some (.ab (depP V R.length bd)))], []⟩), (83, .spec ⟨.tup [.c (.nm 7), .c (iT 0)], [(true, .own 3 1 (rdyN R 5).length (ivs (rdyN R 5)))], [(2, some (.ab (depP V' R.length bd)))], []⟩), (87, .dec false)] rfl (by (repeat' (first | exact trivial | exact rfl | exact am | exact fun _ => am | first | exact g0 | exact hi _ _ rfl rfl | exact hs _ _ rfl rfl | rfl | decide | refine And.intro ?_ ?_))) ?_
      refine Done.fold [(0, 1), (1, 2), (2, 3), (3, 4), (4, 5), (5, 6)] (runO ⟨V', W, [d0, d1, d2, d3, d4, d5, d6, d7], [f0, f1, f2, f3, f4, f5, f6, f7].set 5 (S (imgB (rdyL R 5) (dkB R 5))), Q, A⟩ R.length b bd) (.p 0 0) (by repeat' (first | exact trivial | exact rfl | refine And.intro ?_ ?_)) rfl rfl (fun _ => rfl) ?_
      refine Done.weak 8 (φ' := runB (mvR R 5 lost) b bd) rfl (runB_st _ _ _) (fun v F w h => ⟨⟨_, ok0.sent hdr' hmv hdk'⟩, by rw [mvR_len]; exact h⟩) ?_
      exact retM tysOk [(0, 8)] rfl (by repeat' (first | exact trivial | exact rfl | refine And.intro ?_ ?_)) (by repeat' (first | exact trivial | exact rfl | refine And.intro ?_ ?_)) rfl rfl
  · rw [if_neg h0] at hf5
    have g0 : (!f5.toList == (⟨#[]⟩ : ByteArray).toList) = true := by
      rw [txt_ne (fun h => by have h1 := congrArg ByteArray.size h; rw [hf5, S_size, flB_len] at h1; cases h1)]
      rfl
    have e4 : dnE' R 5 = 0 := by rw [dnE', if_neg (fun h => h0 (List.length_eq_zero_iff.1 h))]
    cases lost with
    | true =>
      have hmv : mvR R 5 true = setK 5 1 R := by rw [mvR, if_neg h0, if_pos rfl]
      have hl := fun (H : HL) (nx : Nat) (h2 : lookH H 2 = some (true, .ab (depP V R.length bd))) => lostP (nx := nx) h2 hdr 5
      have hdr' := hdr.lost 5
      rw [e4] at hl
      rw [← hmv] at hdr'
      have hdk' := hdk.lost (k := 5) (by decide)
      generalize setP V (ofI (chs V) 5 2) 1 = V' at *
      refine rn [(14, .ret (.t (.c (iT 5)))), (21, .dec true), (22, .dec true), (33, .spec ⟨.t (.c (iT 0)), [], [(2, some (.ab (depP V' R.length bd)))], []⟩)] rfl (by (repeat' (first | exact trivial | exact rfl | exact am | exact fun _ => am | first | exact g0 | exact hl _ _ rfl | rfl | decide | refine And.intro ?_ ?_))) ?_
      refine Done.fold [(0, 1), (1, 2), (2, 3), (3, 4), (4, 5), (5, 6)] (runO ⟨V', W, [d0, d1, d2, d3, d4, d5, d6, d7], [f0, f1, f2, f3, f4, f5, f6, f7].set 5 ⟨#[]⟩, Q, A⟩ R.length b bd) (.p 0 0) (by repeat' (first | exact trivial | exact rfl | refine And.intro ?_ ?_)) rfl rfl (fun _ => rfl) ?_
      refine Done.weak 7 (φ' := runB (mvR R 5 true) b bd) rfl (runB_st _ _ _) (fun v F w h => ⟨⟨_, ok0.fly hdr' hmv hdk'⟩, by rw [mvR_len]; exact h⟩) ?_
      exact retM tysOk [(0, 7)] rfl (by repeat' (first | exact trivial | exact rfl | refine And.intro ?_ ?_)) (by repeat' (first | exact trivial | exact rfl | refine And.intro ?_ ?_)) rfl rfl
    | false =>
      have hmv : mvR R 5 false = setK 5 0 R := by rw [mvR, if_neg h0, if_neg (by decide)]
      have hl := fun (H : HL) (nx : Nat) (h2 : lookH H 2 = some (true, .ab (depP V R.length bd))) => doneP (nx := nx) h2 hdr 5
      have hdr' := hdr.done 5
      rw [e4] at hl
      rw [← hmv] at hdr'
      have hdk' := hdk.done hdr.dep hov (k := 5) (by decide) h0
      generalize dnV V 5 = V' at *
      refine rn [(14, .ret (.t (.c (iT 5)))), (21, .dec true), (22, .dec false), (57, .spec ⟨.tup [.c (.nm 7), .c (iT 0)], [(true, .own 3 1 (ofN R 5 2).length (ivs (ofN R 5 2)))], [(2, some (.ab (depP V' R.length bd)))], []⟩)] rfl (by (repeat' (first | exact trivial | exact rfl | exact am | exact fun _ => am | first | exact g0 | exact hl _ _ rfl | rfl | decide | refine And.intro ?_ ?_))) ?_
      refine Done.fold [(0, 1), (1, 2), (2, 3), (3, 4), (4, 5), (5, 6)] (runO ⟨V', W, [d0, d1, d2, d3, d4, d5, d6, d7].set 5 f5, [f0, f1, f2, f3, f4, f5, f6, f7].set 5 ⟨#[]⟩, Q, A⟩ R.length b bd) (.p 0 0) (by repeat' (first | exact trivial | exact rfl | refine And.intro ?_ ?_)) rfl rfl (fun _ => rfl) ?_
      refine Done.weak 8 (φ' := runB (mvR R 5 false) b bd) rfl (runB_st _ _ _) (fun v F w h => ⟨⟨_, ok0.fly hdr' hmv hdk'⟩, by rw [mvR_len]; exact h⟩) ?_
      exact retM tysOk [(0, 8)] rfl (by repeat' (first | exact trivial | exact rfl | refine And.intro ?_ ?_)) (by repeat' (first | exact trivial | exact rfl | refine And.intro ?_ ?_)) rfl rfl
set_option maxRecDepth 100000 in
set_option maxHeartbeats 8000000 in
theorem move6 {x : RunSt} (hd : lookH H d = some (true, .ab (runP x R.length b bd))) (ok : RunOk x R) (hsml : R.length ≤ 1000) (at' : Int) (hk : at' % 8 = 6) (lost : Bool) :
    FnH Try.prog 31 [.c (.nm d), .c (iT at'), .c (.b lost)] H nx ⟨.t (.c (.b true)), [], [(d, some (.ab (runB (mvR R 6 lost) b bd)))], []⟩ := by
  obtain ⟨V, W, D, F, Q, A⟩ := x
  have ok0 := ok
  obtain ⟨hdr, hov, hob, hdk, hql, hal, haw, hq, ha, haz⟩ := ok
  simp only at hdr hdk hql hal haw hq ha
  obtain ⟨d0, d1, d2, d3, d4, d5, d6, d7, rfl⟩ := eight hdk.d8
  obtain ⟨f0, f1, f2, f3, f4, f5, f6, f7, rfl⟩ := eight hdk.f8
  have hf6 : f6 = if ofN R 6 2 = [] then ⟨#[]⟩ else S (flB R 6) := hdk.fl 6 (by show 6 < 8; decide)
  have am := among0 at' 8 (by decide) (by decide)
  rw [hk] at am
  refine fnA (fn := Try.f31) 103 rfl rfl rfl hd (ptr b) (run_pins _ _ _ _) (runB_pins _ _ _) rfl rfl rfl (v' := .t (.c (.b true))) (news' := []) rfl rfl rfl rfl fun w Wr => ?_
  refine At.unfoldTo 0 (L1 := [(0, .t (.c (.p 1 0))), (1, .t (.c (iT at'))), (2, .t (.c (.b lost)))]) (H1 := [(1, some (true, .cells [.nm 2, .s d0, .s d1, .s d2, .s d3, .s d4, .s d5, .s d6, .s d7, .s f0, .s f1, .s f2, .s f3, .s f4, .s f5, .s f6, .s f7, .nm 4, .nm 5] 61)), (2, some (true, .ab (depP V (R.length : Nat) bd))), (3, some (true, .ab (frzP W))), (4, some (true, .own 64 4 Q.length (fcs chQ Q))), (5, some (true, .own 33 1 A.length (fcs ahQ A))), (6, some (false, .pin 1 b)), (0, none), (0, some (true, .ab (runP ⟨V, W, [d0, d1, d2, d3, d4, d5, d6, d7], [f0, f1, f2, f3, f4, f5, f6, f7], Q, A⟩ R.length b bd)))]) (nx1 := 7) rfl rfl rfl rfl rfl rfl ?_
  by_cases h0 : ofN R 6 2 = []
  · rw [if_pos h0] at hf6
    have g0 : (!f6.toList == (⟨#[]⟩ : ByteArray).toList) = false := by rw [hf6]; simp
    have hd6 : d6 = S (dkB R 6) := hdk.dk 6 (by show 6 < 8; decide)
    have hsz : d6.size = 64 := by rw [hd6, S_size, dkB_len]
    have hlo := rdy_le R 6
    have hrl := hdr.z
    have him := pt_img (hob.rdyL hdr.nd 6) (by have := hsml; omega) hsz
    have hi := fun (H : HL) (nx : Nat) (h2 : lookH H 2 = some (true, .ab (depP V R.length bd))) (h3 : lookH H 3 = some (true, .ab (frzP W))) => imageP (nx := nx) h2 h3 (by decide) hdr 6 d6 (by omega)
    have hs := fun (H : HL) (nx : Nat) (h2 : lookH H 2 = some (true, .ab (depP V R.length bd))) (h3 : lookH H 3 = some (true, .ab (frzP W))) => sendP (nx := nx) h2 h3 (by decide) hdr 6
    have e1 : pt d6 (rdyP R 6) = S (imgB (rdyL R 6) (dkB R 6)) := him.1.trans (by rw [hd6]; rfl)
    have e2 : pte d6 (rdyP R 6) = 0 := him.2
    have e3 : sdL' R 6 = rdyN R 6 := by rw [sdL', h0]; rfl
    have hsd : sdR R 6 = setN (rdyN R 6) 2 R := by rw [sdR, h0]; rfl
    have hmv : mvR R 6 lost = setN (rdyN R 6) 2 R := if_pos h0
    have hdr' := hdr.send 6
    rw [hsd, ← hmv] at hdr'
    rw [e1, e2] at hi
    rw [e3] at hs
    generalize sdV V 6 = V' at *
    by_cases hr : rdyN R 6 = []
    · have e4 : sdE' R 6 = 5 := by rw [sdE', h0, hr]; rfl
      rw [e4, hr] at hs
      have hR : mvR R 6 lost = R := by rw [hmv, hr]; exact setN_nil _ _
      refine rn [(14, .ret (.t (.c (iT 6)))), (21, .dec false), (30074, .dec true), (74, .spec ⟨.tup [.c (.s (S (imgB (rdyL R 6) (dkB R 6)))), .c (iT 0)], [], [(2, some (.ab (depP V R.length bd)))], []⟩), (83, .spec ⟨.tup [.c (.nm 7), .c (iT 5)], [(true, .own 3 1 0 (ivs []))], [(2, some (.ab (depP V' R.length bd)))], []⟩), (87, .dec true), (90, .dec true)] rfl (by (repeat' (first | exact trivial | exact rfl | exact am | exact fun _ => am | first | exact g0 | exact hi _ _ rfl rfl | exact hs _ _ rfl rfl | rfl | decide | refine And.intro ?_ ?_))) ?_
      refine Done.fold [(0, 1), (1, 2), (2, 3), (3, 4), (4, 5), (5, 6)] (runO ⟨V', W, [d0, d1, d2, d3, d4, d5, d6, d7], [f0, f1, f2, f3, f4, f5, f6, f7], Q, A⟩ R.length b bd) (.p 0 0) (by repeat' (first | exact trivial | exact rfl | refine And.intro ?_ ?_)) rfl rfl (fun _ => rfl) ?_
      refine Done.weak 8 (φ' := runB (mvR R 6 lost) b bd) rfl (runB_st _ _ _) (fun v F w h => ⟨⟨_, ok0.next hdr' hR⟩, by rw [mvR_len]; exact h⟩) ?_
      exact retM tysOk [(0, 8)] rfl (by repeat' (first | exact trivial | exact rfl | refine And.intro ?_ ?_)) (by repeat' (first | exact trivial | exact rfl | refine And.intro ?_ ?_)) rfl rfl
    · have e4 : sdE' R 6 = 0 := by rw [sdE', h0]; show (if (rdyN R 6).length = 0 then _ else _) = _; rw [if_neg (fun h => hr (List.length_eq_zero_iff.1 h))]
      rw [e4] at hs
      have hdk' := hdk.send hdr.dep (k := 6) (by decide) h0 hr
      refine rn [(14, .ret (.t (.c (iT 6)))), (21, .dec false), (30074, .dec true), (74, .spec ⟨.tup [.c (.s (S (imgB (rdyL R 6) (dkB R 6)))), .c (iT 0)], [], [(2, some (.ab (depP V R.length bd)))], []⟩), (83, .spec ⟨.tup [.c (.nm 7), .c (iT 0)], [(true, .own 3 1 (rdyN R 6).length (ivs (rdyN R 6)))], [(2, some (.ab (depP V' R.length bd)))], []⟩), (87, .dec false)] rfl (by (repeat' (first | exact trivial | exact rfl | exact am | exact fun _ => am | first | exact g0 | exact hi _ _ rfl rfl | exact hs _ _ rfl rfl | rfl | decide | refine And.intro ?_ ?_))) ?_
      refine Done.fold [(0, 1), (1, 2), (2, 3), (3, 4), (4, 5), (5, 6)] (runO ⟨V', W, [d0, d1, d2, d3, d4, d5, d6, d7], [f0, f1, f2, f3, f4, f5, f6, f7].set 6 (S (imgB (rdyL R 6) (dkB R 6))), Q, A⟩ R.length b bd) (.p 0 0) (by repeat' (first | exact trivial | exact rfl | refine And.intro ?_ ?_)) rfl rfl (fun _ => rfl) ?_
      refine Done.weak 8 (φ' := runB (mvR R 6 lost) b bd) rfl (runB_st _ _ _) (fun v F w h => ⟨⟨_, ok0.sent hdr' hmv hdk'⟩, by rw [mvR_len]; exact h⟩) ?_
      exact retM tysOk [(0, 8)] rfl (by repeat' (first | exact trivial | exact rfl | refine And.intro ?_ ?_)) (by repeat' (first | exact trivial | exact rfl | refine And.intro ?_ ?_)) rfl rfl
  · rw [if_neg h0] at hf6
    have g0 : (!f6.toList == (⟨#[]⟩ : ByteArray).toList) = true := by
      rw [txt_ne (fun h => by have h1 := congrArg ByteArray.size h; rw [hf6, S_size, flB_len] at h1; cases h1)]
      rfl
    have e4 : dnE' R 6 = 0 := by rw [dnE', if_neg (fun h => h0 (List.length_eq_zero_iff.1 h))]
    cases lost with
    | true =>
      have hmv : mvR R 6 true = setK 6 1 R := by rw [mvR, if_neg h0, if_pos rfl]
      have hl := fun (H : HL) (nx : Nat) (h2 : lookH H 2 = some (true, .ab (depP V R.length bd))) => lostP (nx := nx) h2 hdr 6
      have hdr' := hdr.lost 6
      rw [e4] at hl
      rw [← hmv] at hdr'
      have hdk' := hdk.lost (k := 6) (by decide)
      generalize setP V (ofI (chs V) 6 2) 1 = V' at *
      refine rn [(14, .ret (.t (.c (iT 6)))), (21, .dec true), (22, .dec true), (33, .spec ⟨.t (.c (iT 0)), [], [(2, some (.ab (depP V' R.length bd)))], []⟩)] rfl (by (repeat' (first | exact trivial | exact rfl | exact am | exact fun _ => am | first | exact g0 | exact hl _ _ rfl | rfl | decide | refine And.intro ?_ ?_))) ?_
      refine Done.fold [(0, 1), (1, 2), (2, 3), (3, 4), (4, 5), (5, 6)] (runO ⟨V', W, [d0, d1, d2, d3, d4, d5, d6, d7], [f0, f1, f2, f3, f4, f5, f6, f7].set 6 ⟨#[]⟩, Q, A⟩ R.length b bd) (.p 0 0) (by repeat' (first | exact trivial | exact rfl | refine And.intro ?_ ?_)) rfl rfl (fun _ => rfl) ?_
      refine Done.weak 7 (φ' := runB (mvR R 6 true) b bd) rfl (runB_st _ _ _) (fun v F w h => ⟨⟨_, ok0.fly hdr' hmv hdk'⟩, by rw [mvR_len]; exact h⟩) ?_
      exact retM tysOk [(0, 7)] rfl (by repeat' (first | exact trivial | exact rfl | refine And.intro ?_ ?_)) (by repeat' (first | exact trivial | exact rfl | refine And.intro ?_ ?_)) rfl rfl
    | false =>
      have hmv : mvR R 6 false = setK 6 0 R := by rw [mvR, if_neg h0, if_neg (by decide)]
      have hl := fun (H : HL) (nx : Nat) (h2 : lookH H 2 = some (true, .ab (depP V R.length bd))) => doneP (nx := nx) h2 hdr 6
      have hdr' := hdr.done 6
      rw [e4] at hl
      rw [← hmv] at hdr'
      have hdk' := hdk.done hdr.dep hov (k := 6) (by decide) h0
      generalize dnV V 6 = V' at *
      refine rn [(14, .ret (.t (.c (iT 6)))), (21, .dec true), (22, .dec false), (57, .spec ⟨.tup [.c (.nm 7), .c (iT 0)], [(true, .own 3 1 (ofN R 6 2).length (ivs (ofN R 6 2)))], [(2, some (.ab (depP V' R.length bd)))], []⟩)] rfl (by (repeat' (first | exact trivial | exact rfl | exact am | exact fun _ => am | first | exact g0 | exact hl _ _ rfl | rfl | decide | refine And.intro ?_ ?_))) ?_
      refine Done.fold [(0, 1), (1, 2), (2, 3), (3, 4), (4, 5), (5, 6)] (runO ⟨V', W, [d0, d1, d2, d3, d4, d5, d6, d7].set 6 f6, [f0, f1, f2, f3, f4, f5, f6, f7].set 6 ⟨#[]⟩, Q, A⟩ R.length b bd) (.p 0 0) (by repeat' (first | exact trivial | exact rfl | refine And.intro ?_ ?_)) rfl rfl (fun _ => rfl) ?_
      refine Done.weak 8 (φ' := runB (mvR R 6 false) b bd) rfl (runB_st _ _ _) (fun v F w h => ⟨⟨_, ok0.fly hdr' hmv hdk'⟩, by rw [mvR_len]; exact h⟩) ?_
      exact retM tysOk [(0, 8)] rfl (by repeat' (first | exact trivial | exact rfl | refine And.intro ?_ ?_)) (by repeat' (first | exact trivial | exact rfl | refine And.intro ?_ ?_)) rfl rfl
set_option maxRecDepth 100000 in
set_option maxHeartbeats 8000000 in
theorem move7 {x : RunSt} (hd : lookH H d = some (true, .ab (runP x R.length b bd))) (ok : RunOk x R) (hsml : R.length ≤ 1000) (at' : Int) (hk : at' % 8 = 7) (lost : Bool) :
    FnH Try.prog 31 [.c (.nm d), .c (iT at'), .c (.b lost)] H nx ⟨.t (.c (.b true)), [], [(d, some (.ab (runB (mvR R 7 lost) b bd)))], []⟩ := by
  obtain ⟨V, W, D, F, Q, A⟩ := x
  have ok0 := ok
  obtain ⟨hdr, hov, hob, hdk, hql, hal, haw, hq, ha, haz⟩ := ok
  simp only at hdr hdk hql hal haw hq ha
  obtain ⟨d0, d1, d2, d3, d4, d5, d6, d7, rfl⟩ := eight hdk.d8
  obtain ⟨f0, f1, f2, f3, f4, f5, f6, f7, rfl⟩ := eight hdk.f8
  have hf7 : f7 = if ofN R 7 2 = [] then ⟨#[]⟩ else S (flB R 7) := hdk.fl 7 (by show 7 < 8; decide)
  have am := among0 at' 8 (by decide) (by decide)
  rw [hk] at am
  refine fnA (fn := Try.f31) 103 rfl rfl rfl hd (ptr b) (run_pins _ _ _ _) (runB_pins _ _ _) rfl rfl rfl (v' := .t (.c (.b true))) (news' := []) rfl rfl rfl rfl fun w Wr => ?_
  refine At.unfoldTo 0 (L1 := [(0, .t (.c (.p 1 0))), (1, .t (.c (iT at'))), (2, .t (.c (.b lost)))]) (H1 := [(1, some (true, .cells [.nm 2, .s d0, .s d1, .s d2, .s d3, .s d4, .s d5, .s d6, .s d7, .s f0, .s f1, .s f2, .s f3, .s f4, .s f5, .s f6, .s f7, .nm 4, .nm 5] 61)), (2, some (true, .ab (depP V (R.length : Nat) bd))), (3, some (true, .ab (frzP W))), (4, some (true, .own 64 4 Q.length (fcs chQ Q))), (5, some (true, .own 33 1 A.length (fcs ahQ A))), (6, some (false, .pin 1 b)), (0, none), (0, some (true, .ab (runP ⟨V, W, [d0, d1, d2, d3, d4, d5, d6, d7], [f0, f1, f2, f3, f4, f5, f6, f7], Q, A⟩ R.length b bd)))]) (nx1 := 7) rfl rfl rfl rfl rfl rfl ?_
  by_cases h0 : ofN R 7 2 = []
  · rw [if_pos h0] at hf7
    have g0 : (!f7.toList == (⟨#[]⟩ : ByteArray).toList) = false := by rw [hf7]; simp
    have hd7 : d7 = S (dkB R 7) := hdk.dk 7 (by show 7 < 8; decide)
    have hsz : d7.size = 64 := by rw [hd7, S_size, dkB_len]
    have hlo := rdy_le R 7
    have hrl := hdr.z
    have him := pt_img (hob.rdyL hdr.nd 7) (by have := hsml; omega) hsz
    have hi := fun (H : HL) (nx : Nat) (h2 : lookH H 2 = some (true, .ab (depP V R.length bd))) (h3 : lookH H 3 = some (true, .ab (frzP W))) => imageP (nx := nx) h2 h3 (by decide) hdr 7 d7 (by omega)
    have hs := fun (H : HL) (nx : Nat) (h2 : lookH H 2 = some (true, .ab (depP V R.length bd))) (h3 : lookH H 3 = some (true, .ab (frzP W))) => sendP (nx := nx) h2 h3 (by decide) hdr 7
    have e1 : pt d7 (rdyP R 7) = S (imgB (rdyL R 7) (dkB R 7)) := him.1.trans (by rw [hd7]; rfl)
    have e2 : pte d7 (rdyP R 7) = 0 := him.2
    have e3 : sdL' R 7 = rdyN R 7 := by rw [sdL', h0]; rfl
    have hsd : sdR R 7 = setN (rdyN R 7) 2 R := by rw [sdR, h0]; rfl
    have hmv : mvR R 7 lost = setN (rdyN R 7) 2 R := if_pos h0
    have hdr' := hdr.send 7
    rw [hsd, ← hmv] at hdr'
    rw [e1, e2] at hi
    rw [e3] at hs
    generalize sdV V 7 = V' at *
    by_cases hr : rdyN R 7 = []
    · have e4 : sdE' R 7 = 5 := by rw [sdE', h0, hr]; rfl
      rw [e4, hr] at hs
      have hR : mvR R 7 lost = R := by rw [hmv, hr]; exact setN_nil _ _
      refine rn [(14, .ret (.t (.c (iT 7)))), (21, .dec false), (30074, .dec true), (74, .spec ⟨.tup [.c (.s (S (imgB (rdyL R 7) (dkB R 7)))), .c (iT 0)], [], [(2, some (.ab (depP V R.length bd)))], []⟩), (83, .spec ⟨.tup [.c (.nm 7), .c (iT 5)], [(true, .own 3 1 0 (ivs []))], [(2, some (.ab (depP V' R.length bd)))], []⟩), (87, .dec true), (90, .dec true)] rfl (by (repeat' (first | exact trivial | exact rfl | exact am | exact fun _ => am | first | exact g0 | exact hi _ _ rfl rfl | exact hs _ _ rfl rfl | rfl | decide | refine And.intro ?_ ?_))) ?_
      refine Done.fold [(0, 1), (1, 2), (2, 3), (3, 4), (4, 5), (5, 6)] (runO ⟨V', W, [d0, d1, d2, d3, d4, d5, d6, d7], [f0, f1, f2, f3, f4, f5, f6, f7], Q, A⟩ R.length b bd) (.p 0 0) (by repeat' (first | exact trivial | exact rfl | refine And.intro ?_ ?_)) rfl rfl (fun _ => rfl) ?_
      refine Done.weak 8 (φ' := runB (mvR R 7 lost) b bd) rfl (runB_st _ _ _) (fun v F w h => ⟨⟨_, ok0.next hdr' hR⟩, by rw [mvR_len]; exact h⟩) ?_
      exact retM tysOk [(0, 8)] rfl (by repeat' (first | exact trivial | exact rfl | refine And.intro ?_ ?_)) (by repeat' (first | exact trivial | exact rfl | refine And.intro ?_ ?_)) rfl rfl
    · have e4 : sdE' R 7 = 0 := by rw [sdE', h0]; show (if (rdyN R 7).length = 0 then _ else _) = _; rw [if_neg (fun h => hr (List.length_eq_zero_iff.1 h))]
      rw [e4] at hs
      have hdk' := hdk.send hdr.dep (k := 7) (by decide) h0 hr
      refine rn [(14, .ret (.t (.c (iT 7)))), (21, .dec false), (30074, .dec true), (74, .spec ⟨.tup [.c (.s (S (imgB (rdyL R 7) (dkB R 7)))), .c (iT 0)], [], [(2, some (.ab (depP V R.length bd)))], []⟩), (83, .spec ⟨.tup [.c (.nm 7), .c (iT 0)], [(true, .own 3 1 (rdyN R 7).length (ivs (rdyN R 7)))], [(2, some (.ab (depP V' R.length bd)))], []⟩), (87, .dec false)] rfl (by (repeat' (first | exact trivial | exact rfl | exact am | exact fun _ => am | first | exact g0 | exact hi _ _ rfl rfl | exact hs _ _ rfl rfl | rfl | decide | refine And.intro ?_ ?_))) ?_
      refine Done.fold [(0, 1), (1, 2), (2, 3), (3, 4), (4, 5), (5, 6)] (runO ⟨V', W, [d0, d1, d2, d3, d4, d5, d6, d7], [f0, f1, f2, f3, f4, f5, f6, f7].set 7 (S (imgB (rdyL R 7) (dkB R 7))), Q, A⟩ R.length b bd) (.p 0 0) (by repeat' (first | exact trivial | exact rfl | refine And.intro ?_ ?_)) rfl rfl (fun _ => rfl) ?_
      refine Done.weak 8 (φ' := runB (mvR R 7 lost) b bd) rfl (runB_st _ _ _) (fun v F w h => ⟨⟨_, ok0.sent hdr' hmv hdk'⟩, by rw [mvR_len]; exact h⟩) ?_
      exact retM tysOk [(0, 8)] rfl (by repeat' (first | exact trivial | exact rfl | refine And.intro ?_ ?_)) (by repeat' (first | exact trivial | exact rfl | refine And.intro ?_ ?_)) rfl rfl
  · rw [if_neg h0] at hf7
    have g0 : (!f7.toList == (⟨#[]⟩ : ByteArray).toList) = true := by
      rw [txt_ne (fun h => by have h1 := congrArg ByteArray.size h; rw [hf7, S_size, flB_len] at h1; cases h1)]
      rfl
    have e4 : dnE' R 7 = 0 := by rw [dnE', if_neg (fun h => h0 (List.length_eq_zero_iff.1 h))]
    cases lost with
    | true =>
      have hmv : mvR R 7 true = setK 7 1 R := by rw [mvR, if_neg h0, if_pos rfl]
      have hl := fun (H : HL) (nx : Nat) (h2 : lookH H 2 = some (true, .ab (depP V R.length bd))) => lostP (nx := nx) h2 hdr 7
      have hdr' := hdr.lost 7
      rw [e4] at hl
      rw [← hmv] at hdr'
      have hdk' := hdk.lost (k := 7) (by decide)
      generalize setP V (ofI (chs V) 7 2) 1 = V' at *
      refine rn [(14, .ret (.t (.c (iT 7)))), (21, .dec true), (22, .dec true), (33, .spec ⟨.t (.c (iT 0)), [], [(2, some (.ab (depP V' R.length bd)))], []⟩)] rfl (by (repeat' (first | exact trivial | exact rfl | exact am | exact fun _ => am | first | exact g0 | exact hl _ _ rfl | rfl | decide | refine And.intro ?_ ?_))) ?_
      refine Done.fold [(0, 1), (1, 2), (2, 3), (3, 4), (4, 5), (5, 6)] (runO ⟨V', W, [d0, d1, d2, d3, d4, d5, d6, d7], [f0, f1, f2, f3, f4, f5, f6, f7].set 7 ⟨#[]⟩, Q, A⟩ R.length b bd) (.p 0 0) (by repeat' (first | exact trivial | exact rfl | refine And.intro ?_ ?_)) rfl rfl (fun _ => rfl) ?_
      refine Done.weak 7 (φ' := runB (mvR R 7 true) b bd) rfl (runB_st _ _ _) (fun v F w h => ⟨⟨_, ok0.fly hdr' hmv hdk'⟩, by rw [mvR_len]; exact h⟩) ?_
      exact retM tysOk [(0, 7)] rfl (by repeat' (first | exact trivial | exact rfl | refine And.intro ?_ ?_)) (by repeat' (first | exact trivial | exact rfl | refine And.intro ?_ ?_)) rfl rfl
    | false =>
      have hmv : mvR R 7 false = setK 7 0 R := by rw [mvR, if_neg h0, if_neg (by decide)]
      have hl := fun (H : HL) (nx : Nat) (h2 : lookH H 2 = some (true, .ab (depP V R.length bd))) => doneP (nx := nx) h2 hdr 7
      have hdr' := hdr.done 7
      rw [e4] at hl
      rw [← hmv] at hdr'
      have hdk' := hdk.done hdr.dep hov (k := 7) (by decide) h0
      generalize dnV V 7 = V' at *
      refine rn [(14, .ret (.t (.c (iT 7)))), (21, .dec true), (22, .dec false), (57, .spec ⟨.tup [.c (.nm 7), .c (iT 0)], [(true, .own 3 1 (ofN R 7 2).length (ivs (ofN R 7 2)))], [(2, some (.ab (depP V' R.length bd)))], []⟩)] rfl (by (repeat' (first | exact trivial | exact rfl | exact am | exact fun _ => am | first | exact g0 | exact hl _ _ rfl | rfl | decide | refine And.intro ?_ ?_))) ?_
      refine Done.fold [(0, 1), (1, 2), (2, 3), (3, 4), (4, 5), (5, 6)] (runO ⟨V', W, [d0, d1, d2, d3, d4, d5, d6, d7].set 7 f7, [f0, f1, f2, f3, f4, f5, f6, f7].set 7 ⟨#[]⟩, Q, A⟩ R.length b bd) (.p 0 0) (by repeat' (first | exact trivial | exact rfl | refine And.intro ?_ ?_)) rfl rfl (fun _ => rfl) ?_
      refine Done.weak 8 (φ' := runB (mvR R 7 false) b bd) rfl (runB_st _ _ _) (fun v F w h => ⟨⟨_, ok0.fly hdr' hmv hdk'⟩, by rw [mvR_len]; exact h⟩) ?_
      exact retM tysOk [(0, 8)] rfl (by repeat' (first | exact trivial | exact rfl | refine And.intro ?_ ?_)) (by repeat' (first | exact trivial | exact rfl | refine And.intro ?_ ?_)) rfl rfl
theorem moveP {x : RunSt} (hd : lookH H d = some (true, .ab (runP x R.length b bd))) (ok : RunOk x R) (hsml : R.length ≤ 1000) (at' : Int) (lost : Bool) :
    FnH Try.prog 31 [.c (.nm d), .c (iT at'), .c (.b lost)] H nx ⟨.t (.c (.b true)), [], [(d, some (.ab (runB (mvR R (at' % 8) lost) b bd)))], []⟩ := by
  have h0 := Int.emod_nonneg at' (show (8 : Int) ≠ 0 by decide)
  have h1 := Int.emod_lt_of_pos at' (show (0 : Int) < 8 by decide)
  have hk : at' % 8 = 0 ∨ at' % 8 = 1 ∨ at' % 8 = 2 ∨ at' % 8 = 3 ∨ at' % 8 = 4 ∨ at' % 8 = 5 ∨ at' % 8 = 6 ∨ at' % 8 = 7 := by omega
  rcases hk with h | h | h | h | h | h | h | h
  · rw [h]; exact move0 hd ok hsml at' h lost
  · rw [h]; exact move1 hd ok hsml at' h lost
  · rw [h]; exact move2 hd ok hsml at' h lost
  · rw [h]; exact move3 hd ok hsml at' h lost
  · rw [h]; exact move4 hd ok hsml at' h lost
  · rw [h]; exact move5 hd ok hsml at' h lost
  · rw [h]; exact move6 hd ok hsml at' h lost
  · rw [h]; exact move7 hd ok hsml at' h lost
/-- A sector goes on. -/
theorem moveB (hd : lookH H d = some (true, .ab (runB R b bd))) (hsml : R.length ≤ 1000) (at' : Int) (lost : Bool) :
    FnH Try.prog 31 [.c (.nm d), .c (iT at'), .c (.b lost)] H nx ⟨.t (.c (.b true)), [], [(d, some (.ab (runB (mvR R (at' % 8) lost) b bd)))], []⟩ :=
  fnh_ex2 hd (fun _ => absP_stable _ _) fun x => moveP (b := b) (bd := bd) look_eq x.2 hsml at' lost
end
end Cw
namespace Cw
open Go Vc
open Go.Proofs
set_option maxRecDepth 100000
/-- What is told of two things together. -/
theorem At.joinF {P : Program} {F : Frm} {Q : Exit → Act → World → Prop} {cd : Code} {ks : List KI} {L : LL} {H : HL} {nx : Nat} {W : List (List Int × Option Addr × Nat)} {y : List Int × Option Addr × Nat} (k q : Nat) (hk : lookH H k = some (true, .ab (frzP [y]))) (hq : lookH H q = some (true, .ab (frzP W))) (hkq : k ≠ q)
    (h : At P F Q cd ks L ((q, some (true, .ab (frzP (W ++ [y])))) :: (k, none) :: H) nx) : At P F Q cd ks L H nx :=
  ⟨fun hW e a w S => by
    obtain ⟨⟨hfk, _⟩, hbk⟩ := S.ob k true _ hk
    obtain ⟨⟨hfq, _⟩, hbq⟩ := S.ob q true _ hq
    let f : Nat → Nat → Prop := fun n g => if n = q then e.fp q g ∨ e.fp k g else e.fp n g
    have fq : ∀ g, f q g ↔ e.fp q g ∨ e.fp k g := fun g => by show (if _ then _ else _) ↔ _; rw [if_pos rfl]
    have fo : ∀ n, n ≠ q → ∀ g, f n g ↔ e.fp n g := fun n h g => by show (if _ then _ else _) ↔ _; rw [if_neg h]
    have hqv : frzP (W ++ [y]) (e.val q) (f q) w := frzP_app hfq hfk (fun g hg => (fq g).2 (.inl hg)) fun g hg => (fq g).2 (.inr hg)
    have old : ∀ {n : Nat} {z : Bool × Ob}, lookH ((q, some (true, .ab (frzP (W ++ [y])))) :: (k, none) :: H) n = some z → n ≠ k ∧ ∃ o, lookH H n = some (z.1, o) ∧ (n ≠ q → o = z.2) := by
      intro n z hz
      rw [lookH_cons] at hz
      split at hz
      · rename_i h0; cases hz; subst h0; exact ⟨fun h => hkq h.symm, _, hq, fun h => (h rfl).elim⟩
      · rw [lookH_cons] at hz
        split at hz
        · cases hz
        · rename_i h1 h2; exact ⟨h2, z.2, hz, fun _ => rfl⟩
    refine h.h ⟨hW.l, fun n z hz => ?_⟩ (Env.fps e f) a w ⟨S.fr, S.sz, S.df, S.sl, fun n b' o hn => ?_, fun n o m b' o' hn hm hne g hg hg' => ?_⟩
    · rw [lookH_cons] at hz
      split at hz
      · rename_i h0
        cases hz; subst h0
        exact ⟨(hW.h n _ hq).1, fun m hm => by simp [Ob.ns] at hm⟩
      · rw [lookH_cons] at hz
        split at hz
        · cases hz
        · exact hW.h n z hz
    · obtain ⟨h1, o1, h2, h3⟩ := old hn
      by_cases h0 : n = q
      · subst h0
        rw [lookH_cons, if_pos rfl] at hn
        cases hn
        exact ⟨⟨hqv, frzP_stable _⟩, fun g hg => ((fq g).1 hg).elim (hbq g) (hbk g)⟩
      · have := h3 h0
        subst this
        obtain ⟨k1, k2⟩ := S.ob n b' o1 h2
        have hfe : (Env.fps e f).fp n = e.fp n := funext fun g => propext (fo n h0 g)
        exact ⟨Ob.same (e := e) (e' := Env.fps e f) ⟨rfl, rfl, hfe⟩ k1 fun m _ => ⟨rfl, rfl⟩, fun g hg => k2 g ((fo n h0 g).1 hg)⟩
    · obtain ⟨n1, on, hn', _⟩ := old hn
      obtain ⟨m1, om, hm', _⟩ := old hm
      have hg1 : f n g := hg
      have hg2 : f m g := hg'
      by_cases c1 : n = q
      · subst c1
        have hm2 := (fo m (fun h => hne h.symm) g).1 hg2
        rcases (fq g).1 hg1 with hx | hx
        · exact S.dj n _ m _ _ hn' hm' hne g hx hm2
        · exact S.dj k _ m _ _ hk hm' (fun h => m1 h.symm) g hx hm2
      · have hn2 := (fo n c1 g).1 hg1
        by_cases c2 : m = q
        · subst c2
          rcases (fq g).1 hg2 with hx | hx
          · exact S.dj n _ m _ _ hn' hm' hne g hn2 hx
          · exact S.dj n _ k _ _ hn' hk n1 g hn2 hx
        · exact S.dj n _ m _ _ hn' hm' hne g hn2 ((fo m c2 g).1 hg2)⟩
/-- A slice's value that is told of gets a name. -/
theorem At.rawF {P : Program} {F : Frm} {Q : Exit → Act → World → Prop} {c : Code} {ks : List KI} {L : LL} {H : HL} {nx : Nat} {W : List (List Int × Option Addr × Nat)} {xs : List Int} {A : Option Addr} {m : Nat} (t q : Nat) (hq : lookH H q = some (false, .ab (frzP W))) (hy : (xs, A, m) ∈ W) (hl : look t L = some (.t (.c (.raw (.slice A xs.length m)))))
    (h : At P F Q c ks ((t, .t (.c (.nm nx))) :: L) ((nx, some (false, .rd 1 xs.length (ivs xs))) :: H) (nx + 1)) : At P F Q c ks L H nx :=
  ⟨fun hW e a w S => by
    obtain ⟨⟨h1, _⟩, h4⟩ := S.ob q false _ hq
    obtain ⟨h2, h3⟩ := h1 (xs, A, m) hy
    have hone : (Value.slice A xs.length m).oneCell' = true := rfl
    obtain ⟨hW', S'⟩ := S.newF hW (.rd 1 xs.length (ivs xs)) 0 (.slice A xs.length m) (e.fp q) (fun m hm => by simp [Ob.ns] at hm) ⟨A, m, by rw [Env.put3_val e hone], h2, fun a ha h0 => by rw [Env.put3_fp]; exact h3 a ha (by rw [ivs_length] at h0; exact h0)⟩ (fun g hg => ⟨(h4 g hg).1, fun j o' hj hg' => by
      by_cases hne : j = q
      · subst hne
        rw [hq] at hj
        cases hj
      · exact S.dj j o' q _ _ hj hq hne g hg' hg⟩)
    refine h.h ⟨fun t' v' hv j hj => ?_, hW'.h⟩ _ a w ⟨S'.fr, S'.sz, S'.df, fun t' v' hv => ?_, S'.ob, S'.dj⟩
    · rw [look_cons] at hv
      split at hv
      · cases hv
        have : j = nx := by simpa [SV.ns, TV.ns, CV.ns] using hj
        omega
      · exact hW'.l t' v' hv j hj
    · rw [look_cons] at hv
      split at hv
      · rename_i ht
        cases hv
        subst ht
        rw [S.sl _ _ hl]
        exact (Env.put3_val e hone).symm
      · exact S'.sl t' v' hv⟩
theorem At.growP {P : Program} {F : Frm} {Q : Exit → Act → World → Prop} {cd : Code} {ks : List KI} {L : LL} {H : HL} {nx b : Nat} {V : DV} {W : List (List Int × Option Addr × Nat)} {R R' : List Ch} {at' o : Int} {t : ByteArray} {xs : List Int} (d q : Nat) (hd : lookH H d = some (true, .ab (adP V R.length b (newC (und R) R.length at' (o, t) xs)))) (hq : lookH H q = some (true, .ab (frzP W))) (hdq : d ≠ q) (hR : DR V W R)
    (he : adB R.length at' o t V.length xs = 0) (zx : xs.length + V.length ≤ 17592186044416) (zt : t.size ≤ 9223372036854775807) (zr : R.length < 100000) (hR' : R ++ [newC (und R) R.length at' (o, t) xs] = R')
    (h : ∀ V' W', DR V' W' R' → (∀ y ∈ W, y ∈ W') → At P F Q cd ks L ((q, some (true, .ab (frzP W'))) :: (d, some (true, .ab (depP V' R'.length b))) :: H) nx) : At P F Q cd ks L H nx := by
  refine At.grow (b := b) d q hd hq hdq fun v => ?_
  have h1 := hR.add he zx zt zr v
  rw [hR.eq] at h1
  subst hR'
  have := h _ _ h1 fun y hy => List.mem_append.2 (.inl hy)
  rwa [show (((R ++ [newC (und R) R.length at' (o, t) xs]).length : Nat) : Int) = (R.length : Int) + 1 by simp] at this
/-- Those that a change names, counted back. -/
def adT (n : Nat) (bs : List Int) : List Int := bs.foldl (fun acc b => if decide ((n : Int) - b % 6 ≥ 1) = true then acc ++ [(n : Int) - b % 6] else acc) []
theorem adT_snoc (n : Nat) (bs : List Int) (b : Int) : adT n (bs ++ [b]) = if decide ((n : Int) - b % 6 ≥ 1) = true then adT n bs ++ [(n : Int) - b % 6] else adT n bs := by
  rw [adT, List.foldl_append]; rfl
theorem adT_le (n : Nat) (bs : List Int) : (adT n bs).length ≤ bs.length := by
  rw [show bs = bs.reverse.reverse from (List.reverse_reverse bs).symm]
  generalize bs.reverse = M
  induction M with
  | nil => simp [adT]
  | cons c M ih =>
    rw [List.reverse_cons, adT_snoc]
    split
    · simp at ih ⊢; omega
    · simp at ih ⊢; omega
theorem adT_mem {n : Nat} {x : Int} (bs : List Int) : x ∈ adT n bs → 1 ≤ x ∧ x ≤ (n : Int) := by
  rw [show bs = bs.reverse.reverse from (List.reverse_reverse bs).symm]
  generalize bs.reverse = M
  induction M with
  | nil => simp [adT]
  | cons c M ih =>
    rw [List.reverse_cons, adT_snoc]
    have := Int.emod_nonneg c (show (6 : Int) ≠ 0 by decide)
    split
    · rename_i h
      have h1 := of_decide_eq_true h
      intro hx
      rcases List.mem_append.1 hx with hx | hx
      · exact ih hx
      · rw [List.mem_singleton.1 hx]; omega
    · exact ih
/-- The change that is kept. -/
def rnC (R : List Ch) (at' off by' : Int) (back : List Int) : Ch := newC (und R) R.length (at' % 8) (off % 64, bt1 by') (adT R.length back)
theorem RunOk.add {x : RunSt} {R : List Ch} (ok : RunOk x R) (hsml : R.length ≤ 500) {at' off by' : Int} {back : List Int} (zb : back.length ≤ 17592186043904) {A0 : Option Addr} {m0 : Nat} {V' : DV} {W' : List (List Int × Option Addr × Nat)} {A : Option Addr} {m : Nat}
    (hdr : DR V' W' (R ++ [rnC R at' off by' back])) (hw : ∀ y ∈ x.W, y ∈ W') :
    RunOk { x with V := V', W := W' ++ [(adT R.length back, A, m)], Q := x.Q ++ [(at' % 8, off % 64, by', A0, back.length, m0)], A := x.A ++ [(adT R.length back, A, m)] } (R ++ [rnC R at' off by' back]) := by
  have hat : 0 ≤ at' % 8 ∧ at' % 8 < 8 := ⟨Int.emod_nonneg _ (by decide), Int.emod_lt_of_pos _ (by decide)⟩
  have hof : 0 ≤ off % 64 ∧ off % 64 < 64 := ⟨Int.emod_nonneg _ (by decide), Int.emod_lt_of_pos _ (by decide)⟩
  have hah : (rnC R at' off by' back).ah = adT R.length back ++ ((und R).filter fun c => ovb (c.off, c.by') (off % 64, bt1 by') && c.at' == at' % 8).map Ch.no := alls_eq _ _ _ _
  refine ⟨⟨hdr.eq, fun p hp => List.mem_append.2 (.inl (hdr.sub p hp)), hdr.ok, hdr.dep, hdr.z⟩, ?_, ?_, ok.dk.add rfl, by simp [ok.ql], by simp [ok.al], fun y hy => ?_, fun i h h' => ?_, fun i h h' n hn => ?_, fun y hy => ?_⟩
  · refine ok.ov.add ok.dr.dep rfl fun c hc h1 h2 h3 => ?_
    obtain ⟨q1, q2, b, q3⟩ := ok.ok c hc
    rw [hah]
    refine List.mem_append.2 (.inr (List.mem_map.2 ⟨c, List.mem_filter.2 ⟨und_mem.2 ⟨hc, h3⟩, ?_⟩, rfl⟩))
    have h1' : c.at' = at' % 8 := h1
    have h2' : c.off = off % 64 := by
      have : c.off.toNat = (off % 64).toNat := h2
      omega
    rw [q3, bt1_ovb _ _ q2 hof, h1', h2']
    simp
  · intro c hc
    rcases List.mem_append.1 hc with hc | hc
    · exact ok.ok c hc
    · rw [List.mem_singleton.1 hc]
      exact ⟨hat, hof, by', rfl⟩
  · rcases List.mem_append.1 hy with hy | hy
    · exact List.mem_append.2 (.inl (hw y (ok.aw y hy)))
    · exact List.mem_append.2 (.inr hy)
  · by_cases hi : i < R.length
    · simp only [List.getElem_append_left hi, List.getElem_append_left (show i < x.Q.length by rw [ok.ql]; exact hi)]
      exact ok.q i hi _
    · have : i = R.length := by simp at h; omega
      subst this
      have hql := ok.ql
      simp [List.getElem_append_right, hql]
      exact ⟨rfl, rfl, rfl⟩
  · by_cases hi : i < R.length
    · simp only [List.getElem_append_left (show i < x.A.length by rw [ok.al]; exact hi)] at hn
      rw [List.getElem_append_left hi]
      exact ok.a i hi _ n hn
    · have : i = R.length := by simp at h; omega
      subst this
      have hal := ok.al
      simp [List.getElem_append_right, hal] at hn
      simp
      rw [hah]
      exact List.mem_append.2 (.inl hn)
  · rcases List.mem_append.1 hy with hy | hy
    · exact ok.az y hy
    · rw [List.mem_singleton.1 hy]
      have := adT_le R.length back
      show (adT R.length back).length ≤ _
      omega
section
variable {H : HL} {nx d q b bd : Nat} {b1 : Bool} {R : List Ch}
set_option maxRecDepth 100000 in
set_option maxHeartbeats 8000000 in
theorem raddP {x : RunSt} {at' off by' : Int} {back : List Int} {A0 : Option Addr} {m0 : Nat} (hd : lookH H d = some (true, .ab (runP x R.length b bd))) {W0 : List (List Int × Option Addr × Nat)} (hq : lookH H q = some (b1, .ab (frzP W0))) (hy : (back, A0, m0) ∈ W0) (hdq : d ≠ q) (ok : RunOk x R) (hsml : R.length ≤ 500) (zb : back.length ≤ 17592186043904) :
    FnH Try.prog 30 [.c (.nm d), .agg [iT at', iT off, .i .u8 by', .raw (.slice A0 back.length m0)]] H nx ⟨.t (.c (.b true)), [], [(d, some (.ab (runB (R ++ [rnC R at' off by' back]) b bd)))], []⟩ := by
  obtain ⟨V, W, D, F, Q, A⟩ := x
  have ok0 := ok
  obtain ⟨hdr, hov, hob, hdk, hql, hal, haw, hqq, ha, haz⟩ := ok
  simp only at hdr hdk hql hal haw hqq ha
  obtain ⟨d0, d1, d2, d3, d4, d5, d6, d7, rfl⟩ := eight hdk.d8
  obtain ⟨f0, f1, f2, f3, f4, f5, f6, f7, rfl⟩ := eight hdk.f8
  have am1 := among0 at' 8 (by decide) (by decide)
  have am2 := among0 off 64 (by decide) (by decide)
  have hat : 0 ≤ at' % 8 ∧ at' % 8 < 8 := ⟨Int.emod_nonneg _ (by decide), Int.emod_lt_of_pos _ (by decide)⟩
  have hof : 0 ≤ off % 64 ∧ off % 64 < 64 := ⟨Int.emod_nonneg _ (by decide), Int.emod_lt_of_pos _ (by decide)⟩
  refine fnA1f (fn := Try.f30) 88 rfl rfl rfl hd hq hdq (ptr b) (run_pins _ _ _ _) (runB_pins _ _ _) rfl rfl rfl (v' := .t (.c (.b true))) (news' := []) rfl rfl rfl rfl fun w Wr => ?_
  refine At.unfoldTo 0 (L1 := [(0, .t (.c (.p 2 0))), (1, .t (.agg [iT at', iT off, .i .u8 by', .raw (.slice A0 back.length m0)]))]) (H1 := [(2, some (true, .cells [.nm 3, .s d0, .s d1, .s d2, .s d3, .s d4, .s d5, .s d6, .s d7, .s f0, .s f1, .s f2, .s f3, .s f4, .s f5, .s f6, .s f7, .nm 5, .nm 6] 61)), (3, some (true, .ab (depP V (R.length : Nat) bd))), (4, some (true, .ab (frzP W))), (5, some (true, .own 64 4 Q.length (fcs chQ Q))), (6, some (true, .own 33 1 A.length (fcs ahQ A))), (7, some (false, .pin 2 b)), (0, none), (0, some (true, .ab (runP ⟨V, W, [d0, d1, d2, d3, d4, d5, d6, d7], [f0, f1, f2, f3, f4, f5, f6, f7], Q, A⟩ R.length b bd))), (1, some (false, .ab (frzP W0)))]) (nx1 := 8) rfl rfl rfl rfl rfl rfl ?_
  refine rn [(13, .ret (.t (.c (iT (at' % 8))))), (16, .ret (.t (.c (iT (off % 64)))))] rfl (by (repeat' (first | exact trivial | exact rfl | exact trivial | exact fun _ => trivial | first | exact am1 | exact am2 | refine And.intro ?_ ?_))) ?_
  refine At.nil 5 3 1 rfl ?_
  refine At.rawF 20 1 rfl hy rfl ?_
  refine At.loop (X := (j : Nat) ×' (j ≤ back.length)) 11 (fun x => back.length - x.1)
    (fun x => [(0, .t (.c (.p 2 0))), (3, .t (.c (.p 8 0))), (5, .t (.c (.nm 9))), (20, .t (.c (.nm 10))), (21, .t (.c (iT (back.length : Nat)))), (22, .t (.c (iT (x.1 : Nat))))])
    (fun x => [(2, some (true, .cells [.nm 3, .s d0, .s d1, .s d2, .s d3, .s d4, .s d5, .s d6, .s d7, .s f0, .s f1, .s f2, .s f3, .s f4, .s f5, .s f6, .s f7, .nm 5, .nm 6] 61)), (3, some (true, .ab (depP V (R.length : Nat) bd))), (4, some (true, .ab (frzP W))), (5, some (true, .own 64 4 Q.length (fcs chQ Q))), (6, some (true, .own 33 1 A.length (fcs ahQ A))), (7, some (false, .pin 2 b)), (8, some (true, .cells [iT (at' % 8), iT (off % 64), .i .u8 by', .raw (.slice A0 back.length m0)] 64)), (9, some (true, .own 3 1 (adT R.length (back.take x.1)).length (ivs (adT R.length (back.take x.1))))), (10, some (false, .rd 1 back.length (ivs back)))]) ⟨0, by omega⟩ [] (fun x => wf rfl rfl) (by repeat' (first | exact trivial | exact rfl | refine And.intro ?_ ?_)) (by repeat' (first | exact trivial | exact rfl | refine And.intro ?_ ?_)) rfl fun x => ?_
  obtain ⟨j, hj⟩ := x
  have w3 : IntKind.i64.wrap ((j : Int) + 1) = ((j + 1 : Nat) : Int) := by rw [wrap_sm (by omega) (by omega)]; omega
  refine rn [] rfl (by repeat' (first | exact trivial | exact rfl | refine And.intro ?_ ?_)) ?_
  refine ⟨fun h => ?_, fun h => ?_⟩
  · have hlt : j < back.length := by have : (j : Int) < (back.length : Int) := of_decide_eq_true h; omega
    clear h
    have e1 : (ivs back)[(j : Int).toNat * 1]? = some (.int .i64 back[j]) := by simpa using ivs_at hlt
    have b0 : (0 : Int) ≤ (j : Int) := by omega
    have b1 : (j : Int) < (back.length : Int) := by omega
    have am := among0 back[j] 6 (by decide) (by decide)
    have h6 := Int.emod_nonneg back[j] (show (6 : Int) ≠ 0 by decide)
    have h6' := Int.emod_lt_of_pos back[j] (show (0 : Int) < 6 by decide)
    have hsu : adT R.length (back.take (j + 1)) = if decide ((R.length : Int) - back[j] % 6 ≥ 1) = true then adT R.length (back.take j) ++ [(R.length : Int) - back[j] % 6] else adT R.length (back.take j) := by rw [List.take_succ_eq_append_getElem hlt, adT_snoc]
    have hle := adT_le R.length (back.take j)
    have hle2 : (adT R.length (back.take j)).length ≤ j := by rw [List.length_take] at hle; omega
    have m1 : (adT R.length (back.take j)).length + 1 ≤ maxLen := by simp [maxLen]; omega
    have m2 : ((adT R.length (back.take j)).length + 1) * 8 ≤ 140737488355328 := by omega
    have wn : IntKind.i64.wrap ((Q.length : Int) - back[j] % 6) = (R.length : Int) - back[j] % 6 := by rw [hql, wrap_sm (by omega) (by omega)]
    generalize back[j] % 6 = z at *
    cases hc : decide ((R.length : Int) - z ≥ 1) with
    | true =>
      rw [hc, if_pos rfl] at hsu
      have g1 : decide (1 ≤ IntKind.i64.wrap ((Q.length : Int) - z)) = true := by rw [wn]; exact hc
      refine rn [(25, .ld [iT back[j]]), (32, .ret (.t (.c (iT z)))), (35, .dec true)] rfl (by (repeat' (first | exact trivial | exact rfl | exact trivial | exact fun _ => trivial | first | exact e1 | exact ⟨e1, trivial⟩ | exact b0 | exact b1 | exact am | exact g1 | exact m1 | exact m2 | decide | refine And.intro ?_ ?_))) ?_
      refine roundEnd ⟨j + 1, by omega⟩ [(9, 12)] (by show back.length - (j + 1) < back.length - j; omega) (by (repeat' (first | exact trivial | exact rfl | exact w3 | exact fun _ => w3 | refine And.intro ?_ ?_))) ?_ rfl
      repeat' (first | exact trivial | exact rfl | refine And.intro ?_ ?_)
      · rw [hsu]; simp
      · rw [hsu, app_eq, wn]; simp [ivs]; rfl
    | false =>
      rw [hc, if_neg (by decide)] at hsu
      have g1 : decide (1 ≤ IntKind.i64.wrap ((Q.length : Int) - z)) = false := by rw [wn]; exact hc
      refine rn [(25, .ld [iT back[j]]), (32, .ret (.t (.c (iT z)))), (35, .dec false)] rfl (by (repeat' (first | exact trivial | exact rfl | exact trivial | exact fun _ => trivial | first | exact e1 | exact ⟨e1, trivial⟩ | exact b0 | exact b1 | exact am | exact g1 | decide | refine And.intro ?_ ?_))) ?_
      refine roundEnd ⟨j + 1, by omega⟩ [] (by show back.length - (j + 1) < back.length - j; omega) (by (repeat' (first | exact trivial | exact rfl | exact w3 | exact fun _ => w3 | refine And.intro ?_ ?_))) ?_ rfl
      repeat' (first | exact trivial | exact rfl | refine And.intro ?_ ?_)
      · rw [hsu]
      · rw [hsu]
  · have hlt : j = back.length := by have : ¬ (j : Int) < (back.length : Int) := of_decide_eq_false h; omega
    have hw : back.take j = back := by rw [hlt, List.take_length]
    refine rn [] rfl (by repeat' (first | exact trivial | exact rfl | refine And.intro ?_ ?_)) (roundExit rfl ?_)
    rw [hw]
    have hle := adT_le R.length back
    have hmem : ∀ n ∈ adT R.length back, 1 ≤ n ∧ n ≤ (R.length : Int) := fun n hn => adT_mem back hn
    have hVl := hdr.le
    have hby := byteAt0 (off % 64) by'
    have hab : adB R.length (at' % 8) (off % 64) (bt1 by') V.length (adT R.length back) = 0 := adB_zero (by omega) hof hmem (by omega)
    have hadd := fun (H : HL) (nx : Nat) (h3 : lookH H 3 = some (true, .ab (depP V R.length bd))) (h9 : lookH H 9 = some (true, .own 3 1 (adT R.length back).length (ivs (adT R.length back)))) => addP (nx := nx) h3 (SlQ.own h9 h3 (by decide)) (by omega) (by rw [bt1_size]; decide) hdr hab
    refine rnA [(52, .ret (.t (.agg [iT (off % 64), .s (bt1 by')]))), (54, .spec ⟨.tup [.c (iT ((R.length : Int) + 1)), .c (iT 0)], [], [(3, some (.ab (adP V R.length bd (newC (und R) R.length (at' % 8) (off % 64, bt1 by') (adT R.length back)))))], []⟩), (20011, .dec true)] rfl (by (repeat' (first | exact trivial | exact rfl | exact trivial | exact fun _ => trivial | first | exact hby | exact hadd _ _ rfl rfl | decide | refine And.intro ?_ ?_))) ?_
    refine At.growP 3 4 rfl rfl (by decide) hdr hab (by omega) (by rw [bt1_size]; decide) (by omega) rfl fun V' W' hdr' hw' => ?_
    have k1 : Q.length + 1 ≤ maxLen := by simp [maxLen]; omega
    have k2 : (Q.length + 1) * 48 ≤ 140737488355328 := by omega
    have k3 : A.length + 1 ≤ maxLen := by simp [maxLen]; omega
    have k4 : (A.length + 1) * 24 ≤ 140737488355328 := by omega
    refine rn [(20012, .dec true)] rfl (by (repeat' (first | exact trivial | exact rfl | exact trivial | exact fun _ => trivial | first | exact k1 | exact k2 | decide | refine And.intro ?_ ?_))) ?_
    refine At.freeze 5 9 rfl rfl fun A1 m1 => ?_
    refine At.joinF 9 4 rfl rfl (by decide) ?_
    have g2 : (((R.length : Int) + 1) == ((Q.length + 1 : Nat) : Int)) = true := by rw [hql]; simp
    refine rn [(79, .dec true)] rfl (by (repeat' (first | exact trivial | exact rfl | exact trivial | exact fun _ => trivial | first | exact k3 | exact k4 | rfl | decide | refine And.intro ?_ ?_))) ?_
    have hq1 : Q.length + 1 = (Q ++ [((at' % 8, off % 64, by', A0, back.length, m0) : QC)]).length := by simp
    have hq2 : app (fcs chQ Q) (List.map (CV.den Vc.e0) [iT (at' % 8), iT (off % 64), .i .u8 by', .raw (.slice A0 back.length m0)]) = fcs chQ (Q ++ [(at' % 8, off % 64, by', A0, back.length, m0)]) := by
      rw [app_eq]
      exact (fcs_app chQ Q (at' % 8, off % 64, by', A0, back.length, m0)).symm
    have hq3 : A.length + 1 = (A ++ [(adT R.length back, A1, m1)]).length := by simp
    have hq4 : app (fcs ahQ A) (List.map (CV.den Vc.e0) [.raw (.slice A1 (adT R.length back).length m1)]) = fcs ahQ (A ++ [(adT R.length back, A1, m1)]) := by
      rw [app_eq]
      exact (fcs_app ahQ A (adT R.length back, A1, m1)).symm
    refine Done.fold [(0, 2), (1, 3), (2, 4), (3, 12), (4, 14), (5, 7)] (runO ⟨V', W' ++ [(adT R.length back, A1, m1)], [d0, d1, d2, d3, d4, d5, d6, d7], [f0, f1, f2, f3, f4, f5, f6, f7], Q ++ [(at' % 8, off % 64, by', A0, back.length, m0)], A ++ [(adT R.length back, A1, m1)]⟩ (R ++ [rnC R at' off by' back]).length b bd) (.p 0 0) (by (repeat' (first | exact trivial | exact rfl | exact trivial | exact fun _ => trivial | first | exact hq1 | exact hq2 | exact hq3 | exact hq4 | refine And.intro ?_ ?_))) rfl rfl (fun _ => rfl) ?_
    refine Done.weak 15 (φ' := runB (R ++ [rnC R at' off by' back]) b bd) rfl (runB_st _ _ _) (fun v F w h => ⟨⟨_, ok0.add (A0 := A0) (m0 := m0) (A := A1) (m := m1) hsml zb hdr' hw'⟩, h⟩) ?_
    exact retM tysOk [(0, 15)] rfl (by (repeat' (first | exact trivial | exact rfl | exact trivial | exact fun _ => trivial | exact g2 | refine And.intro ?_ ?_))) (by repeat' (first | exact trivial | exact rfl | refine And.intro ?_ ?_)) rfl rfl
/-- A change is added. -/
theorem raddB {at' off by' : Int} {back : List Int} {A0 : Option Addr} {m0 : Nat} (hd : lookH H d = some (true, .ab (runB R b bd))) {W0 : List (List Int × Option Addr × Nat)} (hq : lookH H q = some (b1, .ab (frzP W0))) (hy : (back, A0, m0) ∈ W0) (hdq : d ≠ q) (hsml : R.length ≤ 500) (zb : back.length ≤ 17592186043904) :
    FnH Try.prog 30 [.c (.nm d), .agg [iT at', iT off, .i .u8 by', .raw (.slice A0 back.length m0)]] H nx ⟨.t (.c (.b true)), [], [(d, some (.ab (runB (R ++ [rnC R at' off by' back]) b bd)))], []⟩ :=
  fnh_ex2 hd (fun _ => absP_stable _ _) fun x => raddP (b := b) (bd := bd) look_eq ((look_ne hdq).trans hq) hy hdq x.2 hsml zb
end
end Cw
