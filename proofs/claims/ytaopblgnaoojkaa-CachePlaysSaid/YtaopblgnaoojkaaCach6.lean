/- The cache's methods, told of its sectors in the order of their use. -/
import Derived.Test.YtaopblgnaoojkaaCach5
namespace Cw
open Go Vc
open Go.Proofs
set_option maxRecDepth 100000
abbrev CK (L : List (Int × Bd)) (n : Int) := {k : Int × List (Int × Bf) // CRel L n k.1 k.2}
def clB (room n : Int) (L : List (Int × Bd)) (b : Nat) : AbP := exP fun k : CK L n => cacheB room k.1.1 k.1.2 b
def cl (room n : Int) (L : List (Int × Bd)) : AbP := exP (clB room n L)
theorem clB_st (room n : Int) (L : List (Int × Bd)) (b : Nat) : stable (clB room n L b) := exP_stable fun _ => cacheB_st _ _ _ _
theorem cl_st (room n : Int) (L : List (Int × Bd)) : stable (cl room n L) := exP_stable fun b => clB_st _ _ _ b
theorem clB_pins (room n : Int) (L : List (Int × Bd)) (b : Nat) : Pins (clB room n L b) (ptr b) := fun v F w ⟨_, h⟩ => cacheB_pins _ _ _ _ v F w h
theorem cl_nn (room n : Int) (L : List (Int × Bd)) : NotNil (cl room n L) := NotNil.ex fun b => clB_pins _ _ _ b
/-- What is called. -/
def getR (L : List (Int × Bd)) (k : Int) : ByteArray := match gget k L with
  | some x => x.s
  | none => ⟨#[]⟩
def getB (L : List (Int × Bd)) (k : Int) : Bool := (gget k L).isSome
def getS (L : List (Int × Bd)) (k : Int) : List (Int × Bd) := match gget k L with
  | some x => gdel k L ++ [(k, x)]
  | none => L
def holdR (L : List (Int × Bd)) (k : Int) : Int × List (Int × Bd) := match gget k L with
  | some x => (0, gset k { x with h := x.h + 1 } L)
  | none => (5, L)
def freeR (L : List (Int × Bd)) (k : Int) : Int × List (Int × Bd) := match gget k L with
  | some x => if x.h = 0 then (130, L) else (0, gset k { x with h := x.h - 1 } L)
  | none => (5, L)
def cleanR (L : List (Int × Bd)) (k : Int) : Int × List (Int × Bd) := match gget k L with
  | some x => (0, gset k { x with d := false } L)
  | none => (5, L)
def putR (room : Int) (L : List (Int × Bd)) (k : Int) (s : ByteArray) (dy : Bool) : Int × Int × List (Int × Bd) :=
  if k < 0 ∨ 2048 ≤ k then (0, 1, L) else if s.size ≠ 64 then (0, 3, L) else match gget k L with
    | some x => (-1, 0, gdel k L ++ [(k, ⟨s, x.d || dy, x.h⟩)])
    | none => if (L.length : Int) < room then (-1, 0, L ++ [(k, ⟨s, dy, 0⟩)]) else if oldL L < 0 then (0, 50, L) else (oldL L, 0, gdel (oldL L) L ++ [(k, ⟨s, dy, 0⟩)])
def badL (L : List (Int × Bd)) (k : Int) : Bool := match gget k L with
  | some x => !bfr x
  | none => false
def dropR (L : List (Int × Bd)) (xs : List Int) : Int × List (Int × Bd) := if xs.any (badL L) = true then (130, L) else (0, xs.foldl (fun L k => gdel k L) L)
def allR (L : List (Int × Bd)) : List Int := srtI (L.map Prod.fst)
def isDirty (L : List (Int × Bd)) (k : Int) : Bool := match gget k L with
  | some x => x.d
  | none => false
def dirtyR (L : List (Int × Bd)) : List Int := (allR L).filter (isDirty L)
section
variable {H : HL} {nx d b : Nat} {room n : Int} {L : List (Int × Bd)}
theorem clK {f : FuncId} {args : List TV} {v : SV} {news : List (Bool × Ob)} {L' : List (Int × Bd)} {n' : Int} (hd : lookH H d = some (true, .ab (clB room n L b))) (c' : Int → List (Int × Bf) → Int) (M' : Int → List (Int × Bf) → List (Int × Bf)) (hr : ∀ ck M, CRel L n ck M → CRel L' n' (c' ck M) (M' ck M))
    (h : ∀ ck M, CRel L n ck M → ∀ {H : HL}, lookH H d = some (true, .ab (cacheB room ck M b)) → FnH Try.prog f args H nx ⟨v, news, [(d, some (.ab (cacheB room (c' ck M) (M' ck M) b)))], []⟩) : FnH Try.prog f args H nx ⟨v, news, [(d, some (.ab (clB room n' L' b)))], []⟩ := by
  refine FnH.weak1 (φ := exP fun k : CK L n => cacheB room (c' k.1.1 k.1.2) (M' k.1.1 k.1.2) b) (fnh_ex hd (fun k => cacheB_st _ _ _ _) (fun k => cacheB_st _ _ _ _) fun k => h _ _ k.2 (by rw [lookH_cons, if_pos rfl])) (clB_st _ _ _ _) ?_
  rintro v F w ⟨k, hk⟩
  exact ⟨⟨(c' k.1.1 k.1.2, M' k.1.1 k.1.2), hr _ _ k.2⟩, hk⟩
theorem clSame {f : FuncId} {args : List TV} {v : SV} {news : List (Bool × Ob)} (hd : lookH H d = some (true, .ab (clB room n L b)))
    (h : ∀ ck M, CRel L n ck M → ∀ {H : HL}, lookH H d = some (true, .ab (cacheB room ck M b)) → FnH Try.prog f args H nx ⟨v, news, [(d, some (.ab (cacheB room ck M b)))], []⟩) : FnH Try.prog f args H nx ⟨v, news, [(d, some (.ab (clB room (n + 1) L b)))], []⟩ :=
  clK hd (fun ck _ => ck) (fun _ M => M) (fun _ _ h => h.up) fun ck M hr _ => h ck M hr
theorem getQ (hd : lookH H d = some (true, .ab (clB room n L b))) (ok : LOk n room L) (hz : n ≤ 1000) (k : Int) :
    FnH Try.prog 11 [.c (.nm d), .c (iT k)] H nx ⟨.tup [.c (.s (getR L k)), .c (.b (getB L k))], [], [(d, some (.ab (clB room (n + 1) (getS L k) b)))], []⟩ := by
  unfold getR getB getS
  cases hg : gget k L with
  | none => exact clSame hd fun ck M hr _ h => getNo h (hr.none ok hg)
  | some x =>
    refine clK hd (fun ck _ => ck + 1) (fun ck M => gset k ⟨x.s, x.d, x.h, ck + 1⟩ M) (fun ck M hr => ?_) fun ck M hr _ h => ?_
    · obtain ⟨u, hu⟩ := hr.some ok hg
      exact hr.use ok hu ⟨x.s, x.d, x.h, ck + 1⟩ rfl
    · obtain ⟨u, hu⟩ := hr.some ok hg
      exact getOk h hu ⟨hr.c0.1, by have := hr.c0.2; omega⟩
theorem holdQ (hd : lookH H d = some (true, .ab (clB room n L b))) (ok : LOk n room L) (hz : n ≤ 1000) (k : Int) :
    FnH Try.prog 12 [.c (.nm d), .c (iT k)] H nx ⟨.t (.c (iT (holdR L k).1)), [], [(d, some (.ab (clB room (n + 1) (holdR L k).2 b)))], []⟩ := by
  unfold holdR
  cases hg : gget k L with
  | none => exact clSame hd fun ck M hr _ h => holdNo h (hr.none ok hg)
  | some x =>
    refine clK hd (fun ck _ => ck) (fun ck M => match gget k M with | some y => gset k { y with h := y.h + 1 } M | none => M) (fun ck M hr => ?_) fun ck M hr _ h => ?_
    · obtain ⟨u, hu⟩ := hr.some ok hg
      simp only [hu]
      exact hr.set ok hu ⟨x.s, x.d, x.h + 1, u⟩ rfl
    · obtain ⟨u, hu⟩ := hr.some ok hg
      simp only [hu]
      exact holdOk h hu (by have := ok.h _ (gget_mem hg); simp only at *; omega)
theorem cleanQ (hd : lookH H d = some (true, .ab (clB room n L b))) (ok : LOk n room L) (k : Int) :
    FnH Try.prog 14 [.c (.nm d), .c (iT k)] H nx ⟨.t (.c (iT (cleanR L k).1)), [], [(d, some (.ab (clB room (n + 1) (cleanR L k).2 b)))], []⟩ := by
  unfold cleanR
  cases hg : gget k L with
  | none => exact clSame hd fun ck M hr _ h => cleanNo h (hr.none ok hg)
  | some x =>
    refine clK hd (fun ck _ => ck) (fun ck M => match gget k M with | some y => gset k { y with d := false } M | none => M) (fun ck M hr => ?_) fun ck M hr _ h => ?_
    · obtain ⟨u, hu⟩ := hr.some ok hg
      simp only [hu]
      exact hr.set ok hu ⟨x.s, false, x.h, u⟩ rfl
    · obtain ⟨u, hu⟩ := hr.some ok hg
      simp only [hu]
      exact cleanOk h hu
theorem freeQ (hd : lookH H d = some (true, .ab (clB room n L b))) (ok : LOk n room L) (hz : n ≤ 1000) (k : Int) :
    FnH Try.prog 13 [.c (.nm d), .c (iT k)] H nx ⟨.t (.c (iT (freeR L k).1)), [], [(d, some (.ab (clB room (n + 1) (freeR L k).2 b)))], []⟩ := by
  unfold freeR
  cases hg : gget k L with
  | none => exact clSame hd fun ck M hr _ h => freeNo h (hr.none ok hg)
  | some x =>
    by_cases h0 : x.h = 0
    · simp only [if_pos h0]
      exact clSame hd fun ck M hr _ h => by
        obtain ⟨u, hu⟩ := hr.some ok hg
        exact freeZero h hu h0
    · simp only [if_neg h0]
      refine clK hd (fun ck _ => ck) (fun ck M => match gget k M with | some y => gset k { y with h := y.h - 1 } M | none => M) (fun ck M hr => ?_) fun ck M hr _ h => ?_
      · obtain ⟨u, hu⟩ := hr.some ok hg
        simp only [hu]
        exact hr.set ok hu ⟨x.s, x.d, x.h - 1, u⟩ rfl
      · obtain ⟨u, hu⟩ := hr.some ok hg
        simp only [hu]
        exact freeOk h hu (by have := ok.h _ (gget_mem hg); simp only at *; omega)
theorem putQ (hd : lookH H d = some (true, .ab (clB room n L b))) (ok : LOk n room L) (hz : n ≤ 1000) (k : Int) (s : ByteArray) (dy : Bool) :
    FnH Try.prog 9 [.c (.nm d), .c (iT k), .c (.s s), .c (.b dy)] H nx ⟨.tup [.c (iT (putR room L k s dy).1), .c (iT (putR room L k s dy).2.1)], [], [(d, some (.ab (clB room (n + 1) (putR room L k s dy).2.2 b)))], []⟩ := by
  unfold putR
  by_cases h1 : k < 0 ∨ 2048 ≤ k
  · simp only [if_pos h1]
    exact clSame hd fun ck M hr _ h => putRange h h1
  simp only [if_neg h1]
  have hk : 0 ≤ k ∧ k < 2048 := by omega
  by_cases h2 : s.size ≠ 64
  · simp only [if_pos h2]
    exact clSame hd fun ck M hr _ h => putForm h hk h2
  simp only [if_neg h2]
  have hs : s.size = 64 := by omega
  cases hg : gget k L with
  | some x =>
    refine clK hd (fun ck _ => ck + 1) (fun ck M => gset k ⟨s, x.d || dy, x.h, ck + 1⟩ M) (fun ck M hr => ?_) fun ck M hr _ h => ?_
    · obtain ⟨u, hu⟩ := hr.some ok hg
      exact hr.use ok hu ⟨s, x.d || dy, x.h, ck + 1⟩ rfl
    · obtain ⟨u, hu⟩ := hr.some ok hg
      exact putOver h hk hs ⟨hr.c0.1, by have := hr.c0.2; omega⟩ hu
  | none =>
    by_cases h3 : (L.length : Int) < room
    · simp only [if_pos h3]
      refine clK hd (fun ck _ => ck + 1) (fun ck M => M ++ [(k, ⟨s, dy, 0, ck + 1⟩)]) (fun ck M hr => hr.add ⟨s, dy, 0, ck + 1⟩ rfl) fun ck M hr _ h => ?_
      exact putNew h hk hs ⟨hr.c0.1, by have := hr.c0.2; omega⟩ (hr.none ok hg) (by rw [hr.len]; exact h3) (gget_no (hr.none ok hg))
    · simp only [if_neg h3]
      by_cases h4 : oldL L < 0
      · simp only [if_pos h4]
        refine clSame hd fun ck M hr _ h => putFull h hk hs (hr.none ok hg) (by rw [hr.len]; omega) (hr.nd ok) (hr.pos ok) fun o' ho => ?_
        rw [hr.old o' ho]
        unfold oldL at h4 ⊢
        split
        · rename_i p hp
          rw [hp] at h4
          have := (ok.rg p (List.mem_of_find?_eq_some hp)).1
          simp only at h4
          omega
        · rfl
      · simp only [if_neg h4]
        obtain ⟨x, hgo⟩ : ∃ x, gget (oldL L) L = some x := by
          unfold oldL at h4 ⊢
          split
          · rename_i p hp
            exact ⟨p.2, gget_nd ok.nd (List.mem_of_find?_eq_some hp)⟩
          · rename_i hp
            rw [hp] at h4
            simp at h4
        refine clK hd (fun ck _ => ck + 1) (fun ck M => gdel (oldL L) M ++ [(k, ⟨s, dy, 0, ck + 1⟩)]) (fun ck M hr => (hr.del ok (oldL L)).add ⟨s, dy, 0, ck + 1⟩ rfl) fun ck M hr _ h => ?_
        obtain ⟨u, hu⟩ := hr.some ok hgo
        exact putEvict h hk hs ⟨hr.c0.1, by have := hr.c0.2; omega⟩ (hr.none ok hg) (by rw [hr.len]; omega) (gget_no (hr.none ok hg)) (hr.nd ok) (hr.pos ok) hr.old hu
theorem CRel.bad {ck : Int} {M : List (Int × Bf)} (h : CRel L n ck M) (ok : LOk n room L) : dBad M = badL L := by
  funext k
  unfold dBad badL
  rw [h.get ok k]
  cases gget k M <;> rfl
end
theorem CRel.drop {n room ck : Int} : ∀ (xs : List Int) {L : List (Int × Bd)} {M : List (Int × Bf)}, CRel L n ck M → LOk n room L → CRel (xs.foldl (fun L k => gdel k L) L) n ck (dropM M xs) ∧ LOk n room (xs.foldl (fun L k => gdel k L) L)
  | [], _, _, h, ok => ⟨h, ok⟩
  | x :: xs, _, _, h, ok => CRel.drop xs (h.del ok x) (ok.del x)
theorem LOk.dels {n room : Int} : ∀ (xs : List Int) {L : List (Int × Bd)}, LOk n room L → LOk n room (xs.foldl (fun L k => gdel k L) L)
  | [], _, ok => ok
  | x :: xs, _, ok => LOk.dels xs (ok.del x)
theorem CRel.new : CRel [] 0 0 [] := ⟨⟨[], rfl, by simp, by simp, List.Perm.refl _⟩, Int.le_refl _, Int.le_refl _⟩
section
variable {H : HL} {nx d b : Nat} {room n : Int} {L : List (Int × Bd)}
theorem dropQ (hd : lookH H d = some (true, .ab (clB room n L b))) (ok : LOk n room L) {u : TV} {xs : List Int} (hr : SlQ H u xs.length 1 (ivs xs) d) (z : xs.length ≤ 100000000000000) :
    FnH Try.prog 15 [.c (.nm d), u] H nx ⟨.t (.c (iT (dropR L xs).1)), [], [(d, some (.ab (clB room (n + 1) (dropR L xs).2 b)))], []⟩ := by
  have key : ∀ ck M, CRel L n ck M → xs.any (dBad M) = xs.any (badL L) := fun ck M hc => by rw [hc.bad ok]
  unfold dropR
  refine FnH.weak1 (φ := exP fun k : CK L n => cacheB room k.1.1 (if xs.any (badL L) = true then k.1.2 else dropM k.1.2 xs) b) (fnh_ex hd (fun k => cacheB_st _ _ _ _) (fun k => cacheB_st _ _ _ _) fun k => ?_) (clB_st _ _ _ _) ?_
  · have := dropA (nx := nx) (H := (d, some (true, .ab (cacheB room k.1.1 k.1.2 b))) :: H) (by rw [lookH_cons, if_pos rfl]) (u := u) (xs := xs) (hr.cons hd (clB_st _ _ _ _) fun v F w h => ⟨k, h⟩) z
    rw [key _ _ k.2] at this
    by_cases hb : xs.any (badL L) = true
    · rw [if_pos hb, if_pos hb] at this
      rw [if_pos hb, if_pos hb]
      exact this
    · rw [if_neg hb, if_neg hb] at this
      rw [if_neg hb, if_neg hb]
      exact this
  · rintro v F w ⟨k, hk⟩
    by_cases hb : xs.any (badL L) = true
    · rw [if_pos hb] at hk ⊢
      exact ⟨⟨k.1, k.2.up⟩, hk⟩
    · rw [if_neg hb] at hk ⊢
      exact ⟨⟨(k.1.1, dropM k.1.2 xs), (CRel.drop xs k.2 ok).1.up⟩, hk⟩
theorem allQ (hd : lookH H d = some (true, .ab (clB room n L b))) (ok : LOk n room L) :
    FnH Try.prog 17 [.c (.nm d)] H nx ⟨.t (.c (.nm nx)), [(true, .own 3 1 (allR L).length (ivs (allR L)))], [(d, some (.ab (clB room (n + 1) L b)))], []⟩ := by
  refine clSame hd fun ck M hr _ h => ?_
  have := allA (nx := nx) h (by have := hr.len; have := ok.len; have := ok.rm; omega)
  have e : keysS M = allR L := srtI_perm hr.keys
  rw [e] at this
  exact this
theorem dirtyQ (hd : lookH H d = some (true, .ab (clB room n L b))) (ok : LOk n room L) :
    FnH Try.prog 20 [.c (.nm d)] H nx ⟨.t (.c (.nm nx)), [(true, .own 3 1 (dirtyR L).length (ivs (dirtyR L)))], [(d, some (.ab (clB room (n + 1) L b)))], []⟩ := by
  refine clSame hd fun ck M hr _ h => ?_
  have := dirtyA (nx := nx) h (by have := hr.len; have := ok.len; have := ok.rm; omega)
  have e : dirtyS M = dirtyR L := by
    unfold dirtyS dirtyR
    rw [show keysS M = allR L from srtI_perm hr.keys]
    congr 1
    funext k
    unfold notDirty isDirty
    rw [hr.get ok k]
    cases gget k M with
    | none => rfl
    | some x => simp [sB]
  rw [e] at this
  exact this
theorem getL (hd : lookH H d = some (true, .ab (cl room n L))) (ok : LOk n room L) (hz : n ≤ 1000) (k : Int) :
    FnH Try.prog 11 [.c (.nm d), .c (iT k)] H nx ⟨.tup [.c (.s (getR L k)), .c (.b (getB L k))], [], [(d, some (.ab (cl room (n + 1) (getS L k))))], []⟩ :=
  fnh_ex hd (clB_st _ _ _) (clB_st _ _ _) fun b => getQ (by rw [lookH_cons, if_pos rfl]) ok hz k
theorem holdL (hd : lookH H d = some (true, .ab (cl room n L))) (ok : LOk n room L) (hz : n ≤ 1000) (k : Int) :
    FnH Try.prog 12 [.c (.nm d), .c (iT k)] H nx ⟨.t (.c (iT (holdR L k).1)), [], [(d, some (.ab (cl room (n + 1) (holdR L k).2)))], []⟩ :=
  fnh_ex hd (clB_st _ _ _) (clB_st _ _ _) fun b => holdQ (by rw [lookH_cons, if_pos rfl]) ok hz k
theorem cleanL (hd : lookH H d = some (true, .ab (cl room n L))) (ok : LOk n room L) (k : Int) :
    FnH Try.prog 14 [.c (.nm d), .c (iT k)] H nx ⟨.t (.c (iT (cleanR L k).1)), [], [(d, some (.ab (cl room (n + 1) (cleanR L k).2)))], []⟩ :=
  fnh_ex hd (clB_st _ _ _) (clB_st _ _ _) fun b => cleanQ (by rw [lookH_cons, if_pos rfl]) ok k
theorem freeL (hd : lookH H d = some (true, .ab (cl room n L))) (ok : LOk n room L) (hz : n ≤ 1000) (k : Int) :
    FnH Try.prog 13 [.c (.nm d), .c (iT k)] H nx ⟨.t (.c (iT (freeR L k).1)), [], [(d, some (.ab (cl room (n + 1) (freeR L k).2)))], []⟩ :=
  fnh_ex hd (clB_st _ _ _) (clB_st _ _ _) fun b => freeQ (by rw [lookH_cons, if_pos rfl]) ok hz k
theorem putL (hd : lookH H d = some (true, .ab (cl room n L))) (ok : LOk n room L) (hz : n ≤ 1000) (k : Int) (s : ByteArray) (dy : Bool) :
    FnH Try.prog 9 [.c (.nm d), .c (iT k), .c (.s s), .c (.b dy)] H nx ⟨.tup [.c (iT (putR room L k s dy).1), .c (iT (putR room L k s dy).2.1)], [], [(d, some (.ab (cl room (n + 1) (putR room L k s dy).2.2)))], []⟩ :=
  fnh_ex hd (clB_st _ _ _) (clB_st _ _ _) fun b => putQ (by rw [lookH_cons, if_pos rfl]) ok hz k s dy
theorem dropL (hd : lookH H d = some (true, .ab (cl room n L))) (ok : LOk n room L) {u : TV} {xs : List Int} (hr : SlQ H u xs.length 1 (ivs xs) d) (z : xs.length ≤ 100000000000000) :
    FnH Try.prog 15 [.c (.nm d), u] H nx ⟨.t (.c (iT (dropR L xs).1)), [], [(d, some (.ab (cl room (n + 1) (dropR L xs).2)))], []⟩ :=
  fnh_ex hd (clB_st _ _ _) (clB_st _ _ _) fun b => dropQ (by rw [lookH_cons, if_pos rfl]) ok (hr.cons hd (cl_st _ _ _) fun v F w h => ⟨b, h⟩) z
theorem allL (hd : lookH H d = some (true, .ab (cl room n L))) (ok : LOk n room L) :
    FnH Try.prog 17 [.c (.nm d)] H nx ⟨.t (.c (.nm nx)), [(true, .own 3 1 (allR L).length (ivs (allR L)))], [(d, some (.ab (cl room (n + 1) L)))], []⟩ :=
  fnh_ex hd (clB_st _ _ _) (clB_st _ _ _) fun b => allQ (by rw [lookH_cons, if_pos rfl]) ok
theorem dirtyL (hd : lookH H d = some (true, .ab (cl room n L))) (ok : LOk n room L) :
    FnH Try.prog 20 [.c (.nm d)] H nx ⟨.t (.c (.nm nx)), [(true, .own 3 1 (dirtyR L).length (ivs (dirtyR L)))], [(d, some (.ab (cl room (n + 1) L)))], []⟩ :=
  fnh_ex hd (clB_st _ _ _) (clB_st _ _ _) fun b => dirtyQ (by rw [lookH_cons, if_pos rfl]) ok
theorem cnewL {m : Int} (h0 : 1 ≤ m) (h1 : m ≤ 256) : FnH Try.prog 6 [.c (iT m)] H nx ⟨.tup [.c (.nm nx), .c (iT 0)], [(true, .ab (cl m 0 []))], [], []⟩ := by
  refine fnM (fn := Try.f6) 14 rfl rfl rfl (args' := [.c (iT m)]) (H' := []) (nx' := 0) [] (fun e w M => ⟨e, ⟨fun n b o h => (by cases h), fun n o m c q h => (by cases h)⟩, rfl⟩) rfl rfl rfl (fun e w M u hu => by cases hu) (fun u hu => by cases hu) (by simp) (v' := .tup [.c (.nm 0), .c (iT 0)]) (news' := [(true, .ab (cl m 0 []))]) rfl rfl rfl rfl rfl fun w Wr => ?_
  have hc : (decide (m < 1) || decide (256 < m)) = false := by
    rw [Bool.or_eq_false_iff]
    exact ⟨decide_eq_false (by omega), decide_eq_false (by omega)⟩
  refine rn [(9, .dec false)] rfl (by (repeat' (first | exact trivial | exact rfl | exact hc | exact fun _ => hc | refine And.intro ?_ ?_))) ?_
  refine Done.newE (bufsQ 58 []) (.pointer none) bufsQ_stable rfl (fun w => bufsQ_nil) ?_
  refine Done.pin 1 rfl fun b => ?_
  refine Done.foldR 2 (.p 1 0) [(0, 1), (1, 0), (2, 2), (3, 3)] (cacheO m 0 [] (fun _ => 0) b) (.p 0 0) rfl (by repeat' (first | exact trivial | exact rfl | refine And.intro ?_ ?_)) (by repeat' (first | exact trivial | exact rfl | refine And.intro ?_ ?_)) rfl rfl (fun _ => rfl) ?_
  refine Done.weak 4 (φ' := cl m 0 []) rfl (cl_st _ _ _) (fun v F w h => ⟨b, ⟨⟨(0, []), CRel.new⟩, ⟨_, h⟩⟩⟩) ?_
  exact retM tysOk [(0, 4)] rfl (by repeat' (first | exact trivial | exact rfl | refine And.intro ?_ ?_)) (by repeat' (first | exact trivial | exact rfl | refine And.intro ?_ ?_)) rfl rfl
theorem LOk.new {m : Int} (h0 : 1 ≤ m) (h1 : m ≤ 256) : LOk 0 m [] := ⟨by simp, by simp, by simp; omega, ⟨h0, h1⟩, by simp, Int.le_refl _⟩
theorem LOk.get (ok : LOk n room L) (k : Int) : LOk (n + 1) room (getS L k) := by
  unfold getS
  split
  · rename_i x hg
    exact (ok.use hg rfl).up
  · exact ok.up
theorem LOk.hold (ok : LOk n room L) (k : Int) : LOk (n + 1) room (holdR L k).2 := by
  unfold holdR
  split
  · rename_i x hg
    have := ok.h _ (gget_mem hg)
    exact ok.set (by simp only at *; omega)
  · exact ok.up
theorem LOk.free (ok : LOk n room L) (k : Int) : LOk (n + 1) room (freeR L k).2 := by
  unfold freeR
  split
  · rename_i x hg
    have := ok.h _ (gget_mem hg)
    split
    · exact ok.up
    · exact ok.set (by simp only at *; omega)
  · exact ok.up
theorem LOk.clean (ok : LOk n room L) (k : Int) : LOk (n + 1) room (cleanR L k).2 := by
  unfold cleanR
  split
  · rename_i x hg
    have := ok.h _ (gget_mem hg)
    exact ok.set (by simp only at *; omega)
  · exact ok.up
theorem oldL_get (ok : LOk n room L) (h : ¬ oldL L < 0) : ∃ x, gget (oldL L) L = some x ∧ bfr x = true := by
  unfold oldL at h ⊢
  split
  · rename_i p hp
    exact ⟨p.2, gget_nd ok.nd (List.mem_of_find?_eq_some hp), by simpa using List.find?_some hp⟩
  · rename_i hp
    rw [hp] at h
    simp at h
theorem LOk.put (ok : LOk n room L) (k : Int) (s : ByteArray) (dy : Bool) : LOk (n + 1) room (putR room L k s dy).2.2 := by
  unfold putR
  split
  · exact ok.up
  rename_i h1
  split
  · exact ok.up
  split
  · rename_i x hg
    exact (ok.use (y := ⟨s, x.d || dy, x.h⟩) hg rfl).up
  · rename_i hg
    split
    · rename_i h3
      exact (ok.add (by omega) (gget_no hg) h3 ⟨Int.le_refl _, ok.n0⟩).up
    · split
      · exact ok.up
      · rename_i h3 h4
        obtain ⟨x, hx, _⟩ := oldL_get ok h4
        have := gdel_length hx
        have := ok.len
        exact ((ok.del _).add (by omega) (gdel_no (gget_no hg)) (by omega) ⟨Int.le_refl _, ok.n0⟩).up
theorem LOk.drop (ok : LOk n room L) (xs : List Int) : LOk (n + 1) room (dropR L xs).2 := by
  unfold dropR
  split
  · exact ok.up
  · exact (LOk.dels xs ok).up
end
end Cw
