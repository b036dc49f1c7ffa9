/- The cache: its buffers behind pointers told by one name; its methods by reckoning. -/
import Derived.Test.YtaopblgnaoojkaaVcN
namespace Vc
open Go Go.RowKit
theorem At.fact {P : Program} {F : Frm} {Q : Exit → Act → World → Prop} {c : Code} {ks : List KI} {L : LL} {H : HL} {nx : Nat} {φ : AbP} {b : Bool} {p : Prop} (d : Nat) (hd : lookH H d = some (b, .ab φ)) (hp : ∀ v F w, φ v F w → p) (h : p → At P F Q c ks L H nx) : At P F Q c ks L H nx :=
  ⟨fun hW e a w S => (h (hp _ _ _ (S.ob d b _ hd).1.1)).h hW e a w S⟩
end Vc
namespace Cw
open Go Vc
open Go.Proofs
set_option maxRecDepth 100000
/-- A sector that is there. -/
structure Bf where
  s : ByteArray
  d : Bool
  h : Int
  u : Int
def bfC (x : Bf) : List CV := [.s x.s, .b x.d, iT x.h, iT x.u]
def cvM (nb : Int → Nat) (M : List (Int × Bf)) : List (Int × Value) := M.map fun p => (p.1, ptr (nb p.1))
def cvQ (nb : Int → Nat) (M : List (Int × Bf)) : List (Nat × List CV) := M.map fun p => (nb p.1, bfC p.2)
/-- One is told anew. -/
def gset {α : Type} (k : Int) (x : α) : List (Int × α) → List (Int × α)
  | [] => []
  | p :: l => if p.1 = k then (k, x) :: l else p :: gset k x l
theorem gset_fst {α : Type} {k : Int} {x : α} : ∀ {M : List (Int × α)}, (gset k x M).map Prod.fst = M.map Prod.fst
  | [] => rfl
  | p :: l => by
    unfold gset
    split
    · rename_i h; rw [List.map_cons, List.map_cons, h]
    · rw [List.map_cons, List.map_cons, gset_fst]
theorem cvM_length {nb : Int → Nat} {M : List (Int × Bf)} : (cvM nb M).length = M.length := by simp [cvM]
theorem cvM_fst {nb : Int → Nat} {M : List (Int × Bf)} : (cvM nb M).map Prod.fst = M.map Prod.fst := by simp [cvM]
theorem cvM_set {nb : Int → Nat} {k : Int} {x : Bf} {M : List (Int × Bf)} : cvM nb (gset k x M) = cvM nb M := by
  have : ∀ M : List (Int × Bf), cvM nb M = (M.map Prod.fst).map fun k => (k, ptr (nb k)) := fun M => by simp [cvM]
  rw [this, this, gset_fst]
theorem cvM_some {nb : Int → Nat} {k : Int} {x : Bf} : ∀ {M : List (Int × Bf)}, gget k M = some x → mget k (cvM nb M) = some (ptr (nb k))
  | [], h => by cases h
  | p :: l, h => by
    unfold gget at h
    show mget k ((p.1, ptr (nb p.1)) :: cvM nb l) = _
    unfold mget
    split at h
    · rename_i hp
      rw [if_pos hp, hp]
    · rename_i hp
      rw [if_neg hp]
      exact cvM_some h
theorem cvM_none {nb : Int → Nat} {k : Int} : ∀ {M : List (Int × Bf)}, gget k M = none → mget k (cvM nb M) = none
  | [], _ => rfl
  | p :: l, h => by
    unfold gget at h
    show mget k ((p.1, ptr (nb p.1)) :: cvM nb l) = _
    unfold mget
    split at h
    · cases h
    · rename_i hp
      rw [if_neg hp]
      exact cvM_none h
theorem cvM_del {nb : Int → Nat} {k : Int} : ∀ {M : List (Int × Bf)}, mdel k (cvM nb M) = cvM nb (gdel k M)
  | [] => rfl
  | p :: l => by
    show mdel k ((p.1, ptr (nb p.1)) :: cvM nb l) = _
    unfold mdel gdel
    split
    · rfl
    · rw [cvM_del]; rfl
theorem cvM_put {nb : Int → Nat} {k : Int} {x : Bf} {b' : Nat} : ∀ {M : List (Int × Bf)}, (∀ p ∈ M, p.1 ≠ k) → mput k (ptr b') (cvM nb M) = cvM (fun j => if j = k then b' else nb j) (M ++ [(k, x)])
  | [], _ => by simp [cvM, mput]
  | p :: l, h => by
    have h1 : p.1 ≠ k := h p (by simp)
    show mput k (ptr b') ((p.1, ptr (nb p.1)) :: cvM nb l) = _
    unfold mput
    rw [if_neg h1, cvM_put (x := x) fun q hq => h q (by simp [hq])]
    simp [cvM, h1]
theorem cvQ_put {nb : Int → Nat} {k : Int} {x : Bf} {b' : Nat} {M : List (Int × Bf)} (h : ∀ p ∈ M, p.1 ≠ k) : cvQ (fun j => if j = k then b' else nb j) (M ++ [(k, x)]) = cvQ nb M ++ [(b', bfC x)] := by
  unfold cvQ
  rw [List.map_append]
  congr 1
  · exact List.map_congr_left fun p hp => by simp [h p hp]
  · simp
theorem cvQ_get {nb : Int → Nat} {k : Int} {x : Bf} : ∀ {M : List (Int × Bf)}, ((cvQ nb M).map Prod.fst).Nodup → gget k M = some x → qget (nb k) (cvQ nb M) = some (bfC x)
  | [], _, h => by cases h
  | p :: l, hn, h => by
    unfold gget at h
    show qget (nb k) ((nb p.1, bfC p.2) :: cvQ nb l) = _
    unfold qget
    have hn' : nb p.1 ∉ (cvQ nb l).map Prod.fst ∧ ((cvQ nb l).map Prod.fst).Nodup := List.nodup_cons.1 hn
    split at h
    · rename_i hp
      cases h
      rw [if_pos (by rw [hp])]
    · rename_i hp
      rw [if_neg, cvQ_get hn'.2 h]
      intro he
      refine hn'.1 ?_
      rw [he]
      have := gget_mem h
      exact List.mem_map.2 ⟨(nb k, bfC x), List.mem_map.2 ⟨(k, x), this, rfl⟩, rfl⟩
theorem cvQ_out {nb : Int → Nat} {k : Int} {x : Bf} : ∀ {M : List (Int × Bf)}, gget k M = some x → (cvQ nb M).Perm ((nb k, bfC x) :: cvQ nb (gdel k M))
  | [], h => by cases h
  | p :: l, h => by
    unfold gget at h
    unfold gdel
    split at h
    · rename_i hp
      cases h
      rw [if_pos hp, ← hp]
      exact List.Perm.refl _
    · rename_i hp
      rw [if_neg hp]
      exact ((cvQ_out h).cons (nb p.1, bfC p.2)).trans (List.Perm.swap _ _ _)
theorem cvQ_in {nb : Int → Nat} {k : Int} {x y : Bf} : ∀ {M : List (Int × Bf)}, gget k M = some x → ((nb k, bfC y) :: cvQ nb (gdel k M)).Perm (cvQ nb (gset k y M))
  | [], h => by cases h
  | p :: l, h => by
    unfold gget at h
    unfold gdel gset
    split at h
    · rename_i hp
      rw [if_pos hp, if_pos hp]
      exact List.Perm.refl _
    · rename_i hp
      rw [if_neg hp, if_neg hp]
      exact (List.Perm.swap _ _ _).trans ((cvQ_in h).cons (nb p.1, bfC p.2))
/-- A cache: room, clock, the sectors; nb: their blocks. -/
def cacheO (room clock : Int) (M : List (Int × Bf)) (nb : Int → Nat) (b : Nat) : List (Bool × Ob) :=
  [(true, .cells [iT room, iT clock, .mp 1] 54), (true, .mp (cvM nb M)), (true, .ab (bufsQ 58 (cvQ nb M))), (false, .pin 0 b)]
def cacheP (room clock : Int) (M : List (Int × Bf)) (b : Nat) (nb : Int → Nat) : AbP := absP (cacheO room clock M nb b) (.p 0 0)
def cacheB (room clock : Int) (M : List (Int × Bf)) (b : Nat) : AbP := exP (cacheP room clock M b)
def cacheX (room clock : Int) (M : List (Int × Bf)) : AbP := exP (cacheB room clock M)
theorem cacheP_st (room clock : Int) (M : List (Int × Bf)) (b : Nat) : ∀ nb, stable (cacheP room clock M b nb) := fun nb => absP_stable _ _
theorem cacheB_st (room clock : Int) (M : List (Int × Bf)) : ∀ b, stable (cacheB room clock M b) := fun b => exP_stable (cacheP_st room clock M b)
theorem cacheB_pins (room clock : Int) (M : List (Int × Bf)) (b : Nat) : Pins (cacheB room clock M b) (ptr b) := fun v F w ⟨nb, h⟩ => (pins_abs (k := 3) rfl : Pins (cacheP room clock M b nb) (ptr b)) v F w h
theorem cacheX_nn (room clock : Int) (M : List (Int × Bf)) : NotNil (cacheX room clock M) := NotNil.ex fun b => cacheB_pins _ _ _ b
section
variable {H : HL} {nx : Nat}
def r3 (c q m : Nat) (n : Nat) : Nat := if n = 0 then c else if n = 1 then q else m
theorem r3_inj {c q m : Nat} (h1 : c ≠ q) (h2 : c ≠ m) (h3 : q ≠ m) : ∀ i j, i < 3 → j < 3 → r3 c q m i = r3 c q m j → i = j := by
  intro i j hi hj h
  unfold r3 at h
  rcases i with _ | _ | _ | i <;> rcases j with _ | _ | _ | j <;> first | rfl | omega | (simp at h; omega)
set_option maxRecDepth 100000 in
set_option maxHeartbeats 1000000 in
theorem use_h {c q m : Nat} {b3 : Bool} {room clock : Int} {x : Bf} {M : List (Int × Value)} (hc : lookH H c = some (true, .cells [iT room, iT clock, .mp m] 54)) (hq : lookH H q = some (true, .cells (bfC x) 58)) (hm : lookH H m = some (b3, .mp M))
    (h1 : c ≠ q) (h2 : c ≠ m) (h3 : q ≠ m) (hz : 0 ≤ clock ∧ clock ≤ 1000000) :
    FnH Try.prog 24 [.c (.p c 0), .c (.p q 0)] H nx ⟨.tup [], [], [(c, some (.cells [iT room, iT (clock + 1), .mp m] 54)), (q, some (.cells (bfC { x with u := clock + 1 }) 58))], []⟩ := by
  have w1 : IntKind.i64.wrap (clock + 1) = clock + 1 := wrap_small (by omega) (by omega)
  refine fnU (fn := Try.f24) 18 rfl rfl rfl (args' := [.c (.p 0 0), .c (.p 1 0)]) (r3 c q m) [(true, .cells [iT room, iT clock, .mp 2] 54), (true, .cells (bfC x) 58), (false, .mp M)]
    [(0, [iT room, iT (clock + 1), .mp 2], 54), (1, bfC { x with u := clock + 1 }, 58)] rfl (by simp [TV.ns, CV.ns]) ⟨⟨hc, rfl⟩, ⟨hq, rfl⟩, ⟨b3, hm⟩, trivial⟩ rfl (r3_inj h1 h2 h3) (by simp) rfl rfl rfl (fun bs => rfl) rfl rfl rfl fun w W bs => ?_
  refine rn [] rfl (by repeat' (first | exact trivial | exact rfl | refine And.intro ?_ ?_)) ?_
  exact endU tysOk rfl rfl ⟨⟨_, _, rfl, by rw [w1]⟩, ⟨_, _, rfl, by rw [w1]; rfl⟩, trivial⟩ rfl ⟨rfl, rfl, rfl, trivial⟩
def bfree (x : Bf) : Bool := !x.d && x.h == 0
theorem memB {H : HL} {n p q n0 : Nat} {b1 b2 : Bool} {l : List (Nat × List CV)} (hp : lookH H p = some (b1, .pin n n0)) (hq : lookH H q = some (b2, .ab (bufsQ 58 l))) :
    rdsOk (r3 n p q) H [(1, some (false, .pin 0 n0)), (2, some (false, .ab (bufsQ 58 l)))] := ⟨⟨b1, hp⟩, ⟨b2, hq⟩, trivial⟩
set_option maxRecDepth 100000 in
set_option maxHeartbeats 1000000 in
/-- free, of a buffer behind a pointer. -/
theorem free_h {n p q n0 : Nat} {b1 b2 : Bool} {l : List (Nat × List CV)} {x : Bf} (hp : lookH H p = some (b1, .pin n n0)) (hq : lookH H q = some (b2, .ab (bufsQ 58 l))) (hg : qget n0 l = some (bfC x)) :
    FnH Try.prog 25 [.c (.p n 0)] H nx ⟨.t (.c (.b (bfree x))), [], [], []⟩ := by
  refine fnR (fn := Try.f25) 15 rfl rfl rfl (args' := [.c (.p 0 0)]) (H' := [(1, some (false, .pin 0 n0)), (2, some (false, .ab (bufsQ 58 l)))]) (nx' := 3) (fun e w M => ⟨_, mem_rd (r3 n p q) (memB hp hq) M, rfl⟩) rfl rfl rfl rfl fun w => ?_
  unfold bfree
  cases hd : x.d with
  | true =>
    refine rn [(6, .spec ⟨.t (.c (.b true)), [], [], []⟩), (8, .dec false)] rfl (by (repeat' (first | exact trivial | exact rfl | exact spec_loadQ (p := 1) (q := 2) (y := .b true) tysOk rfl rfl rfl rfl rfl rfl rfl hg (by rw [← hd]; rfl) | exact fun _ => spec_loadQ (p := 1) (q := 2) (y := .b true) tysOk rfl rfl rfl rfl rfl rfl rfl hg (by rw [← hd]; rfl) | refine And.intro ?_ ?_))) ?_
    exact ret0 tysOk rfl (by repeat' (first | exact trivial | exact rfl | refine And.intro ?_ ?_)) rfl
  | false =>
    refine rn [(6, .spec ⟨.t (.c (.b false)), [], [], []⟩), (8, .dec true), (12, .spec ⟨.t (.c (iT x.h)), [], [], []⟩)] rfl (by (repeat' (first | exact trivial | exact rfl | exact trivial | exact fun _ => trivial | first | exact spec_loadQ (p := 1) (q := 2) (y := .b false) tysOk rfl rfl rfl rfl rfl rfl rfl hg (by rw [← hd]; rfl) | exact spec_loadQ (p := 1) (q := 2) (y := iT x.h) tysOk rfl rfl rfl rfl rfl rfl rfl hg rfl | refine And.intro ?_ ?_))) ?_
    exact ret0 tysOk rfl (by repeat' (first | exact trivial | exact rfl | refine And.intro ?_ ?_)) rfl
end
end Cw
