/- The cache: Drop, All, Dirty, New. -/
import Derived.Test.YtaopblgnaoojkaaCach3
import Derived.Test.YtaopblgnaoojkaaDelF
import Derived.Test.YtaopblgnaoojkaaMapK
import Derived.Test.YtaopblgnaoojkaaBook
namespace Vc
open Go Go.RowKit
/-- A thing that stands in no block. -/
theorem Sat.newE {F : Frm} {L : LL} {H : HL} {nx : Nat} {e : Env} {a : Act} {w : World} (S : Sat F (fun t => look t L) (lookH H) e a w) (hW : WF L H nx) (φ : AbP) (v : Value) (hs : stable φ) (hone : v.oneCell' = true) (h : φ v (fun _ => False) w) :
    WF L ((nx, some (true, .ab φ)) :: H) (nx + 1) ∧ Sat F (fun t => look t L) (lookH ((nx, some (true, .ab φ)) :: H)) (e.put3 nx 0 v (fun _ => False)) a w := by
  have hsame : ∀ n, n < nx → e.same (e.put3 nx 0 v (fun _ => False)) n := fun n hn => Env.put3_same e (by omega)
  refine ⟨⟨fun t v hv n hn => by have := hW.l t v hv n hn; omega, fun n z hz => ?_⟩, S.fr, S.sz, S.df, fun t v hv => ?_, fun n c o hz => ?_, fun n o k c q hn hk hne g hg hg' => ?_⟩
  · rw [lookH_cons] at hz
    split at hz
    · cases hz
      exact ⟨by omega, fun m hm => by simp [Ob.ns] at hm⟩
    · obtain ⟨g1, g2⟩ := hW.h n z hz
      exact ⟨by omega, fun k hk => by have := g2 k hk; omega⟩
  · rw [S.sl t v hv]
    exact (SV.den_same fun n hn => hsame n (hW.l t v hv n hn)).symm
  · rw [lookH_cons] at hz
    split at hz
    · rename_i hn
      cases hz
      subst hn
      refine ⟨⟨by rw [Env.put3_fp, Env.put3_val e hone]; exact h, hs⟩, fun g hg => ?_⟩
      rw [Env.put3_fp] at hg
      exact hg.elim
    · obtain ⟨h1, h2⟩ := hW.h n _ hz
      obtain ⟨h3, h4⟩ := S.ob n c o hz
      refine ⟨Ob.same (hsame n h1) h3 fun k hk => (hsame k (h2 k hk)).v, fun g hg => ?_⟩
      rw [(hsame n h1).2.2] at hg
      exact h4 g hg
  · rw [lookH_cons] at hn hk
    split at hn
    · rename_i h2
      subst h2
      rw [Env.put3_fp] at hg
      exact hg
    · split at hk
      · rename_i h2
        subst h2
        rw [Env.put3_fp] at hg'
        exact hg'
      · rw [(hsame n (hW.h n _ hn).1).2.2] at hg
        rw [(hsame k (hW.h k _ hk).1).2.2] at hg'
        exact S.dj n o k c q hn hk hne g hg hg'
theorem Done.newE {F : Frm} {Q : Act → World → Prop} {L : LL} {H : HL} {nx : Nat} (φ : AbP) (v : Value) (hs : stable φ) (hone : v.oneCell' = true) (hp : ∀ w, φ v (fun _ => False) w) (h : Done F Q L ((nx, some (true, .ab φ)) :: H) (nx + 1)) : Done F Q L H nx :=
  ⟨fun hW e a w S => let ⟨hW', S'⟩ := S.newE hW φ v hs hone (hp w); h.h hW' _ a w S'⟩
theorem bufsQ_nil {T : TypeId} {w : World} : bufsQ T [] (.pointer none) (fun _ => False) w := ⟨rfl, by simp, fun g => by simp, fun p hp => (by cases hp), fun p hp => (by cases hp)⟩
end Vc
namespace Cw
open Go Vc
open Go.Proofs
set_option maxRecDepth 100000
def keysRC : Go.Shelf.Ren := ⟨fun | 6 => 26 | 7 => 27 | 8 => 38 | 9 => 39 | 10 => 40 | 11 => 45 | n => n, fun | 3 => 55 | 4 => 4 | 23 => 52 | 24 => 22 | 26 => 3 | 27 => 62 | 28 => 63 | 33 => 71 | n => n, fun n => n⟩
theorem keysL6C : Go.Proofs.SlLaysZI.n6 Try.prog keysRC := {
mixed := by kernel_rfl
f6 := ⟨Try.f26.name, by decide, Try.func26.trans (congrArg some (by kernel_rfl))⟩
f8 := ⟨Try.f38.name, by decide, Try.func38.trans (congrArg some (by kernel_rfl))⟩
f11 := ⟨Try.f45.name, by decide, Try.func45.trans (congrArg some (by kernel_rfl))⟩
t0 := Try.underlying0
a0 := Try.isAgg0
z0 := Try.sizeOf0
v0 := Try.zeroValue0
t24 := Try.underlying22
a24 := Try.isAgg22
z24 := Try.sizeOf22
v24 := Try.zeroValue22
t26 := Try.underlying3
a26 := Try.isAgg3
z26 := Try.sizeOf3
v26 := Try.zeroValue3
t28 := Try.underlying63
a28 := Try.isAgg63
z28 := Try.sizeOf63
v28 := Try.zeroValue63
i26 := by kernel_rfl }
theorem keysL7C : Go.Proofs.SlLaysZI.n7 Try.prog keysRC := {
mixed := by kernel_rfl
f7 := ⟨Try.f27.name, by decide, Try.func27.trans (congrArg some (by kernel_rfl))⟩
f10 := ⟨Try.f40.name, by decide, Try.func40.trans (congrArg some (by kernel_rfl))⟩
t0 := Try.underlying0
a0 := Try.isAgg0
z0 := Try.sizeOf0
v0 := Try.zeroValue0
t4 := Try.underlying4
a4 := Try.isAgg4
z4 := Try.sizeOf4
v4 := Try.zeroValue4
t23 := Try.underlying52
a23 := Try.isAgg52
z23 := Try.sizeOf52
v23 := Try.zeroValue52
t26 := Try.underlying3
a26 := Try.isAgg3
z26 := Try.sizeOf3
v26 := Try.zeroValue3
t27 := Try.underlying62
a27 := Try.isAgg62
z27 := Try.sizeOf62
v27 := Try.zeroValue62
t28 := Try.underlying63
a28 := Try.isAgg63
z28 := Try.sizeOf63
v28 := Try.zeroValue63
t33 := Try.underlying71
a33 := Try.isAgg71
z33 := Try.sizeOf71
v33 := Try.zeroValue71 }
theorem sortsC (m : Nat) : Go.Proofs.AnyZI.SortsIn Try.prog keysRC Fence.wide m :=
  ⟨fun blk off cap ss W hH hblk hsz => callsIn_wide.2 (Try.slices_Sort_int blk off cap ss W hH hblk hsz), fun p cap W => callsIn_wide.2 (Try.slices_Sort_int_none p cap W)⟩
theorem keysC {H : HL} {nx k : Nat} : FnH Try.prog 27 [.c (.mp k)] H nx ⟨.t (.c (.fn (.func 40) [(nx, 0)])), [(true, .cells [.mp k] 52)], [], []⟩ := keys_of rfl rfl rfl keysL7C
theorem sortedC {H : HL} {nx q k : Nat} {b1 b2 : Bool} {T : TypeId} {m : List (Int × Value)} (hq : lookH H q = some (b1, .cells [.mp k] T)) (hm : lookH H k = some (b2, .mp m)) (hz : m.length ≤ 1000000) :
    FnH Try.prog 26 [.c (.fn (.func 40) [(q, 0)])] H nx ⟨.t (.c (.nm nx)), [(true, .own 3 1 m.length (ivs (srtI (m.map Prod.fst))))], [], []⟩ :=
  sorted_of rfl rfl rfl keysL6C keysL7C sortsC (enters_of Try.func39 (by kernel_rfl) rfl) (enters_of Try.func40 (by kernel_rfl) rfl) hq hm hz
/-- Is one of these dirty or held? -/
def dBad (M : List (Int × Bf)) (n : Int) : Bool := match gget n M with
  | some x => !bfree x
  | none => false
def dropM (M : List (Int × Bf)) (xs : List Int) : List (Int × Bf) := xs.foldl (fun M n => gdel n M) M
theorem dropM_take {M : List (Int × Bf)} {xs : List Int} {k : Nat} (h : k < xs.length) : dropM M (xs.take (k + 1)) = gdel xs[k] (dropM M (xs.take k)) := by
  rw [List.take_succ_eq_append_getElem h, dropM, List.foldl_append]
  rfl
theorem cacheB_re (g : Nat → Nat) {n : Nat} {l : List Int} : (Ob.own 3 1 n (ivs l)).re g = .own 3 1 n (ivs l) := rfl
section
variable {H : HL} {nx d b : Nat} {room clock : Int} {M : List (Int × Bf)}
set_option maxRecDepth 100000 in
set_option maxHeartbeats 4000000 in
theorem dropA (hd : lookH H d = some (true, .ab (cacheB room clock M b))) {u : TV} {xs : List Int} (hr : SlQ H u xs.length 1 (ivs xs) d) (z : xs.length ≤ 100000000000000) :
    FnH Try.prog 15 [.c (.nm d), u] H nx ⟨.t (.c (iT (if xs.any (dBad M) then 130 else 0))), [], [(d, some (.ab (cacheB room clock (if xs.any (dBad M) then M else dropM M xs) b)))], []⟩ := by
  refine fnA1q (fn := Try.f15) 42 rfl rfl rfl hd hr (ptr b) (cacheB_pins _ _ _ _) (cacheB_pins _ _ _ _) rfl rfl rfl (v' := .t (.c (iT (if xs.any (dBad M) then 130 else 0)))) (news' := []) rfl rfl rfl rfl fun w Wr => ?_
  refine At.ex 0 rfl (cacheP_st _ _ _ _) fun nb => ?_
  refine At.unfoldTo 0 (L1 := [(0, .t (.c (.p 2 0))), (1, .t (.c (.nm 1)))]) (H1 := [(2, some (true, .cells [iT room, iT clock, .mp 3] 54)), (3, some (true, .mp (cvM nb M))), (4, some (true, .ab (bufsQ 58 (cvQ nb M)))), (5, some (false, .pin 2 b)), (0, none), (0, some (true, .ab (cacheP room clock M b nb))), (0, some (true, .ab (cacheB room clock M b))), (1, some (false, .rd 1 xs.length (ivs xs)))]) (nx1 := 6) rfl rfl rfl rfl rfl rfl ?_
  refine At.fact 4 rfl (fun v F w h => h.2.1) fun hnd => ?_
  refine rn [] rfl (by repeat' (first | exact trivial | exact rfl | refine And.intro ?_ ?_)) ?_
  refine At.loop (X := (k : Nat) ×' (k ≤ xs.length ∧ ∀ j (h : j < xs.length), j < k → dBad M xs[j] = false)) 6 (fun k => xs.length - k.1)
    (fun k => [(0, .t (.c (.p 2 0))), (1, .t (.c (.nm 1))), (10, .t (.c (.nm 1))), (11, .t (.c (iT (xs.length : Nat)))), (12, .t (.c (iT (k.1 : Nat))))])
    (fun _ => [(2, some (true, .cells [iT room, iT clock, .mp 3] 54)), (3, some (true, .mp (cvM nb M))), (4, some (true, .ab (bufsQ 58 (cvQ nb M)))), (5, some (false, .pin 2 b)), (1, some (false, .rd 1 xs.length (ivs xs)))]) ⟨0, by omega, fun j _ h => by omega⟩ [] (fun k => wf rfl rfl) (by repeat' (first | exact trivial | exact rfl | refine And.intro ?_ ?_)) (by repeat' (first | exact trivial | exact rfl | refine And.intro ?_ ?_)) rfl fun x => ?_
  obtain ⟨k, hk1, hk2⟩ := x
  have w2 : IntKind.i64.wrap ((k : Int) + 1) = ((k + 1 : Nat) : Int) := by rw [wrap_sm (by omega) (by omega)]; omega
  refine rn [] rfl (by repeat' (first | exact trivial | exact rfl | refine And.intro ?_ ?_)) ?_
  refine ⟨fun h => ?_, fun h => ?_⟩
  · have hlt : k < xs.length := by have : (k : Int) < (xs.length : Int) := of_decide_eq_true h; omega
    have e1 : (ivs xs)[(k : Int).toNat * 1]? = some (.int .i64 xs[k]) := by simpa using ivs_at hlt
    have b0 : (0 : Int) ≤ (k : Int) := by omega
    have b1 : (k : Int) < (xs.length : Int) := by omega
    have next : dBad M xs[k] = false → ∀ j (h : j < xs.length), j < k + 1 → dBad M xs[j] = false := fun hb j hj h => by
      rcases Nat.lt_or_eq_of_le (Nat.le_of_lt_succ h) with h | rfl
      · exact hk2 j hj h
      · exact hb
    cases hg : gget xs[k] M with
    | none =>
      have hlk : lkV (cvM nb M) xs[k] (.pointer none) false = (SV.t (.c .np)).den e0 := by unfold lkV; rw [cvM_none hg]; rfl
      refine rn [(15, .ld [iT xs[k]]), (21, .ret (.t (.c .np))), (24, .dec false), (28, .dec false)] rfl (by (repeat' (first | exact trivial | exact rfl | exact e1 | exact fun _ => e1 | first | exact hlk | exact b0 | exact b1 | decide | refine And.intro ?_ ?_))) ?_
      exact roundEnd ⟨k + 1, by omega, next (by rw [dBad, hg])⟩ [] (by show xs.length - (k + 1) < xs.length - k; omega) (by (repeat' (first | exact trivial | exact rfl | exact w2 | exact fun _ => w2 | refine And.intro ?_ ?_))) (by repeat' (first | exact trivial | exact rfl | refine And.intro ?_ ?_)) rfl
    | some x =>
      refine At.num (nb xs[k]) ?_
      have hq := cvQ_get hnd hg
      by_cases hf : bfree x = true
      · refine rn [(15, .ld [iT xs[k]]), (21, .spec ⟨.t (.c (.p 6 0)), [], [], []⟩), (24, .dec true), (26, .spec ⟨.t (.c (.b (bfree x))), [], [], []⟩), (28, .dec false)] rfl
          (by (repeat' (first | exact trivial | exact rfl | exact e1 | exact fun _ => e1 | first | exact spec_lookp (q := 6) tysOk rfl rfl rfl rfl rfl (cvM_some hg) | exact free_h (p := 6) (q := 4) rfl rfl hq | exact b0 | exact b1 | (rw [hf]; rfl) | decide | refine And.intro ?_ ?_))) ?_
        exact roundEnd ⟨k + 1, by omega, next (by rw [dBad, hg]; simp [hf])⟩ [] (by show xs.length - (k + 1) < xs.length - k; omega) (by (repeat' (first | exact trivial | exact rfl | exact w2 | exact fun _ => w2 | refine And.intro ?_ ?_))) (by repeat' (first | exact trivial | exact rfl | refine And.intro ?_ ?_)) rfl
      · have hf' : bfree x = false := by simpa using hf
        refine rn [(15, .ld [iT xs[k]]), (21, .spec ⟨.t (.c (.p 6 0)), [], [], []⟩), (24, .dec true), (26, .spec ⟨.t (.c (.b (bfree x))), [], [], []⟩), (28, .dec true)] rfl
          (by (repeat' (first | exact trivial | exact rfl | exact e1 | exact fun _ => e1 | first | exact spec_lookp (q := 6) tysOk rfl rfl rfl rfl rfl (cvM_some hg) | exact free_h (p := 6) (q := 4) rfl rfl hq | exact b0 | exact b1 | (rw [hf']; rfl) | decide | refine And.intro ?_ ?_))) (roundRet ?_)
        have hany : xs.any (dBad M) = true := List.any_eq_true.2 ⟨xs[k], List.getElem_mem _, by rw [dBad, hg]; simp [hf']⟩
        rw [if_pos hany, if_pos hany]
        refine Done.fold [(0, 2), (1, 3), (2, 4), (3, 5)] (cacheO room clock M nb b) (.p 0 0) (by repeat' (first | exact trivial | exact rfl | refine And.intro ?_ ?_)) rfl rfl (fun _ => rfl) ?_
        refine Done.weak 7 (φ' := cacheB room clock M b) rfl (exP_stable (cacheP_st _ _ _ _)) (fun v F w h => ⟨nb, h⟩) ?_
        exact retM tysOk [(0, 7)] rfl (by repeat' (first | exact trivial | exact rfl | refine And.intro ?_ ?_)) (by repeat' (first | exact trivial | exact rfl | refine And.intro ?_ ?_)) rfl rfl
  · have hlt : k = xs.length := by have : ¬ (k : Int) < (xs.length : Int) := of_decide_eq_false h; omega
    have hany : ¬ xs.any (dBad M) = true := fun h => by
      obtain ⟨n, hn, hb⟩ := List.any_eq_true.1 h
      obtain ⟨j, hj, rfl⟩ := List.mem_iff_getElem.1 hn
      rw [hk2 j hj (by omega)] at hb
      cases hb
    rw [if_neg hany, if_neg hany]
    refine rn [] rfl (by repeat' (first | exact trivial | exact rfl | refine And.intro ?_ ?_)) (roundExit rfl ?_)
    refine rnA [] rfl (by repeat' (first | exact trivial | exact rfl | refine And.intro ?_ ?_)) ?_
    refine At.loop (X := (k : Nat) ×' (k ≤ xs.length)) 6 (fun k => xs.length - k.1)
      (fun k => [(0, .t (.c (.p 2 0))), (1, .t (.c (.nm 1))), (30, .t (.c (.nm 1))), (31, .t (.c (iT (xs.length : Nat)))), (32, .t (.c (iT (k.1 : Nat))))])
      (fun k => [(2, some (true, .cells [iT room, iT clock, .mp 3] 54)), (3, some (true, .mp (cvM nb (dropM M (xs.take k.1))))), (4, some (true, .ab (bufsQ 58 (cvQ nb (dropM M (xs.take k.1)))))), (5, some (false, .pin 2 b)), (1, some (false, .rd 1 xs.length (ivs xs)))]) ⟨0, by omega⟩ [] (fun k => wf rfl rfl) (by repeat' (first | exact trivial | exact rfl | refine And.intro ?_ ?_)) (by repeat' (first | exact trivial | exact rfl | refine And.intro ?_ ?_)) rfl fun x => ?_
    obtain ⟨k, hk1⟩ := x
    have w2 : IntKind.i64.wrap ((k : Int) + 1) = ((k + 1 : Nat) : Int) := by rw [wrap_sm (by omega) (by omega)]; omega
    refine rn [] rfl (by repeat' (first | exact trivial | exact rfl | refine And.intro ?_ ?_)) ?_
    refine ⟨fun h => ?_, fun h => ?_⟩
    · have hlt : k < xs.length := by have : (k : Int) < (xs.length : Int) := of_decide_eq_true h; omega
      have e1 : (ivs xs)[(k : Int).toNat * 1]? = some (.int .i64 xs[k]) := by simpa using ivs_at hlt
      have b0 : (0 : Int) ≤ (k : Int) := by omega
      have b1 : (k : Int) < (xs.length : Int) := by omega
      have e2 : mdel xs[k] (cvM nb (dropM M (xs.take k))) = cvM nb (dropM M (xs.take (k + 1))) := by rw [dropM_take hlt, cvM_del]
      cases hg : gget xs[k] (dropM M (xs.take k)) with
      | none =>
        have e3 : dropM M (xs.take (k + 1)) = dropM M (xs.take k) := by rw [dropM_take hlt, gdel_none hg]
        refine rn [(35, .ld [iT xs[k]])] rfl (by (repeat' (first | exact trivial | exact rfl | exact e1 | exact fun _ => e1 | first | exact b0 | exact b1 | decide | refine And.intro ?_ ?_))) ?_
        exact roundEnd ⟨k + 1, by omega⟩ [] (by show xs.length - (k + 1) < xs.length - k; omega) (by (repeat' (first | exact trivial | exact rfl | exact w2 | exact fun _ => w2 | refine And.intro ?_ ?_))) (by (repeat' (first | exact trivial | exact rfl | exact e2 | exact fun _ => e2 | first | exact congrArg (fun z => bufsQ 58 (cvQ nb z)) e3.symm | refine And.intro ?_ ?_))) rfl
      | some x =>
        refine At.weak 4 (φ' := absP (oneO 58 (nb xs[k]) (bfC x) (cvQ nb (dropM M (xs.take (k + 1))))) .np) rfl (absP_stable _ _) (fun v F w h => by
          rw [dropM_take hlt]
          exact bufsQ_out v F w (bufsQ_perm (cvQ_out hg) v F w h)) ?_
        refine At.unfold 4 rfl rfl rfl ?_
        refine rn [(35, .ld [iT xs[k]])] rfl (by (repeat' (first | exact trivial | exact rfl | exact e1 | exact fun _ => e1 | first | exact b0 | exact b1 | decide | refine And.intro ?_ ?_))) ?_
        exact roundEnd ⟨k + 1, by omega⟩ [(4, 8)] (by show xs.length - (k + 1) < xs.length - k; omega) (by (repeat' (first | exact trivial | exact rfl | exact w2 | exact fun _ => w2 | refine And.intro ?_ ?_))) (by (repeat' (first | exact trivial | exact rfl | exact e2 | exact fun _ => e2 | refine And.intro ?_ ?_))) rfl
    · have hlt : k = xs.length := by have : ¬ (k : Int) < (xs.length : Int) := of_decide_eq_false h; omega
      have e3 : dropM M (xs.take k) = dropM M xs := by rw [hlt, List.take_length]
      refine rn [] rfl (by repeat' (first | exact trivial | exact rfl | refine And.intro ?_ ?_)) (roundExit rfl ?_)
      refine rnA [] rfl (by repeat' (first | exact trivial | exact rfl | refine And.intro ?_ ?_)) ?_
      refine Done.fold [(0, 2), (1, 3), (2, 4), (3, 5)] (cacheO room clock (dropM M xs) nb b) (.p 0 0) (by (repeat' (first | exact trivial | exact rfl | exact trivial | exact fun _ => trivial | first | exact congrArg (fun z => cvM nb z) e3 | exact congrArg (fun z => bufsQ 58 (cvQ nb z)) e3 | refine And.intro ?_ ?_))) rfl rfl (fun _ => rfl) ?_
      refine Done.weak 6 (φ' := cacheB room clock (dropM M xs) b) rfl (exP_stable (cacheP_st _ _ _ _)) (fun v F w h => ⟨nb, h⟩) ?_
      exact retM tysOk [(0, 6)] rfl (by repeat' (first | exact trivial | exact rfl | refine And.intro ?_ ?_)) (by repeat' (first | exact trivial | exact rfl | refine And.intro ?_ ?_)) rfl rfl
/-- What it reads is sorted. -/
def keysS (M : List (Int × Bf)) : List Int := srtI (M.map Prod.fst)
theorem keysS_length {M : List (Int × Bf)} : (keysS M).length = M.length := by simp [keysS, srtI]
set_option maxRecDepth 100000 in
set_option maxHeartbeats 2000000 in
theorem allA (hd : lookH H d = some (true, .ab (cacheB room clock M b))) (hz : M.length ≤ 1000000) :
    FnH Try.prog 17 [.c (.nm d)] H nx ⟨.t (.c (.nm nx)), [(true, .own 3 1 (keysS M).length (ivs (keysS M)))], [(d, some (.ab (cacheB room clock M b)))], []⟩ := by
  refine fnA (fn := Try.f17) 9 rfl rfl rfl hd (ptr b) (cacheB_pins _ _ _ _) (cacheB_pins _ _ _ _) rfl rfl rfl (v' := .t (.c (.nm 1))) (news' := [(true, .own 3 1 (keysS M).length (ivs (keysS M)))]) rfl rfl rfl rfl fun w Wr => ?_
  refine At.ex 0 rfl (cacheP_st _ _ _ _) fun nb => ?_
  refine At.unfoldTo 0 (L1 := (0, .t (.c (.p 1 0))) :: []) (H1 := [(1, some (true, .cells [iT room, iT clock, .mp 2] 54)), (2, some (true, .mp (cvM nb M))), (3, some (true, .ab (bufsQ 58 (cvQ nb M)))), (4, some (false, .pin 1 b)), (0, none), (0, some (true, .ab (cacheP room clock M b nb))), (0, some (true, .ab (cacheB room clock M b)))]) (nx1 := 5) rfl rfl rfl rfl rfl rfl ?_
  refine At.fact 3 rfl (fun v F w h => h.2.1) fun hnd => ?_
  have hS : ∀ (H : HL) (nx : Nat), lookH H 5 = some (true, .cells [.mp 2] 52) → lookH H 2 = some (true, .mp (cvM nb M)) → FnH Try.prog 26 [.c (.fn (.func 40) [(5, 0)])] H nx ⟨.t (.c (.nm nx)), [(true, .own 3 1 (keysS M).length (ivs (keysS M)))], [], []⟩ := fun H nx h1 h2 => by
    have := sortedC (nx := nx) h1 h2 (by rw [cvM_length]; omega)
    rw [cvM_fst, cvM_length] at this
    rw [keysS_length]
    exact this
  refine rn [(7, .spec ⟨.t (.c (.fn (.func 40) [(5, 0)])), [(true, .cells [.mp 2] 52)], [], []⟩), (8, .spec ⟨.t (.c (.nm 6)), [(true, .own 3 1 (keysS M).length (ivs (keysS M)))], [], []⟩)] rfl (by (repeat' (first | exact trivial | exact rfl | exact keysC | exact fun _ => keysC | exact hS _ _ rfl rfl | refine And.intro ?_ ?_))) ?_
  refine Done.fold [(0, 1), (1, 2), (2, 3), (3, 4)] (cacheO room clock M nb b) (.p 0 0) (by repeat' (first | exact trivial | exact rfl | refine And.intro ?_ ?_)) rfl rfl (fun _ => rfl) ?_
  refine Done.weak 7 (φ' := cacheB room clock M b) rfl (exP_stable (cacheP_st _ _ _ _)) (fun v F w h => ⟨nb, h⟩) ?_
  exact retM tysOk [(0, 7), (1, 6)] rfl (by repeat' (first | exact trivial | exact rfl | refine And.intro ?_ ?_)) (by repeat' (first | exact trivial | exact rfl | refine And.intro ?_ ?_)) rfl rfl
/-- All, of a cache that is open. -/
def hcA (room clock : Int) (nb : Int → Nat) (M : List (Int × Bf)) : HL := [(1, some (false, .cells [iT room, iT clock, .mp 2] 54)), (2, some (false, .mp (cvM nb M)))]
set_option maxRecDepth 100000 in
set_option maxHeartbeats 2000000 in
theorem all_h {nb : Int → Nat} {b1 b2 : Bool} (h1 : lookH H 1 = some (b1, .cells [iT room, iT clock, .mp 2] 54)) (h2 : lookH H 2 = some (b2, .mp (cvM nb M))) (hz : M.length ≤ 1000000) :
    FnH Try.prog 17 [.c (.p 1 0)] H nx ⟨.t (.c (.nm nx)), [(true, .own 3 1 (keysS M).length (ivs (keysS M)))], [], []⟩ := by
  refine fnN (fn := Try.f17) 9 rfl rfl rfl (args' := [.c (.p 1 0)]) (H' := hcA room clock nb M) (nx' := 3) (fun e w M' => ⟨_, mem_rd (fun n => n) (H' := hcA room clock nb M) ⟨⟨b1, h1⟩, ⟨b2, h2⟩, trivial⟩ M', rfl⟩) rfl rfl rfl (inR_one _) rfl fun w => ?_
  show At _ _ _ _ _ _ [(1, some (false, .cells [iT room, iT clock, .mp 2] 54)), (2, some (false, .mp (cvM nb M)))] 3
  have hS : ∀ (H : HL) (nx : Nat), lookH H 3 = some (true, .cells [.mp 2] 52) → lookH H 2 = some (false, .mp (cvM nb M)) → FnH Try.prog 26 [.c (.fn (.func 40) [(3, 0)])] H nx ⟨.t (.c (.nm nx)), [(true, .own 3 1 (keysS M).length (ivs (keysS M)))], [], []⟩ := fun H nx h1 h2 => by
    have := sortedC (nx := nx) h1 h2 (by rw [cvM_length]; omega)
    rw [cvM_fst, cvM_length] at this
    rw [keysS_length]
    exact this
  refine rn [(7, .spec ⟨.t (.c (.fn (.func 40) [(3, 0)])), [(true, .cells [.mp 2] 52)], [], []⟩), (8, .spec ⟨.t (.c (.nm 4)), [(true, .own 3 1 (keysS M).length (ivs (keysS M)))], [], []⟩)] rfl (by (repeat' (first | exact trivial | exact rfl | exact keysC | exact fun _ => keysC | exact hS _ _ rfl rfl | refine And.intro ?_ ?_))) ?_
  exact retN tysOk [(nx, 4)] rfl (by simp only [retS, SV.eqs, eqsT, TV.eqs, CV.eqs, ren_one]; repeat' (first | exact trivial | exact rfl | refine And.intro ?_ ?_)) (by simp only [newsH, subH, ren_one]; repeat' (first | exact trivial | exact rfl | refine And.intro ?_ ?_)) (by simp [injK, keysH, newsH, inL]) rfl
/-- Dirty's function: what is not dirty goes. -/
def notDirty (M : List (Int × Bf)) (k : Int) : Bool := match gget k M with
  | some x => !x.d
  | none => true
def hcD (room clock : Int) (nb : Int → Nat) (M : List (Int × Bf)) : HL := [(1, some (false, .cells [iT room, iT clock, .mp 2] 54)), (2, some (false, .mp (cvM nb M))), (3, some (false, .ab (bufsQ 58 (cvQ nb M)))), (5, some (false, .cells [.p 1 0] 23))]
theorem hcD_rd (nb : Int → Nat) : rdsOk (fun n => n) (hcD room clock nb M) (hcD room clock nb M) := ⟨⟨false, rfl⟩, ⟨false, rfl⟩, ⟨false, rfl⟩, ⟨false, rfl⟩, trivial⟩
set_option maxRecDepth 100000 in
set_option maxHeartbeats 2000000 in
theorem dirty1 {nb : Int → Nat} (hnd : ((cvQ nb M).map Prod.fst).Nodup) {k : Int} (hk : ∃ x, gget k M = some x) : FnH Try.prog 37 [.c (iT k), .c (.p 5 0)] (hcD room clock nb M) 6 ⟨.t (.c (.b (notDirty M k))), [], [], []⟩ := by
  refine fnR (fn := Try.f37) 14 rfl rfl rfl (args' := [.c (iT k), .c (.p 5 0)]) (H' := hcD room clock nb M) (nx' := 6) (fun e w M' => ⟨_, mem_rd (fun n => n) (hcD_rd nb) M', rfl⟩) rfl rfl rfl rfl fun w => ?_
  obtain ⟨x, hg⟩ := hk
  rw [notDirty, hg]
  show At _ _ _ _ _ _ [(1, some (false, .cells [iT room, iT clock, .mp 2] 54)), (2, some (false, .mp (cvM nb M))), (3, some (false, .ab (bufsQ 58 (cvQ nb M)))), (5, some (false, .cells [.p 1 0] 23))] 6
  refine At.num (nb k) ?_
  refine rn [(9, .spec ⟨.t (.c (.p 6 0)), [], [], []⟩), (12, .spec ⟨.t (.c (.b x.d)), [], [], []⟩)] rfl (by (repeat' (first | exact trivial | exact rfl | exact trivial | exact fun _ => trivial | first | exact spec_lookp (q := 6) tysOk rfl rfl rfl rfl rfl (cvM_some hg) | exact spec_loadQ (p := 6) (q := 3) (y := .b x.d) tysOk rfl rfl rfl rfl rfl rfl rfl (cvQ_get hnd hg) rfl | refine And.intro ?_ ?_))) ?_
  exact ret0 tysOk rfl (by repeat' (first | exact trivial | exact rfl | refine And.intro ?_ ?_)) rfl
/-- Those that are dirty, sorted. -/
def dirtyS (M : List (Int × Bf)) : List Int := (keysS M).filter fun k => !notDirty M k
theorem gget_key {α : Type} {k : Int} : ∀ {M : List (Int × α)}, k ∈ M.map Prod.fst → ∃ x, gget k M = some x
  | [], h => by cases h
  | p :: l, h => by
    unfold gget
    split
    · exact ⟨_, rfl⟩
    · rename_i hp
      rcases List.mem_cons.1 h with h | h
      · exact (hp h.symm).elim
      · exact gget_key h
theorem keysS_mem {k : Int} (h : k ∈ keysS M) : ∃ x, gget k M = some x := gget_key ((List.mergeSort_perm _ _).mem_iff.1 h)
set_option maxRecDepth 100000 in
set_option maxHeartbeats 4000000 in
theorem dirtyA (hd : lookH H d = some (true, .ab (cacheB room clock M b))) (hz : M.length ≤ 1000000) :
    FnH Try.prog 20 [.c (.nm d)] H nx ⟨.t (.c (.nm nx)), [(true, .own 3 1 (dirtyS M).length (ivs (dirtyS M)))], [(d, some (.ab (cacheB room clock M b)))], []⟩ := by
  refine fnA (fn := Try.f20) 7 rfl rfl rfl hd (ptr b) (cacheB_pins _ _ _ _) (cacheB_pins _ _ _ _) rfl rfl rfl (v' := .t (.c (.nm 1))) (news' := [(true, .own 3 1 (dirtyS M).length (ivs (dirtyS M)))]) rfl rfl rfl rfl fun w Wr => ?_
  refine At.ex 0 rfl (cacheP_st _ _ _ _) fun nb => ?_
  refine At.unfoldTo 0 (L1 := (0, .t (.c (.p 1 0))) :: []) (H1 := [(1, some (true, .cells [iT room, iT clock, .mp 2] 54)), (2, some (true, .mp (cvM nb M))), (3, some (true, .ab (bufsQ 58 (cvQ nb M)))), (4, some (false, .pin 1 b)), (0, none), (0, some (true, .ab (cacheP room clock M b nb))), (0, some (true, .ab (cacheB room clock M b)))]) (nx1 := 5) rfl rfl rfl rfl rfl rfl ?_
  refine At.fact 3 rfl (fun v F w h => h.2.1) fun hnd => ?_
  have hD : ∀ (H : HL) (nx : Nat), lookH H 6 = some (true, .own 3 1 (keysS M).length (ivs (keysS M))) → capsOk 6 H (hcD room clock nb M) → FnH Try.prog 36 [.c (.nm 6), .c (.fn (.func 37) [(5, 0)])] H nx ⟨.t (.c (.nm nx)), [(true, .own 3 1 (dirtyS M).length (ivs (dirtyS M)))], [(6, none)], []⟩ := fun H nx h1 h2 =>
    deleteF_h (nx := nx) (caps := [(5, 0)]) (pd := notDirty M) (nc := 6) (g := 37) (fun k => ∃ x, gget k M = some x) rfl rfl rfl (fun k hk => dirty1 hnd hk) h1 h2 (fun k hk => keysS_mem hk) (by rw [keysS_length]; omega)
  refine rn [(4, .spec ⟨.t (.c (.nm 6)), [(true, .own 3 1 (keysS M).length (ivs (keysS M)))], [], []⟩), (6, .spec ⟨.t (.c (.nm 7)), [(true, .own 3 1 (dirtyS M).length (ivs (dirtyS M)))], [(6, none)], []⟩)] rfl
    (by (repeat' (first | exact trivial | exact rfl | exact trivial | exact fun _ => trivial | first | exact all_h rfl rfl hz | exact hD _ _ rfl ⟨rfl, ⟨_, rfl⟩, rfl, ⟨_, rfl⟩, rfl, ⟨_, rfl⟩, rfl, ⟨_, rfl⟩, trivial⟩ | refine And.intro ?_ ?_))) ?_
  refine Done.fold [(0, 1), (1, 2), (2, 3), (3, 4)] (cacheO room clock M nb b) (.p 0 0) (by repeat' (first | exact trivial | exact rfl | refine And.intro ?_ ?_)) rfl rfl (fun _ => rfl) ?_
  refine Done.weak 8 (φ' := cacheB room clock M b) rfl (exP_stable (cacheP_st _ _ _ _)) (fun v F w h => ⟨nb, h⟩) ?_
  exact retM tysOk [(0, 8), (1, 7)] rfl (by repeat' (first | exact trivial | exact rfl | refine And.intro ?_ ?_)) (by repeat' (first | exact trivial | exact rfl | refine And.intro ?_ ?_)) rfl rfl
end
theorem cnewBad {H : HL} {nx : Nat} {n : Int} (h : n < 1 ∨ 256 < n) : FnH Try.prog 6 [.c (iT n)] H nx ⟨.tup [.c .np, .c (iT 1)], [], [], []⟩ := by
  refine fnR (fn := Try.f6) 14 rfl rfl rfl (args' := [.c (iT n)]) (H' := []) (nx' := 0) (fun e w M => ⟨e, ⟨fun n b o h => (by cases h), fun n o m c q h => (by cases h)⟩, rfl⟩) rfl rfl rfl rfl fun w => ?_
  have hc : (decide (n < 1) || decide (256 < n)) = true := by rw [Bool.or_eq_true, decide_eq_true_eq, decide_eq_true_eq]; exact h
  refine rn [(9, .dec true)] rfl (by (repeat' (first | exact trivial | exact rfl | exact hc | exact fun _ => hc | refine And.intro ?_ ?_))) ?_
  exact ret0 tysOk rfl (by repeat' (first | exact trivial | exact rfl | refine And.intro ?_ ?_)) rfl
end Cw
