/- The cache: its methods by reckoning. -/
import Derived.Test.YtaopblgnaoojkaaCach
namespace Cw
open Go Vc
open Go.Proofs
set_option maxRecDepth 100000
section
variable {H : HL} {nx d b : Nat} {room clock : Int} {M : List (Int × Bf)}
set_option maxRecDepth 100000 in
set_option maxHeartbeats 2000000 in
theorem getNo (hd : lookH H d = some (true, .ab (cacheB room clock M b))) {k : Int} (hg : gget k M = none) :
    FnH Try.prog 11 [.c (.nm d), .c (iT k)] H nx ⟨.tup [.c (.s ⟨#[]⟩), .c (.b false)], [], [(d, some (.ab (cacheB room clock M b)))], []⟩ := by
  refine fnA (fn := Try.f11) 22 rfl rfl rfl hd (ptr b) (cacheB_pins _ _ _ _) (cacheB_pins _ _ _ _) rfl rfl rfl (v' := .tup [.c (.s ⟨#[]⟩), .c (.b false)]) (news' := []) rfl rfl rfl rfl fun w Wr => ?_
  refine At.ex 0 rfl (cacheP_st _ _ _ _) fun nb => ?_
  refine At.unfoldTo 0 (L1 := (0, .t (.c (.p 1 0))) :: [(1, .t (.c (iT k)))]) (H1 := [(1, some (true, .cells [iT room, iT clock, .mp 2] 54)), (2, some (true, .mp (cvM nb M))), (3, some (true, .ab (bufsQ 58 (cvQ nb M)))), (4, some (false, .pin 1 b)), (0, none), (0, some (true, .ab (cacheP room clock M b nb))), (0, some (true, .ab (cacheB room clock M b)))]) (nx1 := 5) rfl rfl rfl rfl rfl rfl ?_
  refine At.fact 3 rfl (fun v F w h => h.2.1) fun hnd => ?_
  have hlk : lkV (cvM nb M) k (.pointer none) false = (SV.t (.c .np)).den e0 := by unfold lkV; rw [cvM_none hg]; rfl
  refine rn [(12, .ret (.t (.c .np))), (14, .dec true)] rfl (by (repeat' (first | exact trivial | exact rfl | exact hlk | exact fun _ => hlk | refine And.intro ?_ ?_))) ?_
  refine Done.fold [(0, 1), (1, 2), (2, 3), (3, 4)] (cacheO room clock M nb b) (.p 0 0) (by repeat' (first | exact trivial | exact rfl | refine And.intro ?_ ?_)) rfl rfl (fun _ => rfl) ?_
  refine Done.weak 5 (φ' := cacheB room clock M b) rfl (exP_stable (cacheP_st _ _ _ _)) (fun v F w h => ⟨nb, h⟩) ?_
  exact retM tysOk [(0, 5)] rfl (by repeat' (first | exact trivial | exact rfl | refine And.intro ?_ ?_)) (by repeat' (first | exact trivial | exact rfl | refine And.intro ?_ ?_)) rfl rfl
set_option maxRecDepth 100000 in
set_option maxHeartbeats 2000000 in
theorem getOk (hd : lookH H d = some (true, .ab (cacheB room clock M b))) {k : Int} {x : Bf} (hg : gget k M = some x) (hz : 0 ≤ clock ∧ clock ≤ 1000000) :
    FnH Try.prog 11 [.c (.nm d), .c (iT k)] H nx ⟨.tup [.c (.s x.s), .c (.b true)], [], [(d, some (.ab (cacheB room (clock + 1) (gset k { x with u := clock + 1 } M) b)))], []⟩ := by
  refine fnA (fn := Try.f11) 22 rfl rfl rfl hd (ptr b) (cacheB_pins _ _ _ _) (cacheB_pins _ _ _ _) rfl rfl rfl (v' := .tup [.c (.s x.s), .c (.b true)]) (news' := []) rfl rfl rfl rfl fun w Wr => ?_
  refine At.ex 0 rfl (cacheP_st _ _ _ _) fun nb => ?_
  refine At.unfoldTo 0 (L1 := (0, .t (.c (.p 1 0))) :: [(1, .t (.c (iT k)))]) (H1 := [(1, some (true, .cells [iT room, iT clock, .mp 2] 54)), (2, some (true, .mp (cvM nb M))), (3, some (true, .ab (bufsQ 58 (cvQ nb M)))), (4, some (false, .pin 1 b)), (0, none), (0, some (true, .ab (cacheP room clock M b nb))), (0, some (true, .ab (cacheB room clock M b)))]) (nx1 := 5) rfl rfl rfl rfl rfl rfl ?_
  refine At.fact 3 rfl (fun v F w h => h.2.1) fun hnd => ?_
  refine At.weak 3 (φ' := absP (oneO 58 (nb k) (bfC x) (cvQ nb (gdel k M))) .np) rfl (absP_stable _ _) (fun v F w h => bufsQ_out v F w (bufsQ_perm (cvQ_out hg) v F w h)) ?_
  refine At.unfoldTo 3 (L1 := (0, .t (.c (.p 1 0))) :: [(1, .t (.c (iT k)))]) (H1 := [(5, some (true, .cells (bfC x) 58)), (6, some (false, .pin 5 (nb k))), (7, some (true, .ab (bufsQ 58 (cvQ nb (gdel k M))))), (3, none), (3, some (true, .ab (absP (oneO 58 (nb k) (bfC x) (cvQ nb (gdel k M))) .np))), (1, some (true, .cells [iT room, iT clock, .mp 2] 54)), (2, some (true, .mp (cvM nb M))), (3, some (true, .ab (bufsQ 58 (cvQ nb M)))), (4, some (false, .pin 1 b)), (0, none), (0, some (true, .ab (cacheP room clock M b nb))), (0, some (true, .ab (cacheB room clock M b)))]) (nx1 := 8) rfl rfl rfl rfl rfl rfl ?_
  refine rn [(12, .spec ⟨.t (.c (.p 5 0)), [], [], []⟩), (14, .dec false), (17, .spec ⟨.tup [], [], [(1, some (.cells [iT room, iT (clock + 1), .mp 2] 54)), (5, some (.cells (bfC { x with u := clock + 1 }) 58))], []⟩)] rfl
    (by (repeat' (first | exact trivial | exact rfl | exact trivial | exact fun _ => trivial | first | exact spec_lookp (q := 6) tysOk rfl rfl rfl rfl rfl (cvM_some hg) | exact use_h rfl rfl rfl (by decide) (by decide) (by decide) hz | refine And.intro ?_ ?_))) ?_
  refine Done.fold [(0, 5), (1, 6), (2, 7)] (oneO 58 (nb k) (bfC ({ x with u := clock + 1 })) (cvQ nb (gdel k M))) .np (by (repeat' (first | exact trivial | exact rfl | exact trivial | exact fun _ => trivial | trivial | refine And.intro ?_ ?_))) rfl rfl (fun _ => rfl) ?_
  refine Done.weak 8 (φ' := bufsQ 58 (cvQ nb (gset k ({ x with u := clock + 1 }) M))) rfl bufsQ_stable (fun v F w h => bufsQ_perm (cvQ_in hg) v F w (bufsQ_in rfl v F w h)) ?_
  refine Done.fold [(0, 1), (1, 2), (2, 8), (3, 4)] (cacheO room (clock + 1) (gset k ({ x with u := clock + 1 }) M) nb b) (.p 0 0) (by (repeat' (first | exact trivial | exact rfl | exact trivial | exact fun _ => trivial | first | exact cvM_set.symm | trivial | refine And.intro ?_ ?_))) rfl rfl (fun _ => rfl) ?_
  refine Done.weak 9 (φ' := cacheB room (clock + 1) (gset k ({ x with u := clock + 1 }) M) b) rfl (exP_stable (cacheP_st _ _ _ _)) (fun v F w h => ⟨nb, h⟩) ?_
  exact retM tysOk [(0, 9)] rfl (by (repeat' (first | exact trivial | exact rfl | exact trivial | exact fun _ => trivial | trivial | refine And.intro ?_ ?_))) (by repeat' (first | exact trivial | exact rfl | refine And.intro ?_ ?_)) rfl rfl
set_option maxRecDepth 100000 in
set_option maxHeartbeats 2000000 in
theorem holdNo (hd : lookH H d = some (true, .ab (cacheB room clock M b))) {k : Int} (hg : gget k M = none) :
    FnH Try.prog 12 [.c (.nm d), .c (iT k)] H nx ⟨.t (.c (iT 5)), [], [(d, some (.ab (cacheB room clock M b)))], []⟩ := by
  refine fnA (fn := Try.f12) 21 rfl rfl rfl hd (ptr b) (cacheB_pins _ _ _ _) (cacheB_pins _ _ _ _) rfl rfl rfl (v' := .t (.c (iT 5))) (news' := []) rfl rfl rfl rfl fun w Wr => ?_
  refine At.ex 0 rfl (cacheP_st _ _ _ _) fun nb => ?_
  refine At.unfoldTo 0 (L1 := (0, .t (.c (.p 1 0))) :: [(1, .t (.c (iT k)))]) (H1 := [(1, some (true, .cells [iT room, iT clock, .mp 2] 54)), (2, some (true, .mp (cvM nb M))), (3, some (true, .ab (bufsQ 58 (cvQ nb M)))), (4, some (false, .pin 1 b)), (0, none), (0, some (true, .ab (cacheP room clock M b nb))), (0, some (true, .ab (cacheB room clock M b)))]) (nx1 := 5) rfl rfl rfl rfl rfl rfl ?_
  refine At.fact 3 rfl (fun v F w h => h.2.1) fun hnd => ?_
  have hlk : lkV (cvM nb M) k (.pointer none) false = (SV.t (.c .np)).den e0 := by unfold lkV; rw [cvM_none hg]; rfl
  refine rn [(11, .ret (.t (.c .np))), (13, .dec true)] rfl (by (repeat' (first | exact trivial | exact rfl | exact hlk | exact fun _ => hlk | refine And.intro ?_ ?_))) ?_
  refine Done.fold [(0, 1), (1, 2), (2, 3), (3, 4)] (cacheO room clock M nb b) (.p 0 0) (by repeat' (first | exact trivial | exact rfl | refine And.intro ?_ ?_)) rfl rfl (fun _ => rfl) ?_
  refine Done.weak 5 (φ' := cacheB room clock M b) rfl (exP_stable (cacheP_st _ _ _ _)) (fun v F w h => ⟨nb, h⟩) ?_
  exact retM tysOk [(0, 5)] rfl (by repeat' (first | exact trivial | exact rfl | refine And.intro ?_ ?_)) (by repeat' (first | exact trivial | exact rfl | refine And.intro ?_ ?_)) rfl rfl
set_option maxRecDepth 100000 in
set_option maxHeartbeats 2000000 in
theorem holdOk (hd : lookH H d = some (true, .ab (cacheB room clock M b))) {k : Int} {x : Bf} (hg : gget k M = some x) (hz : 0 ≤ x.h ∧ x.h ≤ 1000000) :
    FnH Try.prog 12 [.c (.nm d), .c (iT k)] H nx ⟨.t (.c (iT 0)), [], [(d, some (.ab (cacheB room clock (gset k { x with h := x.h + 1 } M) b)))], []⟩ := by
  have w1 : IntKind.i64.wrap (x.h + 1) = x.h + 1 := wrap_small (by omega) (by omega)
  refine fnA (fn := Try.f12) 21 rfl rfl rfl hd (ptr b) (cacheB_pins _ _ _ _) (cacheB_pins _ _ _ _) rfl rfl rfl (v' := .t (.c (iT 0))) (news' := []) rfl rfl rfl rfl fun w Wr => ?_
  refine At.ex 0 rfl (cacheP_st _ _ _ _) fun nb => ?_
  refine At.unfoldTo 0 (L1 := (0, .t (.c (.p 1 0))) :: [(1, .t (.c (iT k)))]) (H1 := [(1, some (true, .cells [iT room, iT clock, .mp 2] 54)), (2, some (true, .mp (cvM nb M))), (3, some (true, .ab (bufsQ 58 (cvQ nb M)))), (4, some (false, .pin 1 b)), (0, none), (0, some (true, .ab (cacheP room clock M b nb))), (0, some (true, .ab (cacheB room clock M b)))]) (nx1 := 5) rfl rfl rfl rfl rfl rfl ?_
  refine At.fact 3 rfl (fun v F w h => h.2.1) fun hnd => ?_
  refine At.weak 3 (φ' := absP (oneO 58 (nb k) (bfC x) (cvQ nb (gdel k M))) .np) rfl (absP_stable _ _) (fun v F w h => bufsQ_out v F w (bufsQ_perm (cvQ_out hg) v F w h)) ?_
  refine At.unfoldTo 3 (L1 := (0, .t (.c (.p 1 0))) :: [(1, .t (.c (iT k)))]) (H1 := [(5, some (true, .cells (bfC x) 58)), (6, some (false, .pin 5 (nb k))), (7, some (true, .ab (bufsQ 58 (cvQ nb (gdel k M))))), (3, none), (3, some (true, .ab (absP (oneO 58 (nb k) (bfC x) (cvQ nb (gdel k M))) .np))), (1, some (true, .cells [iT room, iT clock, .mp 2] 54)), (2, some (true, .mp (cvM nb M))), (3, some (true, .ab (bufsQ 58 (cvQ nb M)))), (4, some (false, .pin 1 b)), (0, none), (0, some (true, .ab (cacheP room clock M b nb))), (0, some (true, .ab (cacheB room clock M b)))]) (nx1 := 8) rfl rfl rfl rfl rfl rfl ?_
  refine rn [(11, .spec ⟨.t (.c (.p 5 0)), [], [], []⟩), (13, .dec false)] rfl (by (repeat' (first | exact trivial | exact rfl | exact spec_lookp (q := 6) tysOk rfl rfl rfl rfl rfl (cvM_some hg) | exact fun _ => spec_lookp (q := 6) tysOk rfl rfl rfl rfl rfl (cvM_some hg) | refine And.intro ?_ ?_))) ?_
  refine Done.fold [(0, 5), (1, 6), (2, 7)] (oneO 58 (nb k) (bfC ({ x with h := x.h + 1 })) (cvQ nb (gdel k M))) .np (by (repeat' (first | exact trivial | exact rfl | exact trivial | exact fun _ => trivial | exact w1 | refine And.intro ?_ ?_))) rfl rfl (fun _ => rfl) ?_
  refine Done.weak 8 (φ' := bufsQ 58 (cvQ nb (gset k ({ x with h := x.h + 1 }) M))) rfl bufsQ_stable (fun v F w h => bufsQ_perm (cvQ_in hg) v F w (bufsQ_in rfl v F w h)) ?_
  refine Done.fold [(0, 1), (1, 2), (2, 8), (3, 4)] (cacheO room (clock) (gset k ({ x with h := x.h + 1 }) M) nb b) (.p 0 0) (by (repeat' (first | exact trivial | exact rfl | exact trivial | exact fun _ => trivial | first | exact cvM_set.symm | exact w1 | refine And.intro ?_ ?_))) rfl rfl (fun _ => rfl) ?_
  refine Done.weak 9 (φ' := cacheB room (clock) (gset k ({ x with h := x.h + 1 }) M) b) rfl (exP_stable (cacheP_st _ _ _ _)) (fun v F w h => ⟨nb, h⟩) ?_
  exact retM tysOk [(0, 9)] rfl (by (repeat' (first | exact trivial | exact rfl | exact trivial | exact fun _ => trivial | exact w1 | refine And.intro ?_ ?_))) (by repeat' (first | exact trivial | exact rfl | refine And.intro ?_ ?_)) rfl rfl
set_option maxRecDepth 100000 in
set_option maxHeartbeats 2000000 in
theorem cleanNo (hd : lookH H d = some (true, .ab (cacheB room clock M b))) {k : Int} (hg : gget k M = none) :
    FnH Try.prog 14 [.c (.nm d), .c (iT k)] H nx ⟨.t (.c (iT 5)), [], [(d, some (.ab (cacheB room clock M b)))], []⟩ := by
  refine fnA (fn := Try.f14) 17 rfl rfl rfl hd (ptr b) (cacheB_pins _ _ _ _) (cacheB_pins _ _ _ _) rfl rfl rfl (v' := .t (.c (iT 5))) (news' := []) rfl rfl rfl rfl fun w Wr => ?_
  refine At.ex 0 rfl (cacheP_st _ _ _ _) fun nb => ?_
  refine At.unfoldTo 0 (L1 := (0, .t (.c (.p 1 0))) :: [(1, .t (.c (iT k)))]) (H1 := [(1, some (true, .cells [iT room, iT clock, .mp 2] 54)), (2, some (true, .mp (cvM nb M))), (3, some (true, .ab (bufsQ 58 (cvQ nb M)))), (4, some (false, .pin 1 b)), (0, none), (0, some (true, .ab (cacheP room clock M b nb))), (0, some (true, .ab (cacheB room clock M b)))]) (nx1 := 5) rfl rfl rfl rfl rfl rfl ?_
  refine At.fact 3 rfl (fun v F w h => h.2.1) fun hnd => ?_
  have hlk : lkV (cvM nb M) k (.pointer none) false = (SV.t (.c .np)).den e0 := by unfold lkV; rw [cvM_none hg]; rfl
  refine rn [(11, .ret (.t (.c .np))), (13, .dec true)] rfl (by (repeat' (first | exact trivial | exact rfl | exact hlk | exact fun _ => hlk | refine And.intro ?_ ?_))) ?_
  refine Done.fold [(0, 1), (1, 2), (2, 3), (3, 4)] (cacheO room clock M nb b) (.p 0 0) (by repeat' (first | exact trivial | exact rfl | refine And.intro ?_ ?_)) rfl rfl (fun _ => rfl) ?_
  refine Done.weak 5 (φ' := cacheB room clock M b) rfl (exP_stable (cacheP_st _ _ _ _)) (fun v F w h => ⟨nb, h⟩) ?_
  exact retM tysOk [(0, 5)] rfl (by repeat' (first | exact trivial | exact rfl | refine And.intro ?_ ?_)) (by repeat' (first | exact trivial | exact rfl | refine And.intro ?_ ?_)) rfl rfl
set_option maxRecDepth 100000 in
set_option maxHeartbeats 2000000 in
theorem cleanOk (hd : lookH H d = some (true, .ab (cacheB room clock M b))) {k : Int} {x : Bf} (hg : gget k M = some x) :
    FnH Try.prog 14 [.c (.nm d), .c (iT k)] H nx ⟨.t (.c (iT 0)), [], [(d, some (.ab (cacheB room clock (gset k { x with d := false } M) b)))], []⟩ := by
  refine fnA (fn := Try.f14) 17 rfl rfl rfl hd (ptr b) (cacheB_pins _ _ _ _) (cacheB_pins _ _ _ _) rfl rfl rfl (v' := .t (.c (iT 0))) (news' := []) rfl rfl rfl rfl fun w Wr => ?_
  refine At.ex 0 rfl (cacheP_st _ _ _ _) fun nb => ?_
  refine At.unfoldTo 0 (L1 := (0, .t (.c (.p 1 0))) :: [(1, .t (.c (iT k)))]) (H1 := [(1, some (true, .cells [iT room, iT clock, .mp 2] 54)), (2, some (true, .mp (cvM nb M))), (3, some (true, .ab (bufsQ 58 (cvQ nb M)))), (4, some (false, .pin 1 b)), (0, none), (0, some (true, .ab (cacheP room clock M b nb))), (0, some (true, .ab (cacheB room clock M b)))]) (nx1 := 5) rfl rfl rfl rfl rfl rfl ?_
  refine At.fact 3 rfl (fun v F w h => h.2.1) fun hnd => ?_
  refine At.weak 3 (φ' := absP (oneO 58 (nb k) (bfC x) (cvQ nb (gdel k M))) .np) rfl (absP_stable _ _) (fun v F w h => bufsQ_out v F w (bufsQ_perm (cvQ_out hg) v F w h)) ?_
  refine At.unfoldTo 3 (L1 := (0, .t (.c (.p 1 0))) :: [(1, .t (.c (iT k)))]) (H1 := [(5, some (true, .cells (bfC x) 58)), (6, some (false, .pin 5 (nb k))), (7, some (true, .ab (bufsQ 58 (cvQ nb (gdel k M))))), (3, none), (3, some (true, .ab (absP (oneO 58 (nb k) (bfC x) (cvQ nb (gdel k M))) .np))), (1, some (true, .cells [iT room, iT clock, .mp 2] 54)), (2, some (true, .mp (cvM nb M))), (3, some (true, .ab (bufsQ 58 (cvQ nb M)))), (4, some (false, .pin 1 b)), (0, none), (0, some (true, .ab (cacheP room clock M b nb))), (0, some (true, .ab (cacheB room clock M b)))]) (nx1 := 8) rfl rfl rfl rfl rfl rfl ?_
  refine rn [(11, .spec ⟨.t (.c (.p 5 0)), [], [], []⟩), (13, .dec false)] rfl (by (repeat' (first | exact trivial | exact rfl | exact spec_lookp (q := 6) tysOk rfl rfl rfl rfl rfl (cvM_some hg) | exact fun _ => spec_lookp (q := 6) tysOk rfl rfl rfl rfl rfl (cvM_some hg) | refine And.intro ?_ ?_))) ?_
  refine Done.fold [(0, 5), (1, 6), (2, 7)] (oneO 58 (nb k) (bfC ({ x with d := false })) (cvQ nb (gdel k M))) .np (by (repeat' (first | exact trivial | exact rfl | exact trivial | exact fun _ => trivial | trivial | refine And.intro ?_ ?_))) rfl rfl (fun _ => rfl) ?_
  refine Done.weak 8 (φ' := bufsQ 58 (cvQ nb (gset k ({ x with d := false }) M))) rfl bufsQ_stable (fun v F w h => bufsQ_perm (cvQ_in hg) v F w (bufsQ_in rfl v F w h)) ?_
  refine Done.fold [(0, 1), (1, 2), (2, 8), (3, 4)] (cacheO room (clock) (gset k ({ x with d := false }) M) nb b) (.p 0 0) (by (repeat' (first | exact trivial | exact rfl | exact trivial | exact fun _ => trivial | first | exact cvM_set.symm | trivial | refine And.intro ?_ ?_))) rfl rfl (fun _ => rfl) ?_
  refine Done.weak 9 (φ' := cacheB room (clock) (gset k ({ x with d := false }) M) b) rfl (exP_stable (cacheP_st _ _ _ _)) (fun v F w h => ⟨nb, h⟩) ?_
  exact retM tysOk [(0, 9)] rfl (by (repeat' (first | exact trivial | exact rfl | exact trivial | exact fun _ => trivial | trivial | refine And.intro ?_ ?_))) (by repeat' (first | exact trivial | exact rfl | refine And.intro ?_ ?_)) rfl rfl
set_option maxRecDepth 100000 in
set_option maxHeartbeats 2000000 in
theorem freeNo (hd : lookH H d = some (true, .ab (cacheB room clock M b))) {k : Int} (hg : gget k M = none) :
    FnH Try.prog 13 [.c (.nm d), .c (iT k)] H nx ⟨.t (.c (iT 5)), [], [(d, some (.ab (cacheB room clock M b)))], []⟩ := by
  refine fnA (fn := Try.f13) 28 rfl rfl rfl hd (ptr b) (cacheB_pins _ _ _ _) (cacheB_pins _ _ _ _) rfl rfl rfl (v' := .t (.c (iT 5))) (news' := []) rfl rfl rfl rfl fun w Wr => ?_
  refine At.ex 0 rfl (cacheP_st _ _ _ _) fun nb => ?_
  refine At.unfoldTo 0 (L1 := (0, .t (.c (.p 1 0))) :: [(1, .t (.c (iT k)))]) (H1 := [(1, some (true, .cells [iT room, iT clock, .mp 2] 54)), (2, some (true, .mp (cvM nb M))), (3, some (true, .ab (bufsQ 58 (cvQ nb M)))), (4, some (false, .pin 1 b)), (0, none), (0, some (true, .ab (cacheP room clock M b nb))), (0, some (true, .ab (cacheB room clock M b)))]) (nx1 := 5) rfl rfl rfl rfl rfl rfl ?_
  refine At.fact 3 rfl (fun v F w h => h.2.1) fun hnd => ?_
  have hlk : lkV (cvM nb M) k (.pointer none) false = (SV.t (.c .np)).den e0 := by unfold lkV; rw [cvM_none hg]; rfl
  refine rn [(11, .ret (.t (.c .np))), (12, .dec true)] rfl (by (repeat' (first | exact trivial | exact rfl | exact hlk | exact fun _ => hlk | refine And.intro ?_ ?_))) ?_
  refine Done.fold [(0, 1), (1, 2), (2, 3), (3, 4)] (cacheO room clock M nb b) (.p 0 0) (by repeat' (first | exact trivial | exact rfl | refine And.intro ?_ ?_)) rfl rfl (fun _ => rfl) ?_
  refine Done.weak 5 (φ' := cacheB room clock M b) rfl (exP_stable (cacheP_st _ _ _ _)) (fun v F w h => ⟨nb, h⟩) ?_
  exact retM tysOk [(0, 5)] rfl (by repeat' (first | exact trivial | exact rfl | refine And.intro ?_ ?_)) (by repeat' (first | exact trivial | exact rfl | refine And.intro ?_ ?_)) rfl rfl
set_option maxRecDepth 100000 in
set_option maxHeartbeats 2000000 in
theorem freeZero (hd : lookH H d = some (true, .ab (cacheB room clock M b))) {k : Int} {x : Bf} (hg : gget k M = some x) (hz : x.h = 0) :
    FnH Try.prog 13 [.c (.nm d), .c (iT k)] H nx ⟨.t (.c (iT 130)), [], [(d, some (.ab (cacheB room clock M b)))], []⟩ := by
  refine fnA (fn := Try.f13) 28 rfl rfl rfl hd (ptr b) (cacheB_pins _ _ _ _) (cacheB_pins _ _ _ _) rfl rfl rfl (v' := .t (.c (iT 130))) (news' := []) rfl rfl rfl rfl fun w Wr => ?_
  refine At.ex 0 rfl (cacheP_st _ _ _ _) fun nb => ?_
  refine At.unfoldTo 0 (L1 := (0, .t (.c (.p 1 0))) :: [(1, .t (.c (iT k)))]) (H1 := [(1, some (true, .cells [iT room, iT clock, .mp 2] 54)), (2, some (true, .mp (cvM nb M))), (3, some (true, .ab (bufsQ 58 (cvQ nb M)))), (4, some (false, .pin 1 b)), (0, none), (0, some (true, .ab (cacheP room clock M b nb))), (0, some (true, .ab (cacheB room clock M b)))]) (nx1 := 5) rfl rfl rfl rfl rfl rfl ?_
  refine At.fact 3 rfl (fun v F w h => h.2.1) fun hnd => ?_
  refine At.num (nb k) ?_
  refine rn [(11, .spec ⟨.t (.c (.p 5 0)), [], [], []⟩), (12, .dec false), (19, .spec ⟨.t (.c (iT x.h)), [], [], []⟩), (15, .dec true)] rfl (by
    (repeat' (first | exact trivial | exact rfl | exact trivial | exact fun _ => trivial | first | exact spec_lookp (q := 5) tysOk rfl rfl rfl rfl rfl (cvM_some hg) | exact spec_loadQ (p := 5) (q := 3) (y := iT x.h) tysOk rfl rfl rfl rfl rfl rfl rfl (cvQ_get hnd hg) rfl | (rw [hz]; rfl) | refine And.intro ?_ ?_))) ?_
  refine Done.fold [(0, 1), (1, 2), (2, 3), (3, 4)] (cacheO room clock M nb b) (.p 0 0) (by repeat' (first | exact trivial | exact rfl | refine And.intro ?_ ?_)) rfl rfl (fun _ => rfl) ?_
  refine Done.weak 6 (φ' := cacheB room clock M b) rfl (exP_stable (cacheP_st _ _ _ _)) (fun v F w h => ⟨nb, h⟩) ?_
  exact retM tysOk [(0, 6)] rfl (by repeat' (first | exact trivial | exact rfl | refine And.intro ?_ ?_)) (by repeat' (first | exact trivial | exact rfl | refine And.intro ?_ ?_)) rfl rfl
set_option maxRecDepth 100000 in
set_option maxHeartbeats 2000000 in
theorem freeOk (hd : lookH H d = some (true, .ab (cacheB room clock M b))) {k : Int} {x : Bf} (hg : gget k M = some x) (hz : 1 ≤ x.h ∧ x.h ≤ 1000000) :
    FnH Try.prog 13 [.c (.nm d), .c (iT k)] H nx ⟨.t (.c (iT 0)), [], [(d, some (.ab (cacheB room clock (gset k { x with h := x.h - 1 } M) b)))], []⟩ := by
  have w1 : IntKind.i64.wrap (x.h - 1) = x.h - 1 := wrap_small (by omega) (by omega)
  have g1 : (x.h == 0) = false := by simp; omega
  refine fnA (fn := Try.f13) 28 rfl rfl rfl hd (ptr b) (cacheB_pins _ _ _ _) (cacheB_pins _ _ _ _) rfl rfl rfl (v' := .t (.c (iT 0))) (news' := []) rfl rfl rfl rfl fun w Wr => ?_
  refine At.ex 0 rfl (cacheP_st _ _ _ _) fun nb => ?_
  refine At.unfoldTo 0 (L1 := (0, .t (.c (.p 1 0))) :: [(1, .t (.c (iT k)))]) (H1 := [(1, some (true, .cells [iT room, iT clock, .mp 2] 54)), (2, some (true, .mp (cvM nb M))), (3, some (true, .ab (bufsQ 58 (cvQ nb M)))), (4, some (false, .pin 1 b)), (0, none), (0, some (true, .ab (cacheP room clock M b nb))), (0, some (true, .ab (cacheB room clock M b)))]) (nx1 := 5) rfl rfl rfl rfl rfl rfl ?_
  refine At.fact 3 rfl (fun v F w h => h.2.1) fun hnd => ?_
  refine At.weak 3 (φ' := absP (oneO 58 (nb k) (bfC x) (cvQ nb (gdel k M))) .np) rfl (absP_stable _ _) (fun v F w h => bufsQ_out v F w (bufsQ_perm (cvQ_out hg) v F w h)) ?_
  refine At.unfoldTo 3 (L1 := (0, .t (.c (.p 1 0))) :: [(1, .t (.c (iT k)))]) (H1 := [(5, some (true, .cells (bfC x) 58)), (6, some (false, .pin 5 (nb k))), (7, some (true, .ab (bufsQ 58 (cvQ nb (gdel k M))))), (3, none), (3, some (true, .ab (absP (oneO 58 (nb k) (bfC x) (cvQ nb (gdel k M))) .np))), (1, some (true, .cells [iT room, iT clock, .mp 2] 54)), (2, some (true, .mp (cvM nb M))), (3, some (true, .ab (bufsQ 58 (cvQ nb M)))), (4, some (false, .pin 1 b)), (0, none), (0, some (true, .ab (cacheP room clock M b nb))), (0, some (true, .ab (cacheB room clock M b)))]) (nx1 := 8) rfl rfl rfl rfl rfl rfl ?_
  refine rn [(11, .spec ⟨.t (.c (.p 5 0)), [], [], []⟩), (12, .dec false), (15, .dec false)] rfl (by (repeat' (first | exact trivial | exact rfl | exact spec_lookp (q := 6) tysOk rfl rfl rfl rfl rfl (cvM_some hg) | exact fun _ => spec_lookp (q := 6) tysOk rfl rfl rfl rfl rfl (cvM_some hg) | exact g1 | refine And.intro ?_ ?_))) ?_
  refine Done.fold [(0, 5), (1, 6), (2, 7)] (oneO 58 (nb k) (bfC ({ x with h := x.h - 1 })) (cvQ nb (gdel k M))) .np (by (repeat' (first | exact trivial | exact rfl | exact trivial | exact fun _ => trivial | exact w1 | refine And.intro ?_ ?_))) rfl rfl (fun _ => rfl) ?_
  refine Done.weak 8 (φ' := bufsQ 58 (cvQ nb (gset k ({ x with h := x.h - 1 }) M))) rfl bufsQ_stable (fun v F w h => bufsQ_perm (cvQ_in hg) v F w (bufsQ_in rfl v F w h)) ?_
  refine Done.fold [(0, 1), (1, 2), (2, 8), (3, 4)] (cacheO room (clock) (gset k ({ x with h := x.h - 1 }) M) nb b) (.p 0 0) (by (repeat' (first | exact trivial | exact rfl | exact trivial | exact fun _ => trivial | first | exact cvM_set.symm | exact w1 | refine And.intro ?_ ?_))) rfl rfl (fun _ => rfl) ?_
  refine Done.weak 9 (φ' := cacheB room (clock) (gset k ({ x with h := x.h - 1 }) M) b) rfl (exP_stable (cacheP_st _ _ _ _)) (fun v F w h => ⟨nb, h⟩) ?_
  exact retM tysOk [(0, 9)] rfl (by (repeat' (first | exact trivial | exact rfl | exact trivial | exact fun _ => trivial | exact w1 | refine And.intro ?_ ?_))) (by repeat' (first | exact trivial | exact rfl | refine And.intro ?_ ?_)) rfl rfl
/-- Put: what may not be. -/
theorem putRange (hd : lookH H d = some (true, .ab (cacheB room clock M b))) {k : Int} {s : ByteArray} {dy : Bool} (hk : k < 0 ∨ 2048 ≤ k) :
    FnH Try.prog 9 [.c (.nm d), .c (iT k), .c (.s s), .c (.b dy)] H nx ⟨.tup [.c (iT 0), .c (iT 1)], [], [(d, some (.ab (cacheB room clock M b)))], []⟩ := by
  refine fnA (fn := Try.f9) 75 rfl rfl rfl hd (ptr b) (cacheB_pins _ _ _ _) (cacheB_pins _ _ _ _) rfl rfl rfl (v' := .tup [.c (iT 0), .c (iT 1)]) (news' := []) rfl rfl rfl rfl fun w Wr => ?_
  have hc : (decide (k < 0) || decide (2048 ≤ k)) = true := by rw [Bool.or_eq_true, decide_eq_true_eq, decide_eq_true_eq]; exact hk
  refine rn [(11, .dec true)] rfl (by (repeat' (first | exact trivial | exact rfl | exact hc | exact fun _ => hc | refine And.intro ?_ ?_))) ?_
  exact retM tysOk [(0, 0)] rfl (by repeat' (first | exact trivial | exact rfl | refine And.intro ?_ ?_)) (by repeat' (first | exact trivial | exact rfl | refine And.intro ?_ ?_)) rfl rfl
theorem putForm (hd : lookH H d = some (true, .ab (cacheB room clock M b))) {k : Int} {s : ByteArray} {dy : Bool} (hk : 0 ≤ k ∧ k < 2048) (hs : s.size ≠ 64) :
    FnH Try.prog 9 [.c (.nm d), .c (iT k), .c (.s s), .c (.b dy)] H nx ⟨.tup [.c (iT 0), .c (iT 3)], [], [(d, some (.ab (cacheB room clock M b)))], []⟩ := by
  refine fnA (fn := Try.f9) 75 rfl rfl rfl hd (ptr b) (cacheB_pins _ _ _ _) (cacheB_pins _ _ _ _) rfl rfl rfl (v' := .tup [.c (iT 0), .c (iT 3)]) (news' := []) rfl rfl rfl rfl fun w Wr => ?_
  have hc : (decide (k < 0) || decide (2048 ≤ k)) = false := by rw [Bool.or_eq_false_iff]; exact ⟨decide_eq_false (by omega), decide_eq_false (by omega)⟩
  have g1 : ((s.size : Int) != 64) = true := by simp; omega
  refine rn [(11, .dec false), (18, .dec true)] rfl (by (repeat' (first | exact trivial | exact rfl | exact hc | exact fun _ => hc | exact g1 | refine And.intro ?_ ?_))) ?_
  exact retM tysOk [(0, 0)] rfl (by repeat' (first | exact trivial | exact rfl | refine And.intro ?_ ?_)) (by repeat' (first | exact trivial | exact rfl | refine And.intro ?_ ?_)) rfl rfl
section
variable {k : Int} {s : ByteArray} {dy : Bool}
theorem put_hc (hk : 0 ≤ k ∧ k < 2048) : (decide (k < 0) || decide (2048 ≤ k)) = false := by rw [Bool.or_eq_false_iff]; exact ⟨decide_eq_false (by omega), decide_eq_false (by omega)⟩
set_option maxRecDepth 100000 in
set_option maxHeartbeats 2000000 in
theorem putOver (hd : lookH H d = some (true, .ab (cacheB room clock M b))) (hk : 0 ≤ k ∧ k < 2048) (hs : s.size = 64) (hz : 0 ≤ clock ∧ clock ≤ 1000000) {x : Bf} (hg : gget k M = some x) :
    FnH Try.prog 9 [.c (.nm d), .c (iT k), .c (.s s), .c (.b dy)] H nx ⟨.tup [.c (iT (-1)), .c (iT 0)], [], [(d, some (.ab (cacheB room (clock + 1) (gset k ⟨s, x.d || dy, x.h, clock + 1⟩ M) b)))], []⟩ := by
  refine fnA (fn := Try.f9) 75 rfl rfl rfl hd (ptr b) (cacheB_pins _ _ _ _) (cacheB_pins _ _ _ _) rfl rfl rfl (v' := .tup [.c (iT (-1)), .c (iT 0)]) (news' := []) rfl rfl rfl rfl fun w Wr => ?_
  have hc := put_hc hk
  have g1 : ((s.size : Int) != 64) = false := by simp; omega
  refine At.ex 0 rfl (cacheP_st _ _ _ _) fun nb => ?_
  refine At.unfoldTo 0 (L1 := (0, .t (.c (.p 1 0))) :: [(1, .t (.c (iT k))), (2, .t (.c (.s s))), (3, .t (.c (.b dy)))]) (H1 := [(1, some (true, .cells [iT room, iT clock, .mp 2] 54)), (2, some (true, .mp (cvM nb M))), (3, some (true, .ab (bufsQ 58 (cvQ nb M)))), (4, some (false, .pin 1 b)), (0, none), (0, some (true, .ab (cacheP room clock M b nb))), (0, some (true, .ab (cacheB room clock M b)))]) (nx1 := 5) rfl rfl rfl rfl rfl rfl ?_
  refine At.fact 3 rfl (fun v F w h => h.2.1) fun hnd => ?_
  refine At.weak 3 (φ' := absP (oneO 58 (nb k) (bfC x) (cvQ nb (gdel k M))) .np) rfl (absP_stable _ _) (fun v F w h => bufsQ_out v F w (bufsQ_perm (cvQ_out hg) v F w h)) ?_
  refine At.unfoldTo 3 (L1 := (0, .t (.c (.p 1 0))) :: [(1, .t (.c (iT k))), (2, .t (.c (.s s))), (3, .t (.c (.b dy)))]) (H1 := [(5, some (true, .cells (bfC x) 58)), (6, some (false, .pin 5 (nb k))), (7, some (true, .ab (bufsQ 58 (cvQ nb (gdel k M))))), (3, none), (3, some (true, .ab (absP (oneO 58 (nb k) (bfC x) (cvQ nb (gdel k M))) .np))), (1, some (true, .cells [iT room, iT clock, .mp 2] 54)), (2, some (true, .mp (cvM nb M))), (3, some (true, .ab (bufsQ 58 (cvQ nb M)))), (4, some (false, .pin 1 b)), (0, none), (0, some (true, .ab (cacheP room clock M b nb))), (0, some (true, .ab (cacheB room clock M b)))]) (nx1 := 8) rfl rfl rfl rfl rfl rfl ?_
  cases hxd : x.d with
  | true =>
    refine rn [(11, .dec false), (18, .dec false), (27, .spec ⟨.t (.c (.p 5 0)), [], [], []⟩), (29, .dec false), (64, .dec true), (73, .spec ⟨.tup [], [], [(1, some (.cells [iT room, iT (clock + 1), .mp 2] 54)), (5, some (.cells (bfC ⟨s, true, x.h, clock + 1⟩) 58))], []⟩)] rfl
      (by (repeat' (first | exact trivial | exact rfl | exact hc | exact fun _ => hc | first | exact g1 | exact hxd | exact spec_lookp (q := 6) tysOk rfl rfl rfl rfl rfl (cvM_some hg) | exact use_h (x := ⟨s, true, x.h, x.u⟩) rfl rfl rfl (by decide) (by decide) (by decide) hz | refine And.intro ?_ ?_))) ?_
    refine Done.fold [(0, 5), (1, 6), (2, 7)] (oneO 58 (nb k) (bfC (⟨s, true || dy, x.h, clock + 1⟩)) (cvQ nb (gdel k M))) .np (by (repeat' (first | exact trivial | exact rfl | exact trivial | exact fun _ => trivial | rfl | refine And.intro ?_ ?_))) rfl rfl (fun _ => rfl) ?_
    refine Done.weak 8 (φ' := bufsQ 58 (cvQ nb (gset k (⟨s, true || dy, x.h, clock + 1⟩) M))) rfl bufsQ_stable (fun v F w h => bufsQ_perm (cvQ_in hg) v F w (bufsQ_in rfl v F w h)) ?_
    refine Done.fold [(0, 1), (1, 2), (2, 8), (3, 4)] (cacheO room (clock + 1) (gset k (⟨s, true || dy, x.h, clock + 1⟩) M) nb b) (.p 0 0) (by (repeat' (first | exact trivial | exact rfl | exact trivial | exact fun _ => trivial | first | exact cvM_set.symm | rfl | refine And.intro ?_ ?_))) rfl rfl (fun _ => rfl) ?_
    refine Done.weak 9 (φ' := cacheB room (clock + 1) (gset k (⟨s, true || dy, x.h, clock + 1⟩) M) b) rfl (exP_stable (cacheP_st _ _ _ _)) (fun v F w h => ⟨nb, h⟩) ?_
    exact retM tysOk [(0, 9)] rfl (by (repeat' (first | exact trivial | exact rfl | exact trivial | exact fun _ => trivial | rfl | refine And.intro ?_ ?_))) (by repeat' (first | exact trivial | exact rfl | refine And.intro ?_ ?_)) rfl rfl
  | false =>
    refine rn [(11, .dec false), (18, .dec false), (27, .spec ⟨.t (.c (.p 5 0)), [], [], []⟩), (29, .dec false), (64, .dec false), (73, .spec ⟨.tup [], [], [(1, some (.cells [iT room, iT (clock + 1), .mp 2] 54)), (5, some (.cells (bfC ⟨s, dy, x.h, clock + 1⟩) 58))], []⟩)] rfl
      (by (repeat' (first | exact trivial | exact rfl | exact hc | exact fun _ => hc | first | exact g1 | exact hxd | exact spec_lookp (q := 6) tysOk rfl rfl rfl rfl rfl (cvM_some hg) | exact use_h (x := ⟨s, dy, x.h, x.u⟩) rfl rfl rfl (by decide) (by decide) (by decide) hz | refine And.intro ?_ ?_))) ?_
    refine Done.fold [(0, 5), (1, 6), (2, 7)] (oneO 58 (nb k) (bfC (⟨s, false || dy, x.h, clock + 1⟩)) (cvQ nb (gdel k M))) .np (by (repeat' (first | exact trivial | exact rfl | exact trivial | exact fun _ => trivial | rfl | refine And.intro ?_ ?_))) rfl rfl (fun _ => rfl) ?_
    refine Done.weak 8 (φ' := bufsQ 58 (cvQ nb (gset k (⟨s, false || dy, x.h, clock + 1⟩) M))) rfl bufsQ_stable (fun v F w h => bufsQ_perm (cvQ_in hg) v F w (bufsQ_in rfl v F w h)) ?_
    refine Done.fold [(0, 1), (1, 2), (2, 8), (3, 4)] (cacheO room (clock + 1) (gset k (⟨s, false || dy, x.h, clock + 1⟩) M) nb b) (.p 0 0) (by (repeat' (first | exact trivial | exact rfl | exact trivial | exact fun _ => trivial | first | exact cvM_set.symm | rfl | refine And.intro ?_ ?_))) rfl rfl (fun _ => rfl) ?_
    refine Done.weak 9 (φ' := cacheB room (clock + 1) (gset k (⟨s, false || dy, x.h, clock + 1⟩) M) b) rfl (exP_stable (cacheP_st _ _ _ _)) (fun v F w h => ⟨nb, h⟩) ?_
    exact retM tysOk [(0, 9)] rfl (by (repeat' (first | exact trivial | exact rfl | exact trivial | exact fun _ => trivial | rfl | refine And.intro ?_ ?_))) (by repeat' (first | exact trivial | exact rfl | refine And.intro ?_ ?_)) rfl rfl
set_option maxRecDepth 100000 in
set_option maxHeartbeats 2000000 in
theorem putNew (hd : lookH H d = some (true, .ab (cacheB room clock M b))) (hk : 0 ≤ k ∧ k < 2048) (hs : s.size = 64) (hz : 0 ≤ clock ∧ clock ≤ 1000000) (hg : gget k M = none) (hl : (M.length : Int) < room) (hno : ∀ p ∈ M, p.1 ≠ k) :
    FnH Try.prog 9 [.c (.nm d), .c (iT k), .c (.s s), .c (.b dy)] H nx ⟨.tup [.c (iT (-1)), .c (iT 0)], [], [(d, some (.ab (cacheB room (clock + 1) (M ++ [(k, ⟨s, dy, 0, clock + 1⟩)]) b)))], []⟩ := by
  refine fnA (fn := Try.f9) 75 rfl rfl rfl hd (ptr b) (cacheB_pins _ _ _ _) (cacheB_pins _ _ _ _) rfl rfl rfl (v' := .tup [.c (iT (-1)), .c (iT 0)]) (news' := []) rfl rfl rfl rfl fun w Wr => ?_
  have hc := put_hc hk
  have g1 : ((s.size : Int) != 64) = false := by simp; omega
  refine At.ex 0 rfl (cacheP_st _ _ _ _) fun nb => ?_
  refine At.unfoldTo 0 (L1 := (0, .t (.c (.p 1 0))) :: [(1, .t (.c (iT k))), (2, .t (.c (.s s))), (3, .t (.c (.b dy)))]) (H1 := [(1, some (true, .cells [iT room, iT clock, .mp 2] 54)), (2, some (true, .mp (cvM nb M))), (3, some (true, .ab (bufsQ 58 (cvQ nb M)))), (4, some (false, .pin 1 b)), (0, none), (0, some (true, .ab (cacheP room clock M b nb))), (0, some (true, .ab (cacheB room clock M b)))]) (nx1 := 5) rfl rfl rfl rfl rfl rfl ?_
  refine At.fact 3 rfl (fun v F w h => h.2.1) fun hnd => ?_
  have hlk : lkV (cvM nb M) k (.pointer none) false = (SV.t (.c .np)).den e0 := by unfold lkV; rw [cvM_none hg]; rfl
  have g2 : decide (room ≤ ((cvM nb M).length : Int)) = false := by rw [cvM_length]; exact decide_eq_false (by omega)
  refine rn [(11, .dec false), (18, .dec false), (27, .ret (.t (.c .np))), (29, .dec true), (39, .dec false), (20014, .dec true)] rfl (by (repeat' (first | exact trivial | exact rfl | exact hc | exact fun _ => hc | first | exact g1 | exact g2 | exact hlk | refine And.intro ?_ ?_))) ?_
  refine At.pin 5 rfl fun b' => ?_
  refine rn [(9999, .spec ⟨.t (.c (.raw undef)), [], [(2, some (.mp (mput k (ptr b') (cvM nb M))))], []⟩), (64, .dec false), (73, .spec ⟨.tup [], [], [(1, some (.cells [iT room, iT (clock + 1), .mp 2] 54)), (5, some (.cells (bfC ⟨s, dy, 0, clock + 1⟩) 58))], []⟩)] rfl
    (by (repeat' (first | exact trivial | exact rfl | exact trivial | exact fun _ => trivial | first | exact spec_mapup (n := 5) (q := 6) tysOk rfl rfl rfl rfl rfl rfl ⟨by omega, by omega⟩ | exact use_h (x := ⟨s, dy, 0, 0⟩) rfl rfl rfl (by decide) (by decide) (by decide) hz | refine And.intro ?_ ?_))) ?_
  refine Done.fold [(0, 5), (1, 6), (2, 3)] (oneO 58 b' (bfC (⟨s, dy, 0, clock + 1⟩)) (cvQ nb (M))) .np (by (repeat' (first | exact trivial | exact rfl | exact trivial | exact fun _ => trivial | rfl | refine And.intro ?_ ?_))) rfl rfl (fun _ => rfl) ?_
  refine Done.weak 7 (φ' := bufsQ 58 (cvQ (fun j => if j = k then b' else nb j) (M ++ [(k, (⟨s, dy, 0, clock + 1⟩ : Bf))]))) rfl bufsQ_stable (fun v F w h => by
    rw [cvQ_put hno]
    exact bufsQ_perm (List.perm_append_comm (l₁ := [(b', bfC (⟨s, dy, 0, clock + 1⟩))])) v F w (bufsQ_in rfl v F w h)) ?_
  refine Done.fold [(0, 1), (1, 2), (2, 7), (3, 4)] (cacheO room (clock + 1) (M ++ [(k, (⟨s, dy, 0, clock + 1⟩ : Bf))]) (fun j => if j = k then b' else nb j) b) (.p 0 0) (by (repeat' (first | exact trivial | exact rfl | exact trivial | exact fun _ => trivial | first | exact cvM_put hno | (rw [cvM_del]; exact cvM_put hno) | rfl | refine And.intro ?_ ?_))) rfl rfl (fun _ => rfl) ?_
  refine Done.weak 8 (φ' := cacheB room (clock + 1) (M ++ [(k, (⟨s, dy, 0, clock + 1⟩ : Bf))]) b) rfl (exP_stable (cacheP_st _ _ _ _)) (fun v F w h => ⟨fun j => if j = k then b' else nb j, h⟩) ?_
  exact retM tysOk [(0, 8)] rfl (by repeat' (first | exact trivial | exact rfl | refine And.intro ?_ ?_)) (by repeat' (first | exact trivial | exact rfl | refine And.intro ?_ ?_)) rfl rfl
end
end
end Cw
