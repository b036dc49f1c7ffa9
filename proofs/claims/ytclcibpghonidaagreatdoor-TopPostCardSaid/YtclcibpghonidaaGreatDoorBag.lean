/- The bag: its methods by reckoning. -/
import Derived.Test.YtclcibpghonidaaGreatDoorDelF
import Derived.Test.YtclcibpghonidaaGreatDoorWireV
import Derived.Test.YtclcibpghonidaaGreatDoorMapK
import Derived.Test.YtclcibpghonidaaGreatDoorAmV
namespace Cw
open Go Vc
open Go.Proofs
set_option maxRecDepth 100000
def keysRB : Go.Shelf.Ren := ⟨fun | 6 => 38 | 7 => 39 | 8 => 75 | 9 => 76 | 10 => 77 | 11 => 110 | n => n, fun | 3 => 31 | 4 => 4 | 23 => 81 | 24 => 34 | 26 => 3 | 27 => 95 | 28 => 96 | 33 => 98 | n => n, fun n => n⟩
theorem keysL6B : Go.Proofs.SlLaysZI.n6 Tryz.prog keysRB := {
mixed := by kernel_rfl
f6 := ⟨Tryz.f38.name, by decide, Tryz.func38.trans (congrArg some (by kernel_rfl))⟩
f8 := ⟨Tryz.f75.name, by decide, Tryz.func75.trans (congrArg some (by kernel_rfl))⟩
f11 := ⟨Tryz.f110.name, by decide, Tryz.func110.trans (congrArg some (by kernel_rfl))⟩
t0 := Tryz.underlying0
a0 := Tryz.isAgg0
z0 := Tryz.sizeOf0
v0 := Tryz.zeroValue0
t24 := Tryz.underlying34
a24 := Tryz.isAgg34
z24 := Tryz.sizeOf34
v24 := Tryz.zeroValue34
t26 := Tryz.underlying3
a26 := Tryz.isAgg3
z26 := Tryz.sizeOf3
v26 := Tryz.zeroValue3
t28 := Tryz.underlying96
a28 := Tryz.isAgg96
z28 := Tryz.sizeOf96
v28 := Tryz.zeroValue96
i26 := by kernel_rfl }
theorem keysL7B : Go.Proofs.SlLaysZI.n7 Tryz.prog keysRB := {
mixed := by kernel_rfl
f7 := ⟨Tryz.f39.name, by decide, Tryz.func39.trans (congrArg some (by kernel_rfl))⟩
f10 := ⟨Tryz.f77.name, by decide, Tryz.func77.trans (congrArg some (by kernel_rfl))⟩
t0 := Tryz.underlying0
a0 := Tryz.isAgg0
z0 := Tryz.sizeOf0
v0 := Tryz.zeroValue0
t4 := Tryz.underlying4
a4 := Tryz.isAgg4
z4 := Tryz.sizeOf4
v4 := Tryz.zeroValue4
t23 := Tryz.underlying81
a23 := Tryz.isAgg81
z23 := Tryz.sizeOf81
v23 := Tryz.zeroValue81
t26 := Tryz.underlying3
a26 := Tryz.isAgg3
z26 := Tryz.sizeOf3
v26 := Tryz.zeroValue3
t27 := Tryz.underlying95
a27 := Tryz.isAgg95
z27 := Tryz.sizeOf95
v27 := Tryz.zeroValue95
t28 := Tryz.underlying96
a28 := Tryz.isAgg96
z28 := Tryz.sizeOf96
v28 := Tryz.zeroValue96
t33 := Tryz.underlying98
a33 := Tryz.isAgg98
z33 := Tryz.sizeOf98
v33 := Tryz.zeroValue98 }
theorem sortsB (m : Nat) : Go.Proofs.AnyZI.SortsIn Tryz.prog keysRB Fence.wide m :=
  ⟨fun blk off cap ss W hH hblk hsz => callsIn_wide.2 (Tryz.slices_Sort_int blk off cap ss W hH hblk hsz), fun p cap W => callsIn_wide.2 (Tryz.slices_Sort_int_none p cap W)⟩
theorem keysB {H : HL} {nx k : Nat} : FnH Tryz.prog 39 [.c (.mp k)] H nx ⟨.t (.c (.fn (.func 77) [(nx, 0)])), [(true, .cells [.mp k] 81)], [], []⟩ := keys_of rfl rfl rfl keysL7B
theorem sortedB {H : HL} {nx q k : Nat} {b1 b2 : Bool} {T : TypeId} {m : List (Int × Value)} (hq : lookH H q = some (b1, .cells [.mp k] T)) (hm : lookH H k = some (b2, .mp m)) (hz : m.length ≤ 1000000) :
    FnH Tryz.prog 38 [.c (.fn (.func 77) [(q, 0)])] H nx ⟨.t (.c (.nm nx)), [(true, .own 3 1 m.length (ivs (srtI (m.map Prod.fst))))], [], []⟩ :=
  sorted_of rfl rfl rfl keysL6B keysL7B sortsB (enters_of Tryz.func76 (by kernel_rfl) rfl) (enters_of Tryz.func77 (by kernel_rfl) rfl) hq hm hz
def mV (m : Ms) : Value := .agg #[.int .i64 m.k, .int .i64 m.f, .int .i64 m.t, .int .i64 m.r, .int .i64 m.s, .int .i64 m.e]
def m0 : Ms := ⟨0, 0, 0, 0, 0, 0⟩
/-- A bag: the messages that are on their way, by their numbers. -/
def bagO (room last : Int) (L : List (Int × Ms)) (b : Nat) : List (Bool × Ob) :=
  [(true, .cells [iT room, iT last, .mp 1] 83), (true, .mp (gm mV L)), (false, .pin 0 b)]
def bagP (room last : Int) (L : List (Int × Ms)) (b : Nat) : AbP := absP (bagO room last L b) (.p 0 0)
theorem bag_pins (room last : Int) (L : List (Int × Ms)) (b : Nat) : Pins (bagP room last L b) (ptr b) := pins_abs (k := 2) rfl
def bagX (room last : Int) (L : List (Int × Ms)) : AbP := exP (bagP room last L)
/-- What may be of a bag. -/
structure BOk (room last : Int) (L : List (Int × Ms)) : Prop where
  r1 : 1 ≤ room
  r2 : room ≤ 1024
  len : (L.length : Int) ≤ room
  up : (L.map Prod.fst).Pairwise (· < ·)
  le : ∀ p ∈ L, 1 ≤ p.1 ∧ p.1 ≤ last
  l0 : 0 ≤ last
def bsE (room : Int) (L : List (Int × Ms)) (m : Ms) : Int := if mcheck m = 0 then (if room ≤ (L.length : Int) then 220 else 0) else mcheck m
def bsN (room last : Int) (L : List (Int × Ms)) (m : Ms) : Int := if bsE room L m = 0 then last + 1 else 0
def bsT (room last : Int) (L : List (Int × Ms)) (m : Ms) : Int := if bsE room L m = 0 then last + 1 else last
def bsL (room last : Int) (L : List (Int × Ms)) (m : Ms) : List (Int × Ms) := if bsE room L m = 0 then L ++ [(last + 1, m)] else L
theorem bOk_send {room last : Int} {L : List (Int × Ms)} (h : BOk room last L) (m : Ms) : BOk room (bsT room last L m) (bsL room last L m) := by
  unfold bsT bsL
  by_cases he : bsE room L m = 0
  · rw [if_pos he, if_pos he]
    have hl : (L.length : Int) < room := by
      unfold bsE at he
      split at he
      · split at he
        · cases he
        · omega
      · exact absurd he (by assumption)
    refine ⟨h.r1, h.r2, by simp; omega, ?_, fun p hp => ?_, by have := h.l0; omega⟩
    · rw [List.map_append, List.pairwise_append]
      refine ⟨h.up, by simp, fun a ha c hc => ?_⟩
      simp at hc
      obtain ⟨q, hq, rfl⟩ := List.mem_map.1 ha
      have := (h.le q hq).2
      omega
    · rcases List.mem_append.1 hp with hp | hp
      · have := h.le p hp; omega
      · simp at hp
        have := h.l0
        subst hp
        exact ⟨by show 1 ≤ last + 1; omega, Int.le_refl _⟩
  · rw [if_neg he, if_neg he]; exact h
theorem bOk_del {room last : Int} {L : List (Int × Ms)} (h : BOk room last L) (k : Int) : BOk room last (gdel k L) := by
  refine ⟨h.r1, h.r2, ?_, h.up.sublist gdel_fst, fun p hp => h.le p (gdel_mem hp), h.l0⟩
  have := gdel_fst (k := k) (W := L).length_le
  simp only [List.length_map] at this
  have := h.len
  omega
section
variable {H : HL} {nx d b : Nat} {room last : Int} {L : List (Int × Ms)}
set_option maxRecDepth 100000 in
set_option maxHeartbeats 2000000 in
theorem bsendA (hd : lookH H d = some (true, .ab (bagP room last L b))) (h : BOk room last L) (hz : last ≤ 1000000) (m : Ms) :
    FnH Tryz.prog 36 [.c (.nm d), msT m] H nx ⟨.tup [.c (iT (bsN room last L m)), .c (iT (bsE room L m))], [], [(d, some (.ab (bagP room (bsT room last L m) (bsL room last L m) b)))], []⟩ := by
  refine fnA (fn := Tryz.f36) 42 rfl rfl rfl hd (ptr b) (bag_pins _ _ _ _) (bag_pins _ _ _ _) rfl rfl rfl (v' := .tup [.c (iT (bsN room last L m)), .c (iT (bsE room L m))]) (news' := []) rfl rfl rfl rfl fun w Wr => ?_
  refine At.unfoldTo 0 (L1 := (0, .t (.c (.p 1 0))) :: [(1, .t (msT m))]) (H1 := [(1, some (true, .cells [iT room, iT last, .mp 2] 83)), (2, some (true, .mp (gm mV L))), (3, some (false, .pin 1 b)), (0, none), (0, some (true, .ab (bagP room last L b)))]) (nx1 := 4) rfl rfl rfl rfl rfl rfl ?_
  have hc := wcheck0 m
  by_cases h1 : mcheck m = 0
  · rw [h1] at hc
    by_cases h2 : room ≤ (L.length : Int)
    · have e1 : bsE room L m = 220 := by rw [bsE, if_pos h1, if_pos h2]
      have e2 : bsN room last L m = 0 := by rw [bsN, e1]; rfl
      have e3 : bsT room last L m = last := by rw [bsT, e1]; rfl
      have e4 : bsL room last L m = L := by rw [bsL, e1]; rfl
      rw [e1, e2, e3, e4]
      have g1 : decide (room ≤ ((gm mV L).length : Int)) = true := by rw [gm_length]; exact decide_eq_true h2
      refine rn [(8, .ret (.t (.c (iT 0)))), (10, .dec false), (21, .dec true)] rfl (by (repeat' (first | exact trivial | exact rfl | exact hc | exact fun _ => hc | first | exact g1 | rfl | refine And.intro ?_ ?_))) ?_
      refine Done.fold [(0, 1), (1, 2), (2, 3)] (bagO room (last) (L) b) (.p 0 0) (by repeat' (first | exact trivial | exact rfl | refine And.intro ?_ ?_)) rfl rfl (fun _ => rfl) ?_
      exact retM tysOk [(0, 5)] rfl (by repeat' (first | exact trivial | exact rfl | refine And.intro ?_ ?_)) (by repeat' (first | exact trivial | exact rfl | refine And.intro ?_ ?_)) rfl rfl
    · have e1 : bsE room L m = 0 := by rw [bsE, if_pos h1, if_neg h2]
      have e2 : bsN room last L m = last + 1 := by rw [bsN, e1]; rfl
      have e3 : bsT room last L m = last + 1 := by rw [bsT, e1]; rfl
      have e4 : bsL room last L m = L ++ [(last + 1, m)] := by rw [bsL, e1]; rfl
      rw [e1, e2, e3, e4]
      have g1 : decide (room ≤ ((gm mV L).length : Int)) = false := by rw [gm_length]; exact decide_eq_false h2
      have w1 : IntKind.i64.wrap (last + 1) = last + 1 := wrap_sm (by have := h.l0; omega) (by omega)
      have g2 := gm_put (vv := mV) (k := last + 1) (x := m) (W := L) fun p hp => by have := (h.le p hp).2; omega
      have w2 : -9223372036854775808 ≤ IntKind.i64.wrap (last + 1) := by have := h.l0; omega
      have w3 : IntKind.i64.wrap (last + 1) ≤ 9223372036854775807 := by omega
      refine rn [(8, .ret (.t (.c (iT 0)))), (10, .dec false), (21, .dec false)] rfl (by (repeat' (first | exact trivial | exact rfl | exact hc | exact fun _ => hc | first | exact g1 | exact w2 | exact w3 | rfl | refine And.intro ?_ ?_))) ?_
      refine Done.fold [(0, 1), (1, 2), (2, 3)] (bagO room (last + 1) (L ++ [(last + 1, m)]) b) (.p 0 0) ?_ rfl rfl (fun _ => rfl) ?_
      · (repeat' (first | exact trivial | exact rfl | exact w1 | exact fun _ => w1 | (rw [w1]; exact g2) | refine And.intro ?_ ?_))
      · exact retM tysOk [(0, 5)] rfl (by (repeat' (first | exact trivial | exact rfl | exact w1 | exact fun _ => w1 | refine And.intro ?_ ?_))) (by repeat' (first | exact trivial | exact rfl | refine And.intro ?_ ?_)) rfl rfl
  · have e1 : bsE room L m = mcheck m := by rw [bsE, if_neg h1]
    have e2 : bsN room last L m = 0 := by rw [bsN, e1, if_neg h1]
    have e3 : bsT room last L m = last := by rw [bsT, e1, if_neg h1]
    have e4 : bsL room last L m = L := by rw [bsL, e1, if_neg h1]
    rw [e1, e2, e3, e4]
    have g1 : (mcheck m != 0) = true := by simpa using h1
    refine rn [(8, .ret (.t (.c (iT (mcheck m))))), (10, .dec true)] rfl (by (repeat' (first | exact trivial | exact rfl | exact hc | exact fun _ => hc | exact g1 | refine And.intro ?_ ?_))) ?_
    refine Done.fold [(0, 1), (1, 2), (2, 3)] (bagO room (last) (L) b) (.p 0 0) (by repeat' (first | exact trivial | exact rfl | refine And.intro ?_ ?_)) rfl rfl (fun _ => rfl) ?_
    exact retM tysOk [(0, 5)] rfl (by repeat' (first | exact trivial | exact rfl | refine And.intro ?_ ?_)) (by repeat' (first | exact trivial | exact rfl | refine And.intro ?_ ?_)) rfl rfl
/-- What is taken. -/
def btM (L : List (Int × Ms)) (k : Int) : Ms := (gget k L).getD m0
def btE (L : List (Int × Ms)) (k : Int) : Int := if (gget k L).isSome = true then 0 else 5
theorem btM_none {L : List (Int × Ms)} {k : Int} (h : gget k L = none) : btM L k = m0 := by simp [btM, h]
theorem lkB (k : Int) : lkV (gm mV L) k (mV m0) true = (SV.tup [msT (btM L k), .c (.b (gget k L).isSome)]).den e0 := lk_gm k L m0
set_option maxRecDepth 100000 in
set_option maxHeartbeats 2000000 in
theorem takeA (hd : lookH H d = some (true, .ab (bagP room last L b))) (k : Int) :
    FnH Tryz.prog 11 [.c (.nm d), .c (iT k)] H nx ⟨.tup [msT (btM L k), .c (iT (btE L k))], [], [(d, some (.ab (bagP room last (gdel k L) b)))], []⟩ := by
  refine fnA (fn := Tryz.f11) 26 rfl rfl rfl hd (ptr b) (bag_pins _ _ _ _) (bag_pins _ _ _ _) rfl rfl rfl (v' := .tup [msT (btM L k), .c (iT (btE L k))]) (news' := []) rfl rfl rfl rfl fun w Wr => ?_
  refine At.unfoldTo 0 (L1 := (0, .t (.c (.p 1 0))) :: [(1, .t (.c (iT k)))]) (H1 := [(1, some (true, .cells [iT room, iT last, .mp 2] 83)), (2, some (true, .mp (gm mV L))), (3, some (false, .pin 1 b)), (0, none), (0, some (true, .ab (bagP room last L b)))]) (nx1 := 4) rfl rfl rfl rfl rfl rfl ?_
  have hlk := lkB (L := L) k
  cases hg : gget k L with
  | none =>
    have e1 : btE L k = 5 := by rw [btE, hg]; rfl
    have e2 := btM_none hg
    rw [hg, e2] at hlk
    rw [e1, e2, gdel_none hg]
    refine rn [(14, .ret (.tup [msT m0, .c (.b false)])), (18, .dec true)] rfl (by (repeat' (first | exact trivial | exact rfl | exact hlk | exact fun _ => hlk | refine And.intro ?_ ?_))) ?_
    refine Done.fold [(0, 1), (1, 2), (2, 3)] (bagO room (last) (L) b) (.p 0 0) (by repeat' (first | exact trivial | exact rfl | refine And.intro ?_ ?_)) rfl rfl (fun _ => rfl) ?_
    exact retM tysOk [(0, 6)] rfl (by repeat' (first | exact trivial | exact rfl | refine And.intro ?_ ?_)) (by repeat' (first | exact trivial | exact rfl | refine And.intro ?_ ?_)) rfl rfl
  | some x =>
    have e1 : btE L k = 0 := by rw [btE, hg]; rfl
    rw [hg] at hlk
    rw [e1]
    generalize btM L k = y at *
    refine rn [(14, .ret (.tup [msT y, .c (.b true)])), (18, .dec false)] rfl (by (repeat' (first | exact trivial | exact rfl | exact hlk | exact fun _ => hlk | refine And.intro ?_ ?_))) ?_
    refine Done.fold [(0, 1), (1, 2), (2, 3)] (bagO room last (gdel k L) b) (.p 0 0) (by (repeat' (first | exact trivial | exact rfl | exact gm_del k L | exact fun _ => gm_del k L | refine And.intro ?_ ?_))) rfl rfl (fun _ => rfl) ?_
    exact retM tysOk [(0, 6)] rfl (by repeat' (first | exact trivial | exact rfl | refine And.intro ?_ ?_)) (by repeat' (first | exact trivial | exact rfl | refine And.intro ?_ ?_)) rfl rfl
/-- What is sent once more. -/
def baE (room : Int) (L : List (Int × Ms)) (k : Int) : Int := if (gget k L).isSome = true then bsE room L (btM L k) else 5
def baN (room last : Int) (L : List (Int × Ms)) (k : Int) : Int := if (gget k L).isSome = true then bsN room last L (btM L k) else 0
def baT (room last : Int) (L : List (Int × Ms)) (k : Int) : Int := if (gget k L).isSome = true then bsT room last L (btM L k) else last
def baL (room last : Int) (L : List (Int × Ms)) (k : Int) : List (Int × Ms) := if (gget k L).isSome = true then bsL room last L (btM L k) else L
/-- What a text brings. -/
def rwM (s : ByteArray) : Ms := mdec s.data.toList
def brE (room : Int) (L : List (Int × Ms)) (s : ByteArray) : Int := if mdece s.data.toList = 0 then bsE room L (rwM s) else mdece s.data.toList
def brN (room last : Int) (L : List (Int × Ms)) (s : ByteArray) : Int := if mdece s.data.toList = 0 then bsN room last L (rwM s) else 0
def brT (room last : Int) (L : List (Int × Ms)) (s : ByteArray) : Int := if mdece s.data.toList = 0 then bsT room last L (rwM s) else last
def brL (room last : Int) (L : List (Int × Ms)) (s : ByteArray) : List (Int × Ms) := if mdece s.data.toList = 0 then bsL room last L (rwM s) else L
set_option maxRecDepth 100000 in
set_option maxHeartbeats 2000000 in
theorem rawA (hd : lookH H d = some (true, .ab (bagP room last L b))) (h : BOk room last L) (hz : last ≤ 1000000) (s : ByteArray) (hs : s.size ≤ 9223372036854775807) :
    FnH Tryz.prog 9 [.c (.nm d), .c (.s s)] H nx ⟨.tup [.c (iT (brN room last L s)), .c (iT (brE room L s))], [], [(d, some (.ab (bagP room (brT room last L s) (brL room last L s) b)))], []⟩ := by
  refine fnA (fn := Tryz.f9) 20 rfl rfl rfl hd (ptr b) (bag_pins _ _ _ _) (bag_pins _ _ _ _) rfl rfl rfl (v' := .tup [.c (iT (brN room last L s)), .c (iT (brE room L s))]) (news' := []) rfl rfl rfl rfl fun w Wr => ?_
  have hd := wdec0 s hs
  by_cases h1 : mdece s.data.toList = 0
  · have e1 : brE room L s = bsE room L (rwM s) := if_pos h1
    have e2 : brN room last L s = bsN room last L (rwM s) := if_pos h1
    have e3 : brT room last L s = bsT room last L (rwM s) := if_pos h1
    have e4 : brL room last L s = bsL room last L (rwM s) := if_pos h1
    rw [e1, e2, e3, e4]
    rw [h1] at hd
    show At _ _ _ _ _ _ [(0, some (true, .ab (bagP room last L b)))] 1
    unfold rwM at *
    generalize mdec s.data.toList = y at *
    refine rn [(9, .ret (.tup [msT y, .c (iT 0)])), (13, .dec false), (17, .spec ⟨.tup [.c (iT (bsN room last L y)), .c (iT (bsE room L y))], [], [(0, some (.ab (bagP room (bsT room last L y) (bsL room last L y) b)))], []⟩)] rfl (by (repeat' (first | exact trivial | exact rfl | exact hd | exact fun _ => hd | exact bsendA rfl h hz y | refine And.intro ?_ ?_))) ?_
    exact retM tysOk [(0, 0)] rfl (by repeat' (first | exact trivial | exact rfl | refine And.intro ?_ ?_)) (by repeat' (first | exact trivial | exact rfl | refine And.intro ?_ ?_)) rfl rfl
  · have e1 : brE room L s = mdece s.data.toList := if_neg h1
    have e2 : brN room last L s = 0 := if_neg h1
    have e3 : brT room last L s = last := if_neg h1
    have e4 : brL room last L s = L := if_neg h1
    rw [e1, e2, e3, e4]
    have g1 : (mdece s.data.toList != 0) = true := by simpa using h1
    generalize mdec s.data.toList = y at *
    generalize mdece s.data.toList = e at *
    refine rn [(9, .ret (.tup [msT y, .c (iT e)])), (13, .dec true)] rfl (by (repeat' (first | exact trivial | exact rfl | exact hd | exact fun _ => hd | exact g1 | refine And.intro ?_ ?_))) ?_
    exact retM tysOk [(0, 0)] rfl (by repeat' (first | exact trivial | exact rfl | refine And.intro ?_ ?_)) (by repeat' (first | exact trivial | exact rfl | refine And.intro ?_ ?_)) rfl rfl
/-- Those to a node. -/
def forL (L : List (Int × Ms)) (u : Int) : List Int := (L.filter fun p => p.2.t == u).map Prod.fst
def notTo (L : List (Int × Ms)) (u k : Int) : Bool := (btM L k).t != u
theorem forL_eq (up : (L.map Prod.fst).Pairwise (· < ·)) (u : Int) : ((L.map Prod.fst).filter fun k => !notTo L u k) = forL L u := by
  unfold forL
  rw [List.filter_map]
  congr 1
  refine List.filter_congr fun p hp => ?_
  simp only [Function.comp, notTo, btM, gget_at up hp, Option.getD_some, Bool.not_not, bne]
def hcB (room last u : Int) (L : List (Int × Ms)) : HL := [(1, some (false, .cells [iT room, iT last, .mp 2] 83)), (2, some (false, .mp (gm mV L))), (4, some (false, .cells [.p 1 0] 23)), (5, some (false, .cells [iT u] 3))]
theorem hcB_rd (u : Int) : rdsOk (fun n => n) (hcB room last u L) (hcB room last u L) := ⟨⟨false, rfl⟩, ⟨false, rfl⟩, ⟨false, rfl⟩, ⟨false, rfl⟩, trivial⟩
set_option maxRecDepth 100000 in
set_option maxHeartbeats 2000000 in
theorem for1 (u k : Int) : FnH Tryz.prog 40 [.c (iT k), .c (.p 4 0), .c (.p 5 0)] (hcB room last u L) 6 ⟨.t (.c (.b (notTo L u k))), [], [], []⟩ := by
  refine fnR (fn := Tryz.f40) 14 rfl rfl rfl (args' := [.c (iT k), .c (.p 4 0), .c (.p 5 0)]) (H' := hcB room last u L) (nx' := 6) (fun e w M => ⟨_, mem_rd (fun n => n) (hcB_rd u) M, rfl⟩) rfl rfl rfl rfl fun w => ?_
  unfold notTo
  have hlk : lkV (gm mV L) k (mV m0) false = (SV.t (msT (btM L k))).den e0 := lk_gm1 k L m0
  generalize btM L k = y at *
  show At _ _ _ _ _ _ [(1, some (false, .cells [iT room, iT last, .mp 2] 83)), (2, some (false, .mp (gm mV L))), (4, some (false, .cells [.p 1 0] 23)), (5, some (false, .cells [iT u] 3))] 6
  refine rn [(10, .ret (.t (msT y)))] rfl (by (repeat' (first | exact trivial | exact rfl | exact hlk | exact fun _ => hlk | refine And.intro ?_ ?_))) ?_
  exact ret0 tysOk rfl (by repeat' (first | exact trivial | exact rfl | refine And.intro ?_ ?_)) rfl
def okT (_ : Int) : Prop := True
set_option maxRecDepth 100000 in
set_option maxHeartbeats 2000000 in
theorem forA (hd : lookH H d = some (true, .ab (bagP room last L b))) (h : BOk room last L) (u : Int) :
    FnH Tryz.prog 10 [.c (.nm d), .c (iT u)] H nx ⟨.t (.c (.nm nx)), [(true, .own 3 1 (forL L u).length (ivs (forL L u)))], [(d, some (.ab (bagP room last L b)))], []⟩ := by
  refine fnA (fn := Tryz.f10) 13 rfl rfl rfl hd (ptr b) (bag_pins _ _ _ _) (bag_pins _ _ _ _) rfl rfl rfl (v' := .t (.c (.nm 1))) (news' := [(true, .own 3 1 (forL L u).length (ivs (forL L u)))]) rfl rfl rfl rfl fun w Wr => ?_
  refine At.unfoldTo 0 (L1 := (0, .t (.c (.p 1 0))) :: [(1, .t (.c (iT u)))]) (H1 := [(1, some (true, .cells [iT room, iT last, .mp 2] 83)), (2, some (true, .mp (gm mV L))), (3, some (false, .pin 1 b)), (0, none), (0, some (true, .ab (bagP room last L b)))]) (nx1 := 4) rfl rfl rfl rfl rfl rfl ?_
  have hks : srtI ((gm mV L).map Prod.fst) = L.map Prod.fst := by rw [gm_fst, srtI_sorted h.up]
  have hlz : L.length ≤ 1024 := by have := h.len; have := h.r2; omega
  have hS : ∀ (H : HL) (nx : Nat), lookH H 6 = some (true, .cells [.mp 2] 81) → lookH H 2 = some (true, .mp (gm mV L)) → FnH Tryz.prog 38 [.c (.fn (.func 77) [(6, 0)])] H nx ⟨.t (.c (.nm nx)), [(true, .own 3 1 L.length (ivs (L.map Prod.fst)))], [], []⟩ := fun H nx h1 h2 => by
    have := sortedB (nx := nx) h1 h2 (by rw [gm_length]; omega)
    rw [hks, gm_length] at this
    exact this
  have hD : ∀ (H : HL) (nx : Nat), lookH H 7 = some (true, .own 3 1 L.length (ivs (L.map Prod.fst))) → capsOk 7 H (hcB room last u L) → FnH Tryz.prog 37 [.c (.nm 7), .c (.fn (.func 40) [(4, 0), (5, 0)])] H nx ⟨.t (.c (.nm nx)), [(true, .own 3 1 (forL L u).length (ivs (forL L u)))], [(7, none)], []⟩ := fun H nx h1 h2 => by
    have h3 : L.length = (L.map Prod.fst).length := by simp
    rw [h3] at h1
    have := deleteF_h (nx := nx) (caps := [(4, 0), (5, 0)]) (pd := notTo L u) (nc := 6) (g := 40) okT rfl rfl rfl (fun k _ => for1 u k) h1 h2 (fun _ _ => trivial) (by rw [← h3]; omega)
    rw [forL_eq h.up u] at this
    exact this
  refine rn [(9, .spec ⟨.t (.c (.fn (.func 77) [(6, 0)])), [(true, .cells [.mp 2] 81)], [], []⟩), (10, .spec ⟨.t (.c (.nm 7)), [(true, .own 3 1 L.length (ivs (L.map Prod.fst)))], [], []⟩), (12, .spec ⟨.t (.c (.nm 8)), [(true, .own 3 1 (forL L u).length (ivs (forL L u)))], [(7, none)], []⟩)] rfl (by (repeat' (first | exact trivial | exact rfl | exact keysB | exact fun _ => keysB | first | exact hS _ _ rfl rfl | exact hD _ _ rfl ⟨rfl, ⟨_, rfl⟩, rfl, ⟨_, rfl⟩, rfl, ⟨_, rfl⟩, rfl, ⟨_, rfl⟩, trivial⟩ | refine And.intro ?_ ?_))) ?_
  refine Done.fold [(0, 1), (1, 2), (2, 3)] (bagO room last L b) (.p 0 0) (by repeat' (first | exact trivial | exact rfl | refine And.intro ?_ ?_)) rfl rfl (fun _ => rfl) ?_
  exact retM tysOk [(0, 9), (1, 8)] rfl (by repeat' (first | exact trivial | exact rfl | refine And.intro ?_ ?_)) (by repeat' (first | exact trivial | exact rfl | refine And.intro ?_ ?_)) rfl rfl
end
theorem bnewA {H : HL} {nx : Nat} {n : Int} (h0 : 1 ≤ n) (h1 : n ≤ 1024) : FnH Tryz.prog 6 [.c (iT n)] H nx ⟨.tup [.c (.nm nx), .c (iT 0)], [(true, .ab (bagX n 0 []))], [], []⟩ := by
  refine fnM (fn := Tryz.f6) 14 rfl rfl rfl (args' := [.c (iT n)]) (H' := []) (nx' := 0) [] (fun e w M => ⟨e, ⟨fun n b o h => (by cases h), fun n o m c q h => (by cases h)⟩, rfl⟩) rfl rfl rfl (fun e w M u hu => by cases hu) (fun u hu => by cases hu) (by simp) (v' := .tup [.c (.nm 0), .c (iT 0)]) (news' := [(true, .ab (bagX n 0 []))]) rfl rfl rfl rfl rfl fun w Wr => ?_
  have hc : (decide (n < 1) || decide (1024 < n)) = false := by
    rw [Bool.or_eq_false_iff]
    exact ⟨decide_eq_false (by omega), decide_eq_false (by omega)⟩
  refine rn [(9, .dec false)] rfl (by (repeat' (first | exact trivial | exact rfl | exact hc | exact fun _ => hc | refine And.intro ?_ ?_))) ?_
  refine Done.pin 1 rfl fun b => ?_
  refine Done.foldR 2 (.p 1 0) [(0, 1), (1, 0), (2, 2)] (bagO n 0 [] b) (.p 0 0) rfl (by repeat' (first | exact trivial | exact rfl | refine And.intro ?_ ?_)) (by repeat' (first | exact trivial | exact rfl | refine And.intro ?_ ?_)) rfl rfl (fun _ => rfl) ?_
  refine Done.weak 3 (φ' := bagX n 0 []) rfl (exP_stable fun b => absP_stable _ _) (fun v F w h => ⟨b, h⟩) ?_
  exact retM tysOk [(0, 3)] rfl (by repeat' (first | exact trivial | exact rfl | refine And.intro ?_ ?_)) (by repeat' (first | exact trivial | exact rfl | refine And.intro ?_ ?_)) rfl rfl
theorem bOk_new {n : Int} (h0 : 1 ≤ n) (h1 : n ≤ 1024) : BOk n 0 [] := ⟨h0, h1, by simp; omega, List.Pairwise.nil, fun p hp => (by cases hp), Int.le_refl 0⟩
end Cw
namespace Cw
open Go Vc
open Go.Proofs
set_option maxRecDepth 100000
theorem bagX_st (room last : Int) (L : List (Int × Ms)) : ∀ b, stable (bagP room last L b) := fun b => absP_stable _ _
theorem bagX_nn (room last : Int) (L : List (Int × Ms)) : NotNil (bagX room last L) := NotNil.ex fun b => bag_pins _ _ _ b
section
variable {H : HL} {nx d : Nat} {room last : Int} {L : List (Int × Ms)}
theorem nilB (hd : lookH H d = some (true, .ab (bagX room last L))) {Lc : LL} {o : Oper} {x y : Operand} (hop : o.op = .binOp .eql 23 x y 23) (hx : ev Lc x = some (.c (.nm d))) (hy : ev Lc y = some (.c .np)) : Spec Tryz.prog Lc H nx o ⟨.t (.c (.b false)), [], [], []⟩ :=
  spec_nil tysOk hop hx hy rfl rfl hd (bagX_nn _ _ _)
theorem takeX (hd : lookH H d = some (true, .ab (bagX room last L))) (k : Int) :
    FnH Tryz.prog 11 [.c (.nm d), .c (iT k)] H nx ⟨.tup [msT (btM L k), .c (iT (btE L k))], [], [(d, some (.ab (bagX room last (gdel k L))))], []⟩ :=
  fnh_ex hd (bagX_st _ _ _) (bagX_st _ _ _) fun b => takeA (by rw [lookH_cons, if_pos rfl]) k
theorem takeOk (hd : lookH H d = some (true, .ab (bagX room last L))) {k : Int} {m : Ms} (hg : gget k L = some m) :
    FnH Tryz.prog 11 [.c (.nm d), .c (iT k)] H nx ⟨.tup [msT m, .c (iT 0)], [], [(d, some (.ab (bagX room last (gdel k L))))], []⟩ := by
  have := takeX (nx := nx) hd k
  rw [btM, btE, hg] at this
  exact this
theorem rawX (hd : lookH H d = some (true, .ab (bagX room last L))) (h : BOk room last L) (hz : last ≤ 1000000) (s : ByteArray) (hs : s.size ≤ 9223372036854775807) :
    FnH Tryz.prog 9 [.c (.nm d), .c (.s s)] H nx ⟨.tup [.c (iT (brN room last L s)), .c (iT (brE room L s))], [], [(d, some (.ab (bagX room (brT room last L s) (brL room last L s))))], []⟩ :=
  fnh_ex hd (bagX_st _ _ _) (bagX_st _ _ _) fun b => rawA (by rw [lookH_cons, if_pos rfl]) h hz s hs
theorem forX (hd : lookH H d = some (true, .ab (bagX room last L))) (h : BOk room last L) (u : Int) :
    FnH Tryz.prog 10 [.c (.nm d), .c (iT u)] H nx ⟨.t (.c (.nm nx)), [(true, .own 3 1 (forL L u).length (ivs (forL L u)))], [(d, some (.ab (bagX room last L)))], []⟩ :=
  fnh_ex hd (bagX_st _ _ _) (bagX_st _ _ _) fun b => forA (by rw [lookH_cons, if_pos rfl]) h u
end
def mb : Ms := ⟨3, 0, 1, 0, 0, 0⟩
end Cw
