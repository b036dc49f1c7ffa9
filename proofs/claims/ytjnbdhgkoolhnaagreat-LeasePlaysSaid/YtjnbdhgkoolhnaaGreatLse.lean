/- The leases on a disk: the table of a disk, who holds what, turns, by reckoning. -/
import Derived.Test.YtjnbdhgkoolhnaaGreatTabB
import Derived.Test.YtjnbdhgkoolhnaaGreatDisk
import Derived.Test.YtjnbdhgkoolhnaaGreatFnAs
namespace Cw
open Go Vc
open Go.Proofs
set_option maxRecDepth 100000
/-- The table's sectors of a disk. -/
def tT (S : List ByteArray) (m : Nat) : List ByteArray := (S.drop 2).take m
theorem tT_len {S : List ByteArray} {m : Nat} (h : 2 + m ≤ S.length) : (tT S m).length = m := by
  rw [tT, List.length_take, List.length_drop]
  omega
theorem tT_succ {S : List ByteArray} {k : Nat} (h : 2 + k < S.length) : tT S (k + 1) = tT S k ++ [rdT S ((2 + k : Nat) : Int)] := by
  have h1 : k < (S.drop 2).length := by rw [List.length_drop]; omega
  have h2 : inS S.length ((2 + k : Nat) : Int) = true := inS_iff.2 (by omega)
  rw [tT, tT, List.take_succ_eq_append_getElem h1, rdT, if_pos h2, List.getD_eq_getElem?_getD, Int.toNat_natCast, List.getElem?_eq_getElem h, Option.getD_some]
  simp
theorem nilDq2 {H : HL} {nx d bk : Nat} {S : List ByteArray} {Y : List (Int × Wr)} {last : Int} {b1 : Bool} (hd : lookH H d = some (b1, .ab (dP S Y last bk))) {Lc : LL} {o : Oper} {x y : Operand} (hop : o.op = .binOp .eql 38 x y 38) (hx : ev Lc x = some (.c (.nm d))) (hy : ev Lc y = some (.c .np)) : Spec Tryz.prog Lc H nx o ⟨.t (.c (.b false)), [], [], []⟩ :=
  spec_nil tysOk hop hx hy rfl rfl hd (NotNil.pins (disk_pins _ _ _ _))
section
variable {H : HL} {nx d b N n : Nat} {S : List ByteArray} {W : List (Int × Wr)} {last a bb c : Int}
set_option maxRecDepth 100000 in
set_option maxHeartbeats 4000000 in
theorem ltab_ok (hd : lookH H d = some (true, .ab (dP S W last b))) (hD : DOk N S W last) (hg : Gok a bb c) (hn : gregions a bb c = (n : Nat)) (hlen : 2 + nsec n ≤ S.length) (ht : Tdok (tT S (nsec n)) n) :
    FnH Tryz.prog 10 [.c (.nm d), geoT a bb c] H nx ⟨.tup [.c (.nm nx), .c (iT 0)], [(true, .own 46 2 n (lcells (dl (tT S (nsec n)) n)))], [(d, some (.ab (dP S W last b)))], []⟩ := by
  have hz := hD.sz
  refine fnAs (fn := Tryz.f10) 52 rfl rfl rfl (args' := [.c (.nm 0), geoT a bb c]) [(d, dP S W last b, dP S W last b)] [] ⟨⟨hd, ptr b, disk_pins _ _ _ _, disk_pins _ _ _ _⟩, trivial⟩ trivial (by simp) rfl rfl rfl rfl (v' := .tup [.c (.nm 1), .c (iT 0)]) (news' := [(true, .own 46 2 n (lcells (dl (tT S (nsec n)) n)))]) rfl rfl rfl rfl rfl fun w Wh => ?_
  show At _ _ _ _ _ _ [(0, some (true, .ab (dP S W last b)))] 1
  have hck := check0 a bb c
  rw [gcheck, if_pos hg] at hck
  have hre := tregions0 a bb c
  rw [hn] at hre
  obtain ⟨n2, n132⟩ := regions_two hg hn
  have hw1 : IntKind.i64.wrap ((n : Int) - 1) = ((n - 1 : Nat) : Int) := by rw [wrap_sm (by omega) (by omega)]; omega
  have htb := ttableOk0 hg (n - 1) (by omega)
  rw [← hw1] at htb
  have hm : nsec n = (n - 1) / 16 + 1 := by simp only [nsec]; omega
  refine rn [(15, .spec ⟨.t (.c (.b false)), [], [], []⟩)] rfl (by (repeat' (first | exact trivial | exact rfl | exact nilDq2 rfl rfl rfl rfl | exact fun _ => nilDq2 rfl rfl rfl rfl | refine And.intro ?_ ?_))) ?_
  refine ⟨fun h => (by cases h), fun _ => ?_⟩
  refine rn [(17, .ret (.t (.c (iT 0)))), (19, .dec false), (24, .ret (.t (.c (iT (n : Nat))))), (26, .ret (.tup [.c (iT (2 + ((n - 1) / 16 : Nat))), .c (iT ((n - 1) % 16 * 4 : Nat)), .c (iT 0)]))] rfl (by (repeat' (first | exact trivial | exact rfl | exact trivial | exact fun _ => trivial | first | exact hck | exact hre | exact htb | rfl | refine And.intro ?_ ?_))) ?_
  refine At.nil 10 9 1 rfl ?_
  refine At.loop (X := (k : Nat) ×' (k ≤ nsec n ∧ 2 + k ≤ S.length)) 3 (fun x => nsec n - x.1)
    (fun x => [(0, .t (.c (.nm 0))), (3, .t (.c (.p 1 0))), (7, .t (.c (iT (2 + ((n - 1) / 16 : Nat))))), (10, .t (.c (.nm 2))), (11, .t (.c (iT ((2 + x.1 : Nat) : Int))))])
    (fun x => [(0, some (true, .ab (dP S W last b))), (1, some (true, .cells [iT a, iT bb, iT c] 23)), (2, some (true, .own 9 1 x.1 (svs (tT S x.1))))]) ⟨0, by omega, by have := hD.two; have := hD.len; omega⟩ [] (fun x => wf rfl rfl) (by repeat' (first | exact trivial | exact rfl | refine And.intro ?_ ?_)) (by repeat' (first | exact trivial | exact rfl | refine And.intro ?_ ?_)) rfl fun x => ?_
  obtain ⟨k, hk, hkS⟩ := x
  have w3 : IntKind.i64.wrap (((2 + k : Nat) : Int) + 1) = ((2 + (k + 1) : Nat) : Int) := by rw [wrap_sm (by omega) (by omega)]; omega
  have hr := fun (H : HL) (nx : Nat) (h0 : lookH H 0 = some (true, .ab (dP S W last b))) => readA (nx := nx) h0 ((2 + k : Nat) : Int)
  refine rn [] rfl (by repeat' (first | exact trivial | exact rfl | refine And.intro ?_ ?_)) ?_
  refine ⟨fun h1 => ?_, fun h1 => ?_⟩
  · have hkm : k < nsec n := by have : ((2 + k : Nat) : Int) ≤ 2 + (((n - 1) / 16 : Nat) : Int) := of_decide_eq_true h1; omega
    clear h1
    have hlt : 2 + k < S.length := by omega
    have hin : inS S.length ((2 + k : Nat) : Int) = true := inS_iff.2 (by omega)
    rw [rdE, if_pos hin] at hr
    have hap := tT_succ hlt
    have m1 : k + 1 ≤ maxLen := by simp only [maxLen]; omega
    have m2 : (k + 1) * 16 ≤ 140737488355328 := by omega
    generalize rdT S ((2 + k : Nat) : Int) = t at *
    refine rn [(38, .spec ⟨.tup [.c (.s t), .c (iT 0)], [], [(0, some (.ab (dP S W last b)))], []⟩), (42, .dec false)] rfl (by (repeat' (first | exact trivial | exact rfl | exact trivial | exact fun _ => trivial | first | exact hr _ _ rfl | exact m1 | exact m2 | rfl | decide | refine And.intro ?_ ?_))) ?_
    refine roundEnd ⟨k + 1, by omega, by omega⟩ [(2, 4)] (by show nsec n - (k + 1) < nsec n - k; omega) (by (repeat' (first | exact trivial | exact rfl | exact w3 | exact fun _ => w3 | refine And.intro ?_ ?_))) ?_ rfl
    repeat' (first | exact trivial | exact rfl | refine And.intro ?_ ?_)
    · rw [hap, app_eq]; simp [svs]; rfl
  · have hkm : k = nsec n := by have : ¬ ((2 + k : Nat) : Int) ≤ 2 + (((n - 1) / 16 : Nat) : Int) := of_decide_eq_false h1; omega
    clear h1
    subst hkm
    have hTl := tT_len hkS
    refine rn [] rfl (by repeat' (first | exact trivial | exact rfl | refine And.intro ?_ ?_)) (roundExit rfl ?_)
    have hdc := fun (H : HL) (nx : Nat) (h2 : lookH H 2 = some (true, .own 9 1 (nsec n) (svs (tT S (nsec n))))) => tdec_h (nx := nx) (tT S (nsec n)) hg hn hTl ht (SlR.own (by rw [hTl]; exact h2))
    refine rnA [(49, .spec ⟨.tup [.c (.nm 3), .c (iT 0)], [(true, .own 46 2 n (lcells (dl (tT S (nsec n)) n)))], [], []⟩)] rfl (by (repeat' (first | exact trivial | exact rfl | exact trivial | exact fun _ => trivial | first | exact hdc _ _ rfl | rfl | decide | refine And.intro ?_ ?_))) ?_
    exact retM tysOk [(0, 0), (1, 3)] rfl (by repeat' (first | exact trivial | exact rfl | refine And.intro ?_ ?_)) (by repeat' (first | exact trivial | exact rfl | refine And.intro ?_ ?_)) rfl rfl
set_option maxRecDepth 100000 in
set_option maxHeartbeats 4000000 in
theorem ltab_bad (hd : lookH H d = some (true, .ab (dP S W last b))) (hD : DOk N S W last) (hg : Gok a bb c) (hn : gregions a bb c = (n : Nat)) (hlen : 2 + nsec n ≤ S.length) (ht : ¬ Tdok (tT S (nsec n)) n) :
    FnH Tryz.prog 10 [.c (.nm d), geoT a bb c] H nx ⟨.tup [.c .nsl, .c (iT 80)], [], [(d, some (.ab (dP S W last b)))], []⟩ := by
  have hz := hD.sz
  refine fnAs (fn := Tryz.f10) 52 rfl rfl rfl (args' := [.c (.nm 0), geoT a bb c]) [(d, dP S W last b, dP S W last b)] [] ⟨⟨hd, ptr b, disk_pins _ _ _ _, disk_pins _ _ _ _⟩, trivial⟩ trivial (by simp) rfl rfl rfl rfl (v' := .tup [.c .nsl, .c (iT 80)]) (news' := []) rfl rfl rfl rfl rfl fun w Wh => ?_
  show At _ _ _ _ _ _ [(0, some (true, .ab (dP S W last b)))] 1
  have hck := check0 a bb c
  rw [gcheck, if_pos hg] at hck
  have hre := tregions0 a bb c
  rw [hn] at hre
  obtain ⟨n2, n132⟩ := regions_two hg hn
  have hw1 : IntKind.i64.wrap ((n : Int) - 1) = ((n - 1 : Nat) : Int) := by rw [wrap_sm (by omega) (by omega)]; omega
  have htb := ttableOk0 hg (n - 1) (by omega)
  rw [← hw1] at htb
  have hm : nsec n = (n - 1) / 16 + 1 := by simp only [nsec]; omega
  refine rn [(15, .spec ⟨.t (.c (.b false)), [], [], []⟩)] rfl (by (repeat' (first | exact trivial | exact rfl | exact nilDq2 rfl rfl rfl rfl | exact fun _ => nilDq2 rfl rfl rfl rfl | refine And.intro ?_ ?_))) ?_
  refine ⟨fun h => (by cases h), fun _ => ?_⟩
  refine rn [(17, .ret (.t (.c (iT 0)))), (19, .dec false), (24, .ret (.t (.c (iT (n : Nat))))), (26, .ret (.tup [.c (iT (2 + ((n - 1) / 16 : Nat))), .c (iT ((n - 1) % 16 * 4 : Nat)), .c (iT 0)]))] rfl (by (repeat' (first | exact trivial | exact rfl | exact trivial | exact fun _ => trivial | first | exact hck | exact hre | exact htb | rfl | refine And.intro ?_ ?_))) ?_
  refine At.nil 10 9 1 rfl ?_
  refine At.loop (X := (k : Nat) ×' (k ≤ nsec n ∧ 2 + k ≤ S.length)) 3 (fun x => nsec n - x.1)
    (fun x => [(0, .t (.c (.nm 0))), (3, .t (.c (.p 1 0))), (7, .t (.c (iT (2 + ((n - 1) / 16 : Nat))))), (10, .t (.c (.nm 2))), (11, .t (.c (iT ((2 + x.1 : Nat) : Int))))])
    (fun x => [(0, some (true, .ab (dP S W last b))), (1, some (true, .cells [iT a, iT bb, iT c] 23)), (2, some (true, .own 9 1 x.1 (svs (tT S x.1))))]) ⟨0, by omega, by have := hD.two; have := hD.len; omega⟩ [] (fun x => wf rfl rfl) (by repeat' (first | exact trivial | exact rfl | refine And.intro ?_ ?_)) (by repeat' (first | exact trivial | exact rfl | refine And.intro ?_ ?_)) rfl fun x => ?_
  obtain ⟨k, hk, hkS⟩ := x
  have w3 : IntKind.i64.wrap (((2 + k : Nat) : Int) + 1) = ((2 + (k + 1) : Nat) : Int) := by rw [wrap_sm (by omega) (by omega)]; omega
  have hr := fun (H : HL) (nx : Nat) (h0 : lookH H 0 = some (true, .ab (dP S W last b))) => readA (nx := nx) h0 ((2 + k : Nat) : Int)
  refine rn [] rfl (by repeat' (first | exact trivial | exact rfl | refine And.intro ?_ ?_)) ?_
  refine ⟨fun h1 => ?_, fun h1 => ?_⟩
  · have hkm : k < nsec n := by have : ((2 + k : Nat) : Int) ≤ 2 + (((n - 1) / 16 : Nat) : Int) := of_decide_eq_true h1; omega
    clear h1
    have hlt : 2 + k < S.length := by omega
    have hin : inS S.length ((2 + k : Nat) : Int) = true := inS_iff.2 (by omega)
    rw [rdE, if_pos hin] at hr
    have hap := tT_succ hlt
    have m1 : k + 1 ≤ maxLen := by simp only [maxLen]; omega
    have m2 : (k + 1) * 16 ≤ 140737488355328 := by omega
    generalize rdT S ((2 + k : Nat) : Int) = t at *
    refine rn [(38, .spec ⟨.tup [.c (.s t), .c (iT 0)], [], [(0, some (.ab (dP S W last b)))], []⟩), (42, .dec false)] rfl (by (repeat' (first | exact trivial | exact rfl | exact trivial | exact fun _ => trivial | first | exact hr _ _ rfl | exact m1 | exact m2 | rfl | decide | refine And.intro ?_ ?_))) ?_
    refine roundEnd ⟨k + 1, by omega, by omega⟩ [(2, 4)] (by show nsec n - (k + 1) < nsec n - k; omega) (by (repeat' (first | exact trivial | exact rfl | exact w3 | exact fun _ => w3 | refine And.intro ?_ ?_))) ?_ rfl
    repeat' (first | exact trivial | exact rfl | refine And.intro ?_ ?_)
    · rw [hap, app_eq]; simp [svs]; rfl
  · have hkm : k = nsec n := by have : ¬ ((2 + k : Nat) : Int) ≤ 2 + (((n - 1) / 16 : Nat) : Int) := of_decide_eq_false h1; omega
    clear h1
    subst hkm
    have hTl := tT_len hkS
    refine rn [] rfl (by repeat' (first | exact trivial | exact rfl | refine And.intro ?_ ?_)) (roundExit rfl ?_)
    have hdc := fun (H : HL) (nx : Nat) (h2 : lookH H 2 = some (true, .own 9 1 (nsec n) (svs (tT S (nsec n))))) => tdec_no80 (nx := nx) (tT S (nsec n)) hg hn hTl ht (fun s hs => by rw [hz s (List.mem_of_mem_drop (List.mem_of_mem_take hs))]; decide) (SlR.own (by rw [hTl]; exact h2))
    refine rnA [(49, .spec ⟨.tup [.c .nsl, .c (iT 80)], [], [], []⟩)] rfl (by (repeat' (first | exact trivial | exact rfl | exact trivial | exact fun _ => trivial | first | exact hdc _ _ rfl | rfl | decide | refine And.intro ?_ ?_))) ?_
    exact retM tysOk [(0, 0)] rfl (by repeat' (first | exact trivial | exact rfl | refine And.intro ?_ ?_)) (by repeat' (first | exact trivial | exact rfl | refine And.intro ?_ ?_)) rfl rfl
set_option maxRecDepth 100000 in
set_option maxHeartbeats 4000000 in
theorem ltab_short (hd : lookH H d = some (true, .ab (dP S W last b))) (hD : DOk N S W last) (hg : Gok a bb c) (hn : gregions a bb c = (n : Nat)) (hlen : S.length < 2 + nsec n) :
    FnH Tryz.prog 10 [.c (.nm d), geoT a bb c] H nx ⟨.tup [.c .nsl, .c (iT 80)], [], [(d, some (.ab (dP S W last b)))], []⟩ := by
  have hz := hD.sz
  refine fnAs (fn := Tryz.f10) 52 rfl rfl rfl (args' := [.c (.nm 0), geoT a bb c]) [(d, dP S W last b, dP S W last b)] [] ⟨⟨hd, ptr b, disk_pins _ _ _ _, disk_pins _ _ _ _⟩, trivial⟩ trivial (by simp) rfl rfl rfl rfl (v' := .tup [.c .nsl, .c (iT 80)]) (news' := []) rfl rfl rfl rfl rfl fun w Wh => ?_
  show At _ _ _ _ _ _ [(0, some (true, .ab (dP S W last b)))] 1
  have hck := check0 a bb c
  rw [gcheck, if_pos hg] at hck
  have hre := tregions0 a bb c
  rw [hn] at hre
  obtain ⟨n2, n132⟩ := regions_two hg hn
  have hw1 : IntKind.i64.wrap ((n : Int) - 1) = ((n - 1 : Nat) : Int) := by rw [wrap_sm (by omega) (by omega)]; omega
  have htb := ttableOk0 hg (n - 1) (by omega)
  rw [← hw1] at htb
  have hm : nsec n = (n - 1) / 16 + 1 := by simp only [nsec]; omega
  refine rn [(15, .spec ⟨.t (.c (.b false)), [], [], []⟩)] rfl (by (repeat' (first | exact trivial | exact rfl | exact nilDq2 rfl rfl rfl rfl | exact fun _ => nilDq2 rfl rfl rfl rfl | refine And.intro ?_ ?_))) ?_
  refine ⟨fun h => (by cases h), fun _ => ?_⟩
  refine rn [(17, .ret (.t (.c (iT 0)))), (19, .dec false), (24, .ret (.t (.c (iT (n : Nat))))), (26, .ret (.tup [.c (iT (2 + ((n - 1) / 16 : Nat))), .c (iT ((n - 1) % 16 * 4 : Nat)), .c (iT 0)]))] rfl (by (repeat' (first | exact trivial | exact rfl | exact trivial | exact fun _ => trivial | first | exact hck | exact hre | exact htb | rfl | refine And.intro ?_ ?_))) ?_
  refine At.nil 10 9 1 rfl ?_
  refine At.loop (X := (k : Nat) ×' (k ≤ nsec n ∧ 2 + k ≤ S.length)) 3 (fun x => nsec n - x.1)
    (fun x => [(0, .t (.c (.nm 0))), (3, .t (.c (.p 1 0))), (7, .t (.c (iT (2 + ((n - 1) / 16 : Nat))))), (10, .t (.c (.nm 2))), (11, .t (.c (iT ((2 + x.1 : Nat) : Int))))])
    (fun x => [(0, some (true, .ab (dP S W last b))), (1, some (true, .cells [iT a, iT bb, iT c] 23)), (2, some (true, .own 9 1 x.1 (svs (tT S x.1))))]) ⟨0, by omega, by have := hD.two; have := hD.len; omega⟩ [] (fun x => wf rfl rfl) (by repeat' (first | exact trivial | exact rfl | refine And.intro ?_ ?_)) (by repeat' (first | exact trivial | exact rfl | refine And.intro ?_ ?_)) rfl fun x => ?_
  obtain ⟨k, hk, hkS⟩ := x
  have w3 : IntKind.i64.wrap (((2 + k : Nat) : Int) + 1) = ((2 + (k + 1) : Nat) : Int) := by rw [wrap_sm (by omega) (by omega)]; omega
  have hr := fun (H : HL) (nx : Nat) (h0 : lookH H 0 = some (true, .ab (dP S W last b))) => readA (nx := nx) h0 ((2 + k : Nat) : Int)
  refine rn [] rfl (by repeat' (first | exact trivial | exact rfl | refine And.intro ?_ ?_)) ?_
  refine ⟨fun h1 => ?_, fun h1 => ?_⟩
  · have hkm : k < nsec n := by have : ((2 + k : Nat) : Int) ≤ 2 + (((n - 1) / 16 : Nat) : Int) := of_decide_eq_true h1; omega
    clear h1
    by_cases hlt : 2 + k < S.length
    · have hin : inS S.length ((2 + k : Nat) : Int) = true := inS_iff.2 (by omega)
      rw [rdE, if_pos hin] at hr
      have hap := tT_succ hlt
      have m1 : k + 1 ≤ maxLen := by simp only [maxLen]; omega
      have m2 : (k + 1) * 16 ≤ 140737488355328 := by omega
      generalize rdT S ((2 + k : Nat) : Int) = t at *
      refine rn [(38, .spec ⟨.tup [.c (.s t), .c (iT 0)], [], [(0, some (.ab (dP S W last b)))], []⟩), (42, .dec false)] rfl (by (repeat' (first | exact trivial | exact rfl | exact trivial | exact fun _ => trivial | first | exact hr _ _ rfl | exact m1 | exact m2 | rfl | decide | refine And.intro ?_ ?_))) ?_
      refine roundEnd ⟨k + 1, by omega, by omega⟩ [(2, 4)] (by show nsec n - (k + 1) < nsec n - k; omega) (by (repeat' (first | exact trivial | exact rfl | exact w3 | exact fun _ => w3 | refine And.intro ?_ ?_))) ?_ rfl
      repeat' (first | exact trivial | exact rfl | refine And.intro ?_ ?_)
      · rw [hap, app_eq]; simp [svs]; rfl
    · have hin : inS S.length ((2 + k : Nat) : Int) = false := by
        cases h : inS S.length ((2 + k : Nat) : Int) with
        | false => rfl
        | true => have := inS_iff.1 h; omega
      rw [rdE, if_neg (by rw [hin]; decide)] at hr
      generalize rdT S ((2 + k : Nat) : Int) = t at *
      refine rn [(38, .spec ⟨.tup [.c (.s t), .c (iT 1)], [], [(0, some (.ab (dP S W last b)))], []⟩), (42, .dec true)] rfl (by (repeat' (first | exact trivial | exact rfl | exact trivial | exact fun _ => trivial | first | exact hr _ _ rfl | rfl | decide | refine And.intro ?_ ?_))) ?_
      exact roundRet (retM tysOk [(0, 0)] rfl (by repeat' (first | exact trivial | exact rfl | refine And.intro ?_ ?_)) (by repeat' (first | exact trivial | exact rfl | refine And.intro ?_ ?_)) rfl rfl)
  · have hkm : k = nsec n := by have : ¬ ((2 + k : Nat) : Int) ≤ 2 + (((n - 1) / 16 : Nat) : Int) := of_decide_eq_false h1; omega
    clear h1
    subst hkm
    exact absurd hkS (by omega)
end
end Cw
namespace Cw
open Go Vc
open Go.Proofs
set_option maxRecDepth 100000
/-- The leases of a disk's table, and what is wrong with it. -/
def tbM (S : List ByteArray) (a bb c : Int) : Nat := nsec (gregions a bb c).toNat
def tbL (S : List ByteArray) (a bb c : Int) : List Ls := dl (tT S (tbM S a bb c)) (gregions a bb c).toNat
open Classical in
noncomputable def tbE (S : List ByteArray) (a bb c : Int) : Int := if ¬ Gok a bb c then 4 else if 2 + tbM S a bb c ≤ S.length ∧ Tdok (tT S (tbM S a bb c)) (gregions a bb c).toNat then 0 else 80
theorem tbL_len (S : List ByteArray) (a bb c : Int) : (tbL S a bb c).length = (gregions a bb c).toNat := dl_length _ _
theorem tbL_le (S : List ByteArray) (a bb c : Int) : (tbL S a bb c).length ≤ 132 := by
  rw [tbL_len]
  have := regions_bd a bb c
  omega
noncomputable def snE (S : List ByteArray) (a bb c node : Int) : Int := if tbE S a bb c ≠ 0 then tbE S a bb c else if node < 0 ∨ 2 ≤ node then 1 else 0
theorem snE_ok {S : List ByteArray} {a bb c node : Int} (h : snE S a bb c node = 0) : tbE S a bb c = 0 ∧ 0 ≤ node ∧ node < 2 := by
  unfold snE at h
  split at h
  · rename_i h1; exact absurd h h1
  · rename_i h1
    split at h
    · cases h
    · exact ⟨Decidable.not_not.1 h1, by omega⟩
noncomputable def rgE (S : List ByteArray) (a bb c node r : Int) : Int := if snE S a bb c node ≠ 0 then snE S a bb c node else if r < 0 ∨ ((tbL S a bb c).length : Int) ≤ r then 1 else 0
noncomputable def lsX (S : List ByteArray) (a bb c node r : Int) : Ls := if rgE S a bb c node r = 0 then (tbL S a bb c).getD r.toNat (0, 0) else (0, 0)
section
variable {H : HL} {nx d b N n : Nat} {S : List ByteArray} {W : List (Int × Wr)} {last a bb c : Int}
set_option maxRecDepth 100000 in
set_option maxHeartbeats 4000000 in
theorem ltab_no4 (hd : lookH H d = some (true, .ab (dP S W last b))) (hg : ¬ Gok a bb c) :
    FnH Tryz.prog 10 [.c (.nm d), geoT a bb c] H nx ⟨.tup [.c .nsl, .c (iT 4)], [], [(d, some (.ab (dP S W last b)))], []⟩ := by
  refine fnAs (fn := Tryz.f10) 52 rfl rfl rfl (args' := [.c (.nm 0), geoT a bb c]) [(d, dP S W last b, dP S W last b)] [] ⟨⟨hd, ptr b, disk_pins _ _ _ _, disk_pins _ _ _ _⟩, trivial⟩ trivial (by simp) rfl rfl rfl rfl (v' := .tup [.c .nsl, .c (iT 4)]) (news' := []) rfl rfl rfl rfl rfl fun w Wh => ?_
  show At _ _ _ _ _ _ [(0, some (true, .ab (dP S W last b)))] 1
  have hck := check0 a bb c
  rw [gcheck, if_neg hg] at hck
  refine rn [(15, .spec ⟨.t (.c (.b false)), [], [], []⟩)] rfl (by (repeat' (first | exact trivial | exact rfl | exact nilDq2 rfl rfl rfl rfl | exact fun _ => nilDq2 rfl rfl rfl rfl | refine And.intro ?_ ?_))) ?_
  refine ⟨fun h => (by cases h), fun _ => ?_⟩
  refine rn [(17, .ret (.t (.c (iT 4)))), (19, .dec true)] rfl (by (repeat' (first | exact trivial | exact rfl | exact trivial | exact fun _ => trivial | first | exact hck | rfl | refine And.intro ?_ ?_))) ?_
  exact retM tysOk [(0, 0)] rfl (by repeat' (first | exact trivial | exact rfl | refine And.intro ?_ ?_)) (by repeat' (first | exact trivial | exact rfl | refine And.intro ?_ ?_)) rfl rfl
theorem ltabE (hd : lookH H d = some (true, .ab (dP S W last b))) (hD : DOk N S W last) {e : Int} (he : tbE S a bb c = e) (h0 : e ≠ 0) :
    FnH Tryz.prog 10 [.c (.nm d), geoT a bb c] H nx ⟨.tup [.c .nsl, .c (iT e)], [], [(d, some (.ab (dP S W last b)))], []⟩ := by
  subst he
  unfold tbE at *
  by_cases hg : Gok a bb c
  · rw [if_neg (fun h => h hg)] at h0 ⊢
    have hn := regions_nat a bb c
    by_cases hl : 2 + tbM S a bb c ≤ S.length
    · by_cases ht : Tdok (tT S (tbM S a bb c)) (gregions a bb c).toNat
      · rw [if_pos ⟨hl, ht⟩] at h0; exact absurd rfl h0
      · rw [if_neg (fun h => ht h.2)]
        exact ltab_bad hd hD hg hn hl ht
    · rw [if_neg (fun h => hl h.1)]
      exact ltab_short hd hD hg hn (by have : ¬ 2 + nsec (gregions a bb c).toNat ≤ S.length := hl; omega)
  · rw [if_pos hg]
    exact ltab_no4 hd hg
theorem ltabO (hd : lookH H d = some (true, .ab (dP S W last b))) (hD : DOk N S W last) (he : tbE S a bb c = 0) :
    FnH Tryz.prog 10 [.c (.nm d), geoT a bb c] H nx ⟨.tup [.c (.nm nx), .c (iT 0)], [(true, .own 46 2 (tbL S a bb c).length (lcells (tbL S a bb c)))], [(d, some (.ab (dP S W last b)))], []⟩ := by
  unfold tbE at he
  split at he
  · cases he
  · rename_i hg
    split at he
    · rename_i h
      rw [tbL_len]
      exact ltab_ok hd hD (Decidable.not_not.1 hg) (regions_nat a bb c) h.1 h.2
    · cases he
set_option maxRecDepth 100000 in
set_option maxHeartbeats 4000000 in
theorem lseenO (hd : lookH H d = some (true, .ab (dP S W last b))) (hD : DOk N S W last) {node : Int} (he : snE S a bb c node = 0) :
    FnH Tryz.prog 70 [.c (.nm d), geoT a bb c, .c (iT node)] H nx ⟨.tup [.c (.nm nx), .c (iT 0)], [(true, .own 46 2 (tbL S a bb c).length (lcells (tbL S a bb c)))], [(d, some (.ab (dP S W last b)))], []⟩ := by
  obtain ⟨h0, n0, n2⟩ := snE_ok he
  refine fnAs (fn := Tryz.f70) 28 rfl rfl rfl (args' := [.c (.nm 0), geoT a bb c, .c (iT node)]) [(d, dP S W last b, dP S W last b)] [] ⟨⟨hd, ptr b, disk_pins _ _ _ _, disk_pins _ _ _ _⟩, trivial⟩ trivial (by simp) rfl rfl rfl rfl (v' := .tup [.c (.nm 1), .c (iT 0)]) (news' := [(true, .own 46 2 (tbL S a bb c).length (lcells (tbL S a bb c)))]) rfl rfl rfl rfl rfl fun w Wh => ?_
  show At _ _ _ _ _ _ [(0, some (true, .ab (dP S W last b)))] 1
  have ht := fun (H : HL) (nx : Nat) (h0' : lookH H 0 = some (true, .ab (dP S W last b))) => ltabO (nx := nx) h0' hD h0
  generalize tbL S a bb c = L at *
  have g1 : (decide (node < 0) || decide (2 ≤ node)) = false := by rw [Bool.or_eq_false_iff]; exact ⟨decide_eq_false (by omega), decide_eq_false (by omega)⟩
  refine rn [(13, .spec ⟨.tup [.c (.nm 2), .c (iT 0)], [(true, .own 46 2 L.length (lcells L))], [(0, some (.ab (dP S W last b)))], []⟩), (16, .dec false), (20, .dec false)] rfl (by (repeat' (first | exact trivial | exact rfl | exact trivial | exact fun _ => trivial | first | exact ht _ _ rfl | exact g1 | rfl | decide | refine And.intro ?_ ?_))) ?_
  exact retM tysOk [(0, 0), (1, 2)] rfl (by repeat' (first | exact trivial | exact rfl | refine And.intro ?_ ?_)) (by repeat' (first | exact trivial | exact rfl | refine And.intro ?_ ?_)) rfl rfl
set_option maxRecDepth 100000 in
set_option maxHeartbeats 4000000 in
theorem lseenE (hd : lookH H d = some (true, .ab (dP S W last b))) (hD : DOk N S W last) {node e : Int} (he : snE S a bb c node = e) (h0 : e ≠ 0) :
    FnH Tryz.prog 70 [.c (.nm d), geoT a bb c, .c (iT node)] H nx ⟨.tup [.c .nsl, .c (iT e)], [], [(d, some (.ab (dP S W last b)))], []⟩ := by
  refine fnAs (fn := Tryz.f70) 28 rfl rfl rfl (args' := [.c (.nm 0), geoT a bb c, .c (iT node)]) [(d, dP S W last b, dP S W last b)] [] ⟨⟨hd, ptr b, disk_pins _ _ _ _, disk_pins _ _ _ _⟩, trivial⟩ trivial (by simp) rfl rfl rfl rfl (v' := .tup [.c .nsl, .c (iT e)]) (news' := []) rfl rfl rfl rfl rfl fun w Wh => ?_
  show At _ _ _ _ _ _ [(0, some (true, .ab (dP S W last b)))] 1
  by_cases ht0 : tbE S a bb c = 0
  · have ht := fun (H : HL) (nx : Nat) (h0' : lookH H 0 = some (true, .ab (dP S W last b))) => ltabO (nx := nx) h0' hD ht0
    generalize tbL S a bb c = L at *
    rw [snE, if_neg (fun h => h ht0)] at he
    split at he
    · rename_i hn
      subst he
      have g1 : (decide (node < 0) || decide (2 ≤ node)) = true := by rw [Bool.or_eq_true, decide_eq_true_eq, decide_eq_true_eq]; exact hn
      refine rn [(13, .spec ⟨.tup [.c (.nm 2), .c (iT 0)], [(true, .own 46 2 L.length (lcells L))], [(0, some (.ab (dP S W last b)))], []⟩), (16, .dec false), (20, .dec true)] rfl (by (repeat' (first | exact trivial | exact rfl | exact trivial | exact fun _ => trivial | first | exact ht _ _ rfl | exact g1 | rfl | decide | refine And.intro ?_ ?_))) ?_
      exact retM tysOk [(0, 0)] rfl (by repeat' (first | exact trivial | exact rfl | refine And.intro ?_ ?_)) (by repeat' (first | exact trivial | exact rfl | refine And.intro ?_ ?_)) rfl rfl
    · exact absurd he.symm h0
  · rw [snE, if_pos ht0] at he
    have ht := fun (H : HL) (nx : Nat) (h0' : lookH H 0 = some (true, .ab (dP S W last b))) => ltabE (nx := nx) h0' hD he h0
    have g1 : (e != 0) = true := by simpa using h0
    refine rn [(13, .spec ⟨.tup [.c .nsl, .c (iT e)], [], [(0, some (.ab (dP S W last b)))], []⟩), (16, .dec true)] rfl (by (repeat' (first | exact trivial | exact rfl | exact trivial | exact fun _ => trivial | first | exact ht _ _ rfl | exact g1 | rfl | decide | refine And.intro ?_ ?_))) ?_
    exact retM tysOk [(0, 0)] rfl (by repeat' (first | exact trivial | exact rfl | refine And.intro ?_ ?_)) (by repeat' (first | exact trivial | exact rfl | refine And.intro ?_ ?_)) rfl rfl
/-- What a node holds. -/
def hdL (S : List ByteArray) (a bb c o : Int) : List Int := held (tbL S a bb c) o (tbL S a bb c).length
set_option maxRecDepth 100000 in
set_option maxHeartbeats 4000000 in
theorem lheldO (hd : lookH H d = some (true, .ab (dP S W last b))) (hD : DOk N S W last) {node : Int} (he : snE S a bb c node = 0) :
    FnH Tryz.prog 21 [.c (.nm d), geoT a bb c, .c (iT node)] H nx ⟨.tup [.c (.nm nx), .c (iT 0)], [(true, .own 3 1 (hdL S a bb c (node + 1)).length (ivs (hdL S a bb c (node + 1))))], [(d, some (.ab (dP S W last b)))], []⟩ := by
  obtain ⟨h0, n0, n2⟩ := snE_ok he
  refine fnAs (fn := Tryz.f21) 24 rfl rfl rfl (args' := [.c (.nm 0), geoT a bb c, .c (iT node)]) [(d, dP S W last b, dP S W last b)] [] ⟨⟨hd, ptr b, disk_pins _ _ _ _, disk_pins _ _ _ _⟩, trivial⟩ trivial (by simp) rfl rfl rfl rfl (v' := .tup [.c (.nm 1), .c (iT 0)]) (news' := [(true, .own 3 1 (hdL S a bb c (node + 1)).length (ivs (hdL S a bb c (node + 1))))]) rfl rfl rfl rfl rfl fun w Wh => ?_
  show At _ _ _ _ _ _ [(0, some (true, .ab (dP S W last b)))] 1
  have ht := fun (H : HL) (nx : Nat) (h0' : lookH H 0 = some (true, .ab (dP S W last b))) => lseenO (nx := nx) h0' hD he
  have hl := tbL_le S a bb c
  have w1 : IntKind.i64.wrap (node + 1) = node + 1 := wrap_sm (by omega) (by omega)
  unfold hdL
  generalize tbL S a bb c = L at *
  have hh := fun (H : HL) (nx : Nat) (h2 : lookH H 2 = some (true, .own 46 2 L.length (lcells L))) => theld_h (nx := nx) L (node + 1) (by omega) (SlR.own h2)
  have hh' := hh
  rw [← w1] at hh
  rw [w1] at hh
  have hh2 : ∀ (H : HL) (nx : Nat) (h2 : lookH H 2 = some (true, .own 46 2 L.length (lcells L))), FnH Tryz.prog 71 [.c (.nm 2), .c (iT (IntKind.i64.wrap (node + 1)))] H nx ⟨.t (.c (.nm nx)), [(true, .own 3 1 (held L (node + 1) L.length).length (ivs (held L (node + 1) L.length)))], [], []⟩ := by rw [w1]; exact hh'
  refine rn [(14, .spec ⟨.tup [.c (.nm 2), .c (iT 0)], [(true, .own 46 2 L.length (lcells L))], [(0, some (.ab (dP S W last b)))], []⟩), (18, .dec false), (23, .spec ⟨.t (.c (.nm 3)), [(true, .own 3 1 (held L (node + 1) L.length).length (ivs (held L (node + 1) L.length)))], [], []⟩)] rfl (by (repeat' (first | exact trivial | exact rfl | exact trivial | exact fun _ => trivial | first | exact ht _ _ rfl | exact hh2 _ _ rfl | rfl | decide | refine And.intro ?_ ?_))) ?_
  exact retM tysOk [(0, 0), (1, 3)] rfl (by repeat' (first | exact trivial | exact rfl | refine And.intro ?_ ?_)) (by repeat' (first | exact trivial | exact rfl | refine And.intro ?_ ?_)) rfl rfl
set_option maxRecDepth 100000 in
set_option maxHeartbeats 4000000 in
theorem lheldE (hd : lookH H d = some (true, .ab (dP S W last b))) (hD : DOk N S W last) {node e : Int} (he : snE S a bb c node = e) (h0 : e ≠ 0) :
    FnH Tryz.prog 21 [.c (.nm d), geoT a bb c, .c (iT node)] H nx ⟨.tup [.c .nsl, .c (iT e)], [], [(d, some (.ab (dP S W last b)))], []⟩ := by
  refine fnAs (fn := Tryz.f21) 24 rfl rfl rfl (args' := [.c (.nm 0), geoT a bb c, .c (iT node)]) [(d, dP S W last b, dP S W last b)] [] ⟨⟨hd, ptr b, disk_pins _ _ _ _, disk_pins _ _ _ _⟩, trivial⟩ trivial (by simp) rfl rfl rfl rfl (v' := .tup [.c .nsl, .c (iT e)]) (news' := []) rfl rfl rfl rfl rfl fun w Wh => ?_
  show At _ _ _ _ _ _ [(0, some (true, .ab (dP S W last b)))] 1
  have ht := fun (H : HL) (nx : Nat) (h0' : lookH H 0 = some (true, .ab (dP S W last b))) => lseenE (nx := nx) h0' hD he h0
  have g1 : (e != 0) = true := by simpa using h0
  refine rn [(14, .spec ⟨.tup [.c .nsl, .c (iT e)], [], [(0, some (.ab (dP S W last b)))], []⟩), (18, .dec true)] rfl (by (repeat' (first | exact trivial | exact rfl | exact trivial | exact fun _ => trivial | first | exact ht _ _ rfl | exact g1 | rfl | decide | refine And.intro ?_ ?_))) ?_
  exact retM tysOk [(0, 0)] rfl (by repeat' (first | exact trivial | exact rfl | refine And.intro ?_ ?_)) (by repeat' (first | exact trivial | exact rfl | refine And.intro ?_ ?_)) rfl rfl
/-- Who turns leases. -/
def hdT (d : Nat) (a bb c node ep : Int) : TV := .agg [.nm d, iT a, iT bb, iT c, iT node, iT ep]
set_option maxRecDepth 100000 in
set_option maxHeartbeats 4000000 in
/-- A region's lease. -/
theorem lease_h (hd : lookH H d = some (true, .ab (dP S W last b))) (hD : DOk N S W last) (node ep r : Int) :
    FnH Tryz.prog 60 [hdT d a bb c node ep, .c (iT r)] H nx ⟨.tup [lT (lsX S a bb c node r), .c (iT (rgE S a bb c node r))], [], [(d, some (.ab (dP S W last b)))], []⟩ := by
  refine fnAs (fn := Tryz.f60) 37 rfl rfl rfl (args' := [hdT 0 a bb c node ep, .c (iT r)]) [(d, dP S W last b, dP S W last b)] [] ⟨⟨hd, ptr b, disk_pins _ _ _ _, disk_pins _ _ _ _⟩, trivial⟩ trivial (by simp) rfl rfl rfl rfl (v' := .tup [lT (lsX S a bb c node r), .c (iT (rgE S a bb c node r))]) (news' := []) rfl rfl rfl rfl rfl fun w Wh => ?_
  show At _ _ _ _ _ _ [(0, some (true, .ab (dP S W last b)))] 1
  by_cases hs : snE S a bb c node = 0
  · have ht := fun (H : HL) (nx : Nat) (h0' : lookH H 0 = some (true, .ab (dP S W last b))) => lseenO (nx := nx) h0' hD hs
    by_cases hr : r < 0 ∨ ((tbL S a bb c).length : Int) ≤ r
    · have e1 : rgE S a bb c node r = 1 := by rw [rgE, if_neg (fun h => h hs), if_pos hr]
      have e2 : lsX S a bb c node r = (0, 0) := by rw [lsX, e1]; rfl
      rw [e1, e2]
      generalize tbL S a bb c = L at *
      have g1 : (decide (r < 0) || decide ((L.length : Int) ≤ r)) = true := by rw [Bool.or_eq_true, decide_eq_true_eq, decide_eq_true_eq]; exact hr
      refine rn [(15, .spec ⟨.tup [.c (.nm 3), .c (iT 0)], [(true, .own 46 2 L.length (lcells L))], [(0, some (.ab (dP S W last b)))], []⟩), (18, .dec false), (23, .dec true)] rfl (by (repeat' (first | exact trivial | exact rfl | exact trivial | exact fun _ => trivial | first | exact ht _ _ rfl | exact g1 | rfl | decide | refine And.intro ?_ ?_))) ?_
      exact retM tysOk [(0, 0)] rfl (by repeat' (first | exact trivial | exact rfl | refine And.intro ?_ ?_)) (by repeat' (first | exact trivial | exact rfl | refine And.intro ?_ ?_)) rfl rfl
    · have e1 : rgE S a bb c node r = 0 := by rw [rgE, if_neg (fun h => h hs), if_neg hr]
      have hlt : r.toNat < (tbL S a bb c).length := by omega
      have e2 : lsX S a bb c node r = (tbL S a bb c)[r.toNat] := by rw [lsX, if_pos e1, List.getD_eq_getElem?_getD, List.getElem?_eq_getElem hlt]; rfl
      rw [e1, e2]
      generalize tbL S a bb c = L at *
      have g1 : (decide (r < 0) || decide ((L.length : Int) ≤ r)) = false := by rw [Bool.or_eq_false_iff]; exact ⟨decide_eq_false (by omega), decide_eq_false (by omega)⟩
      have r1 := lcells_get L r.toNat hlt
      have b0 : (0 : Int) ≤ r := by omega
      have b1 : r < (L.length : Int) := by omega
      have c5 : r.toNat * 2 < (lcells L).length := by rw [lcells_length]; omega
      refine rn [(15, .spec ⟨.tup [.c (.nm 3), .c (iT 0)], [(true, .own 46 2 L.length (lcells L))], [(0, some (.ab (dP S W last b)))], []⟩), (18, .dec false), (23, .dec false), (36, .ld [iT L[r.toNat].1, iT L[r.toNat].2])] rfl (by (repeat' (first | exact trivial | exact rfl | exact trivial | exact fun _ => trivial | first | exact ht _ _ rfl | exact g1 | exact ⟨r1.1, r1.2, trivial⟩ | exact b0 | exact b1 | exact c5 | rfl | decide | refine And.intro ?_ ?_))) ?_
      exact retM tysOk [(0, 0)] rfl (by repeat' (first | exact trivial | exact rfl | refine And.intro ?_ ?_)) (by repeat' (first | exact trivial | exact rfl | refine And.intro ?_ ?_)) rfl rfl
  · have e1 : rgE S a bb c node r = snE S a bb c node := if_pos hs
    have e2 : lsX S a bb c node r = (0, 0) := by rw [lsX, e1, if_neg hs]
    have ht := fun (H : HL) (nx : Nat) (h0' : lookH H 0 = some (true, .ab (dP S W last b))) => lseenE (nx := nx) h0' hD rfl hs
    rw [e1, e2]
    generalize snE S a bb c node = e at *
    have g1 : (e != 0) = true := by simpa using hs
    refine rn [(15, .spec ⟨.tup [.c .nsl, .c (iT e)], [], [(0, some (.ab (dP S W last b)))], []⟩), (18, .dec true)] rfl (by (repeat' (first | exact trivial | exact rfl | exact trivial | exact fun _ => trivial | first | exact ht _ _ rfl | exact g1 | rfl | decide | refine And.intro ?_ ?_))) ?_
    exact retM tysOk [(0, 0)] rfl (by repeat' (first | exact trivial | exact rfl | refine And.intro ?_ ?_)) (by repeat' (first | exact trivial | exact rfl | refine And.intro ?_ ?_)) rfl rfl
end
end Cw
namespace Cw
open Go Vc
open Go.Proofs
set_option maxRecDepth 100000
theorem tpp_size (a bb c r o s : Int) : (tpp a bb c r o s).2.size ≤ 9223372036854775807 := by
  unfold tpp
  split
  · show (S (le 4 _)).size ≤ _
    rw [S_size]
    have := le_length 4 (lv o s)
    omega
  · decide
/-- A lease is turned. -/
def tnE (S : List ByteArray) (a bb c node ep r : Int) (x : Ls) (o : Int) : Int :=
  if gve x o ≠ 0 then gve x o else if tpe a bb c r x.1 x.2 ≠ 0 then tpe a bb c r x.1 x.2 else if tpe a bb c r (gvx x o).1 (gvx x o).2 ≠ 0 then tpe a bb c r (gvx x o).1 (gvx x o).2
  else swE S node ep (tps a bb c r x.1 x.2) (tpp a bb c r x.1 x.2) (tpp a bb c r (gvx x o).1 (gvx x o).2)
def tnS (S : List ByteArray) (a bb c node ep r : Int) (x : Ls) (o : Int) : List ByteArray :=
  if gve x o ≠ 0 then S else if tpe a bb c r x.1 x.2 ≠ 0 then S else if tpe a bb c r (gvx x o).1 (gvx x o).2 ≠ 0 then S
  else swS S node ep (tps a bb c r x.1 x.2) (tpp a bb c r x.1 x.2) (tpp a bb c r (gvx x o).1 (gvx x o).2)
theorem DOk.tn {N : Nat} {S : List ByteArray} {W : List (Int × Wr)} {last : Int} (h : DOk N S W last) (a bb c node ep r : Int) (x : Ls) (o : Int) : DOk N (tnS S a bb c node ep r x o) W last := by
  unfold tnS
  split
  · exact h
  · split
    · exact h
    · split
      · exact h
      · exact h.sw _ _ _ _ _
theorem ne_b {e : Int} (h : e ≠ 0) : (e != 0) = true := by simpa using h
section
variable {H : HL} {nx d b N n : Nat} {S : List ByteArray} {W : List (Int × Wr)} {last a bb c : Int}
set_option maxRecDepth 100000 in
set_option maxHeartbeats 8000000 in
theorem turn_h (hd : lookH H d = some (true, .ab (dP S W last b))) (hD : DOk N S W last) (node ep r : Int) (x : Ls) (o : Int) :
    FnH Tryz.prog 61 [hdT d a bb c node ep, .c (iT r), lT x, .c (iT o)] H nx ⟨.t (.c (iT (tnE S a bb c node ep r x o))), [], [(d, some (.ab (dP (tnS S a bb c node ep r x o) W last b)))], []⟩ := by
  refine fnAs (fn := Tryz.f61) 62 rfl rfl rfl (args' := [hdT 0 a bb c node ep, .c (iT r), lT x, .c (iT o)]) [(d, dP S W last b, dP (tnS S a bb c node ep r x o) W last b)] [] ⟨⟨hd, ptr b, disk_pins _ _ _ _, disk_pins _ _ _ _⟩, trivial⟩ trivial (by simp) rfl rfl rfl rfl (v' := .t (.c (iT (tnE S a bb c node ep r x o)))) (news' := []) rfl rfl rfl rfl rfl fun w Wh => ?_
  show At _ _ _ _ _ _ [(0, some (true, .ab (dP S W last b)))] 1
  have hg := tgive0 x o
  have hp := tput0 a bb c r x
  have hq := tput0 a bb c r (gvx x o)
  have z1 := tpp_size a bb c r x.1 x.2
  have z2 := tpp_size a bb c r (gvx x o).1 (gvx x o).2
  have hsw := fun (H : HL) (nx : Nat) (h0 : lookH H 0 = some (true, .ab (dP S W last b))) => swapA (nx := nx) h0 hD node ep (tps a bb c r x.1 x.2) (tpp a bb c r x.1 x.2) (tpp a bb c r (gvx x o).1 (gvx x o).2) z1 z2
  unfold tnE tnS
  generalize gve x o = ge at *
  generalize gvx x o = y at *
  generalize tpe a bb c r x.1 x.2 = e1 at *
  generalize tpe a bb c r y.1 y.2 = e2 at *
  generalize tps a bb c r x.1 x.2 = k1 at *
  generalize tps a bb c r y.1 y.2 = k2 at *
  generalize tpp a bb c r x.1 x.2 = p1 at *
  generalize tpp a bb c r y.1 y.2 = p2 at *
  by_cases h0 : ge = 0
  · by_cases h1 : e1 = 0
    · by_cases h2 : e2 = 0
      · subst h0 h1 h2
        simp only [ne_eq, not_true_eq_false, if_false]
        refine rn [(18, .ret (.tup [lT y, .c (iT 0)])), (22, .dec false), (29, .ret (.tup [.c (iT k1), ptT p1, .c (iT 0)])), (34, .dec false), (41, .ret (.tup [.c (iT k2), ptT p2, .c (iT 0)])), (46, .dec false), (58, .spec ⟨.tup [.c (.b (swB S node ep k1 p1 p2)), .c (iT (swE S node ep k1 p1 p2))], [], [(0, some (.ab (dP (swS S node ep k1 p1 p2) W last b)))], []⟩)] rfl (by (repeat' (first | exact trivial | exact rfl | exact trivial | exact fun _ => trivial | first | exact hg | exact hp | exact hq | exact hsw _ _ rfl | rfl | decide | refine And.intro ?_ ?_))) ?_
        exact retM tysOk [(0, 0)] rfl (by repeat' (first | exact trivial | exact rfl | refine And.intro ?_ ?_)) (by repeat' (first | exact trivial | exact rfl | refine And.intro ?_ ?_)) rfl rfl
      · subst h0 h1
        simp only [ne_eq, not_true_eq_false, if_false, h2, not_false_eq_true, if_true]
        refine rn [(18, .ret (.tup [lT y, .c (iT 0)])), (22, .dec false), (29, .ret (.tup [.c (iT k1), ptT p1, .c (iT 0)])), (34, .dec false), (41, .ret (.tup [.c (iT k2), ptT p2, .c (iT e2)])), (46, .dec true)] rfl (by (repeat' (first | exact trivial | exact rfl | exact trivial | exact fun _ => trivial | first | exact hg | exact hp | exact hq | exact ne_b h2 | rfl | decide | refine And.intro ?_ ?_))) ?_
        exact retM tysOk [(0, 0)] rfl (by repeat' (first | exact trivial | exact rfl | refine And.intro ?_ ?_)) (by repeat' (first | exact trivial | exact rfl | refine And.intro ?_ ?_)) rfl rfl
    · subst h0
      simp only [ne_eq, not_true_eq_false, if_false, h1, not_false_eq_true, if_true]
      refine rn [(18, .ret (.tup [lT y, .c (iT 0)])), (22, .dec false), (29, .ret (.tup [.c (iT k1), ptT p1, .c (iT e1)])), (34, .dec true)] rfl (by (repeat' (first | exact trivial | exact rfl | exact trivial | exact fun _ => trivial | first | exact hg | exact hp | exact ne_b h1 | rfl | decide | refine And.intro ?_ ?_))) ?_
      exact retM tysOk [(0, 0)] rfl (by repeat' (first | exact trivial | exact rfl | refine And.intro ?_ ?_)) (by repeat' (first | exact trivial | exact rfl | refine And.intro ?_ ?_)) rfl rfl
  · simp only [ne_eq, h0, not_false_eq_true, if_true]
    refine rn [(18, .ret (.tup [lT y, .c (iT ge)])), (22, .dec true)] rfl (by (repeat' (first | exact trivial | exact rfl | exact trivial | exact fun _ => trivial | first | exact hg | exact ne_b h0 | rfl | decide | refine And.intro ?_ ?_))) ?_
    exact retM tysOk [(0, 0)] rfl (by repeat' (first | exact trivial | exact rfl | refine And.intro ?_ ?_)) (by repeat' (first | exact trivial | exact rfl | refine And.intro ?_ ?_)) rfl rfl
end
/-- A region is claimed. -/
noncomputable def clE (S : List ByteArray) (a bb c node ep r : Int) : Int :=
  if rgE S a bb c node r ≠ 0 then rgE S a bb c node r else if (lsX S a bb c node r).1 = node + 1 then 0 else if 0 < (lsX S a bb c node r).1 then 230 else tnE S a bb c node ep r (lsX S a bb c node r) (node + 1)
noncomputable def clS (S : List ByteArray) (a bb c node ep r : Int) : List ByteArray :=
  if rgE S a bb c node r ≠ 0 then S else if (lsX S a bb c node r).1 = node + 1 then S else if 0 < (lsX S a bb c node r).1 then S else tnS S a bb c node ep r (lsX S a bb c node r) (node + 1)
/-- A region goes away. -/
noncomputable def awE (S : List ByteArray) (a bb c node ep r o : Int) : Int :=
  if rgE S a bb c node r ≠ 0 then rgE S a bb c node r else if (lsX S a bb c node r).1 ≠ node + 1 then 230 else tnE S a bb c node ep r (lsX S a bb c node r) o
noncomputable def awS (S : List ByteArray) (a bb c node ep r o : Int) : List ByteArray :=
  if rgE S a bb c node r ≠ 0 then S else if (lsX S a bb c node r).1 ≠ node + 1 then S else tnS S a bb c node ep r (lsX S a bb c node r) o
theorem lsE_node {S : List ByteArray} {a bb c node r : Int} (h : rgE S a bb c node r = 0) : snE S a bb c node = 0 ∧ 0 ≤ node ∧ node < 2 ∧ 0 ≤ r ∧ r < ((tbL S a bb c).length : Int) := by
  unfold rgE at h
  split at h
  · rename_i h1; exact absurd h h1
  · rename_i h1
    have h2 := snE_ok (Decidable.not_not.1 h1)
    split at h
    · cases h
    · exact ⟨Decidable.not_not.1 h1, by omega, by omega, by omega, by omega⟩
section
variable {H : HL} {nx d b N n : Nat} {S : List ByteArray} {W : List (Int × Wr)} {last a bb c : Int}
set_option maxRecDepth 100000 in
set_option maxHeartbeats 8000000 in
theorem claim_h (hd : lookH H d = some (true, .ab (dP S W last b))) (hD : DOk N S W last) (node ep r : Int) :
    FnH Tryz.prog 12 [.c (.nm d), geoT a bb c, .c (iT node), .c (iT ep), .c (iT r)] H nx ⟨.t (.c (iT (clE S a bb c node ep r))), [], [(d, some (.ab (dP (clS S a bb c node ep r) W last b)))], []⟩ := by
  refine fnAs (fn := Tryz.f12) 46 rfl rfl rfl (args' := [.c (.nm 0), geoT a bb c, .c (iT node), .c (iT ep), .c (iT r)]) [(d, dP S W last b, dP (clS S a bb c node ep r) W last b)] [] ⟨⟨hd, ptr b, disk_pins _ _ _ _, disk_pins _ _ _ _⟩, trivial⟩ trivial (by simp) rfl rfl rfl rfl (v' := .t (.c (iT (clE S a bb c node ep r)))) (news' := []) rfl rfl rfl rfl rfl fun w Wh => ?_
  show At _ _ _ _ _ _ [(0, some (true, .ab (dP S W last b)))] 1
  have hl := fun (H : HL) (nx : Nat) (h0 : lookH H 0 = some (true, .ab (dP S W last b))) => lease_h (nx := nx) (a := a) (bb := bb) (c := c) h0 hD node ep r
  have ht := fun (H : HL) (nx : Nat) (h0 : lookH H 0 = some (true, .ab (dP S W last b))) => turn_h (nx := nx) (a := a) (bb := bb) (c := c) h0 hD node ep r (lsX S a bb c node r) (node + 1)
  have hnd := fun h => lsE_node (S := S) (a := a) (bb := bb) (c := c) (node := node) (r := r) h
  unfold clE clS
  generalize tnE S a bb c node ep r (lsX S a bb c node r) (node + 1) = te at *
  generalize tnS S a bb c node ep r (lsX S a bb c node r) (node + 1) = tS at *
  generalize lsX S a bb c node r = x at *
  generalize rgE S a bb c node r = e at *
  by_cases h0 : e = 0
  · obtain ⟨_, n0, n2, _, _⟩ := hnd h0
    have w1 : IntKind.i64.wrap (node + 1) = node + 1 := wrap_sm (by omega) (by omega)
    have ht2 : ∀ (H : HL) (nx : Nat) (h0 : lookH H 0 = some (true, .ab (dP S W last b))), FnH Tryz.prog 61 [hdT 0 a bb c node ep, .c (iT r), lT x, .c (iT (IntKind.i64.wrap (node + 1)))] H nx ⟨.t (.c (iT te)), [], [(0, some (.ab (dP tS W last b)))], []⟩ := by rw [w1]; exact ht
    subst h0
    by_cases h1 : x.1 = node + 1
    · simp only [ne_eq, not_true_eq_false, if_false, h1, if_true]
      have g1 : (x.1 == IntKind.i64.wrap (node + 1)) = true := by rw [w1, h1]; simp
      refine rn [(22, .spec ⟨.tup [lT x, .c (iT 0)], [], [(0, some (.ab (dP S W last b)))], []⟩), (28, .dec false), (25, .dec true)] rfl (by (repeat' (first | exact trivial | exact rfl | exact trivial | exact fun _ => trivial | first | exact hl _ _ rfl | exact g1 | rfl | decide | refine And.intro ?_ ?_))) ?_
      exact retM tysOk [(0, 0)] rfl (by repeat' (first | exact trivial | exact rfl | refine And.intro ?_ ?_)) (by repeat' (first | exact trivial | exact rfl | refine And.intro ?_ ?_)) rfl rfl
    · simp only [ne_eq, not_true_eq_false, if_false, h1]
      have g1 : (x.1 == IntKind.i64.wrap (node + 1)) = false := by rw [w1]; simpa using h1
      by_cases h2 : 0 < x.1
      · simp only [h2, if_true]
        have g2 : decide (x.1 > 0) = true := decide_eq_true h2
        refine rn [(22, .spec ⟨.tup [lT x, .c (iT 0)], [], [(0, some (.ab (dP S W last b)))], []⟩), (28, .dec false), (25, .dec false), (36, .dec true)] rfl (by (repeat' (first | exact trivial | exact rfl | exact trivial | exact fun _ => trivial | first | exact hl _ _ rfl | exact g1 | exact g2 | rfl | decide | refine And.intro ?_ ?_))) ?_
        exact retM tysOk [(0, 0)] rfl (by repeat' (first | exact trivial | exact rfl | refine And.intro ?_ ?_)) (by repeat' (first | exact trivial | exact rfl | refine And.intro ?_ ?_)) rfl rfl
      · simp only [h2, if_false]
        have g2 : decide (x.1 > 0) = false := decide_eq_false h2
        refine rn [(22, .spec ⟨.tup [lT x, .c (iT 0)], [], [(0, some (.ab (dP S W last b)))], []⟩), (28, .dec false), (25, .dec false), (36, .dec false), (45, .spec ⟨.t (.c (iT te)), [], [(0, some (.ab (dP tS W last b)))], []⟩)] rfl (by (repeat' (first | exact trivial | exact rfl | exact trivial | exact fun _ => trivial | first | exact hl _ _ rfl | exact g1 | exact g2 | exact ht2 _ _ rfl | rfl | decide | refine And.intro ?_ ?_))) ?_
        exact retM tysOk [(0, 0)] rfl (by repeat' (first | exact trivial | exact rfl | refine And.intro ?_ ?_)) (by repeat' (first | exact trivial | exact rfl | refine And.intro ?_ ?_)) rfl rfl
  · simp only [ne_eq, h0, not_false_eq_true, if_true]
    refine rn [(22, .spec ⟨.tup [lT x, .c (iT e)], [], [(0, some (.ab (dP S W last b)))], []⟩), (28, .dec true), (25, .dec true)] rfl (by (repeat' (first | exact trivial | exact rfl | exact trivial | exact fun _ => trivial | first | exact hl _ _ rfl | exact ne_b h0 | rfl | decide | refine And.intro ?_ ?_))) ?_
    exact retM tysOk [(0, 0)] rfl (by repeat' (first | exact trivial | exact rfl | refine And.intro ?_ ?_)) (by repeat' (first | exact trivial | exact rfl | refine And.intro ?_ ?_)) rfl rfl
set_option maxRecDepth 100000 in
set_option maxHeartbeats 8000000 in
theorem away_h (hd : lookH H d = some (true, .ab (dP S W last b))) (hD : DOk N S W last) (node ep r o : Int) :
    FnH Tryz.prog 62 [hdT d a bb c node ep, .c (iT r), .c (iT o)] H nx ⟨.t (.c (iT (awE S a bb c node ep r o))), [], [(d, some (.ab (dP (awS S a bb c node ep r o) W last b)))], []⟩ := by
  refine fnAs (fn := Tryz.f62) 31 rfl rfl rfl (args' := [hdT 0 a bb c node ep, .c (iT r), .c (iT o)]) [(d, dP S W last b, dP (awS S a bb c node ep r o) W last b)] [] ⟨⟨hd, ptr b, disk_pins _ _ _ _, disk_pins _ _ _ _⟩, trivial⟩ trivial (by simp) rfl rfl rfl rfl (v' := .t (.c (iT (awE S a bb c node ep r o)))) (news' := []) rfl rfl rfl rfl rfl fun w Wh => ?_
  show At _ _ _ _ _ _ [(0, some (true, .ab (dP S W last b)))] 1
  have hl := fun (H : HL) (nx : Nat) (h0 : lookH H 0 = some (true, .ab (dP S W last b))) => lease_h (nx := nx) (a := a) (bb := bb) (c := c) h0 hD node ep r
  have ht := fun (H : HL) (nx : Nat) (h0 : lookH H 0 = some (true, .ab (dP S W last b))) => turn_h (nx := nx) (a := a) (bb := bb) (c := c) h0 hD node ep r (lsX S a bb c node r) o
  have hnd := fun h => lsE_node (S := S) (a := a) (bb := bb) (c := c) (node := node) (r := r) h
  unfold awE awS
  generalize tnE S a bb c node ep r (lsX S a bb c node r) o = te at *
  generalize tnS S a bb c node ep r (lsX S a bb c node r) o = tS at *
  generalize lsX S a bb c node r = x at *
  generalize rgE S a bb c node r = e at *
  by_cases h0 : e = 0
  · obtain ⟨_, n0, n2, _, _⟩ := hnd h0
    have w1 : IntKind.i64.wrap (node + 1) = node + 1 := wrap_sm (by omega) (by omega)
    subst h0
    by_cases h1 : x.1 = node + 1
    · simp only [ne_eq, not_true_eq_false, if_false, h1]
      have g1 : (x.1 != IntKind.i64.wrap (node + 1)) = false := by rw [w1, h1]; simp
      refine rn [(12, .spec ⟨.tup [lT x, .c (iT 0)], [], [(0, some (.ab (dP S W last b)))], []⟩), (15, .dec false), (19, .dec false), (30, .spec ⟨.t (.c (iT te)), [], [(0, some (.ab (dP tS W last b)))], []⟩)] rfl (by (repeat' (first | exact trivial | exact rfl | exact trivial | exact fun _ => trivial | first | exact hl _ _ rfl | exact g1 | exact ht _ _ rfl | rfl | decide | refine And.intro ?_ ?_))) ?_
      exact retM tysOk [(0, 0)] rfl (by repeat' (first | exact trivial | exact rfl | refine And.intro ?_ ?_)) (by repeat' (first | exact trivial | exact rfl | refine And.intro ?_ ?_)) rfl rfl
    · simp only [ne_eq, not_true_eq_false, if_false, h1, not_false_eq_true, if_true]
      have g1 : (x.1 != IntKind.i64.wrap (node + 1)) = true := by rw [w1]; simpa using h1
      refine rn [(12, .spec ⟨.tup [lT x, .c (iT 0)], [], [(0, some (.ab (dP S W last b)))], []⟩), (15, .dec false), (19, .dec true)] rfl (by (repeat' (first | exact trivial | exact rfl | exact trivial | exact fun _ => trivial | first | exact hl _ _ rfl | exact g1 | rfl | decide | refine And.intro ?_ ?_))) ?_
      exact retM tysOk [(0, 0)] rfl (by repeat' (first | exact trivial | exact rfl | refine And.intro ?_ ?_)) (by repeat' (first | exact trivial | exact rfl | refine And.intro ?_ ?_)) rfl rfl
  · simp only [ne_eq, h0, not_false_eq_true, if_true]
    refine rn [(12, .spec ⟨.tup [lT x, .c (iT e)], [], [(0, some (.ab (dP S W last b)))], []⟩), (15, .dec true)] rfl (by (repeat' (first | exact trivial | exact rfl | exact trivial | exact fun _ => trivial | first | exact hl _ _ rfl | exact ne_b h0 | rfl | decide | refine And.intro ?_ ?_))) ?_
    exact retM tysOk [(0, 0)] rfl (by repeat' (first | exact trivial | exact rfl | refine And.intro ?_ ?_)) (by repeat' (first | exact trivial | exact rfl | refine And.intro ?_ ?_)) rfl rfl
theorem other0 (node : Int) : Fn0 Tryz.prog 63 [.c (iT node)] (.t (.c (iT (IntKind.i64.wrap (1 - node))))) := by
  refine fn0 (fn := Tryz.f63) 5 rfl rfl rfl rfl rfl fun w => ?_
  refine rn [] rfl (by repeat' (first | exact trivial | exact rfl | refine And.intro ?_ ?_)) ?_
  exact ret0 tysOk rfl (by repeat' (first | exact trivial | exact rfl | refine And.intro ?_ ?_)) rfl
/-- The other node's mark. -/
def oth (node : Int) : Int := IntKind.i64.wrap (IntKind.i64.wrap (1 - node) + 1)
theorem oth_ok {node : Int} (h : 0 ≤ node ∧ node < 2) : oth node = 2 - node := by
  have e1 : IntKind.i64.wrap (1 - node) = 1 - node := wrap_sm (by omega) (by omega)
  rw [oth, e1, wrap_sm (by omega) (by omega)]
  omega
set_option maxRecDepth 100000 in
set_option maxHeartbeats 4000000 in
theorem pass_h (hd : lookH H d = some (true, .ab (dP S W last b))) (hD : DOk N S W last) (node ep r : Int) :
    FnH Tryz.prog 13 [.c (.nm d), geoT a bb c, .c (iT node), .c (iT ep), .c (iT r)] H nx ⟨.t (.c (iT (awE S a bb c node ep r (oth node)))), [], [(d, some (.ab (dP (awS S a bb c node ep r (oth node)) W last b)))], []⟩ := by
  refine fnAs (fn := Tryz.f13) 21 rfl rfl rfl (args' := [.c (.nm 0), geoT a bb c, .c (iT node), .c (iT ep), .c (iT r)]) [(d, dP S W last b, dP (awS S a bb c node ep r (oth node)) W last b)] [] ⟨⟨hd, ptr b, disk_pins _ _ _ _, disk_pins _ _ _ _⟩, trivial⟩ trivial (by simp) rfl rfl rfl rfl (v' := .t (.c (iT (awE S a bb c node ep r (oth node))))) (news' := []) rfl rfl rfl rfl rfl fun w Wh => ?_
  show At _ _ _ _ _ _ [(0, some (true, .ab (dP S W last b)))] 1
  have ho := other0 node
  have ha := fun (H : HL) (nx : Nat) (h0 : lookH H 0 = some (true, .ab (dP S W last b))) => away_h (nx := nx) (a := a) (bb := bb) (c := c) h0 hD node ep r (oth node)
  refine rn [(18, .ret (.t (.c (iT (IntKind.i64.wrap (1 - node)))))), (20, .spec ⟨.t (.c (iT (awE S a bb c node ep r (oth node)))), [], [(0, some (.ab (dP (awS S a bb c node ep r (oth node)) W last b)))], []⟩)] rfl (by (repeat' (first | exact trivial | exact rfl | exact trivial | exact fun _ => trivial | first | exact ho | exact ha _ _ rfl | rfl | decide | refine And.intro ?_ ?_))) ?_
  exact retM tysOk [(0, 0)] rfl (by repeat' (first | exact trivial | exact rfl | refine And.intro ?_ ?_)) (by repeat' (first | exact trivial | exact rfl | refine And.intro ?_ ?_)) rfl rfl
set_option maxRecDepth 100000 in
set_option maxHeartbeats 4000000 in
theorem lfree_h (hd : lookH H d = some (true, .ab (dP S W last b))) (hD : DOk N S W last) (node ep r : Int) :
    FnH Tryz.prog 18 [.c (.nm d), geoT a bb c, .c (iT node), .c (iT ep), .c (iT r)] H nx ⟨.t (.c (iT (awE S a bb c node ep r 0))), [], [(d, some (.ab (dP (awS S a bb c node ep r 0) W last b)))], []⟩ := by
  refine fnAs (fn := Tryz.f18) 18 rfl rfl rfl (args' := [.c (.nm 0), geoT a bb c, .c (iT node), .c (iT ep), .c (iT r)]) [(d, dP S W last b, dP (awS S a bb c node ep r 0) W last b)] [] ⟨⟨hd, ptr b, disk_pins _ _ _ _, disk_pins _ _ _ _⟩, trivial⟩ trivial (by simp) rfl rfl rfl rfl (v' := .t (.c (iT (awE S a bb c node ep r 0)))) (news' := []) rfl rfl rfl rfl rfl fun w Wh => ?_
  show At _ _ _ _ _ _ [(0, some (true, .ab (dP S W last b)))] 1
  have ha := fun (H : HL) (nx : Nat) (h0 : lookH H 0 = some (true, .ab (dP S W last b))) => away_h (nx := nx) (a := a) (bb := bb) (c := c) h0 hD node ep r 0
  refine rn [(17, .spec ⟨.t (.c (iT (awE S a bb c node ep r 0))), [], [(0, some (.ab (dP (awS S a bb c node ep r 0) W last b)))], []⟩)] rfl (by (repeat' (first | exact trivial | exact rfl | exact trivial | exact fun _ => trivial | first | exact ha _ _ rfl | rfl | decide | refine And.intro ?_ ?_))) ?_
  exact retM tysOk [(0, 0)] rfl (by repeat' (first | exact trivial | exact rfl | refine And.intro ?_ ?_)) (by repeat' (first | exact trivial | exact rfl | refine And.intro ?_ ?_)) rfl rfl
/-- What is seized, one by one: what went wrong, and the disk behind it. -/
def szR (a bb c node ep : Int) (L : List Ls) : List Int → List ByteArray → Int × List ByteArray
  | [], S => (0, S)
  | r :: rs, S => if tnE S a bb c node ep r (L.getD r.toNat (0, 0)) (node + 1) ≠ 0 then (tnE S a bb c node ep r (L.getD r.toNat (0, 0)) (node + 1), tnS S a bb c node ep r (L.getD r.toNat (0, 0)) (node + 1))
    else szR a bb c node ep L rs (tnS S a bb c node ep r (L.getD r.toNat (0, 0)) (node + 1))
/-- What is left of a list behind its first ones. -/
theorem held_in {l : List Ls} {o : Int} {k : Nat} {x : Int} (h : x ∈ held l o k) : 0 ≤ x ∧ x < (k : Int) := by
  rw [held] at h
  obtain ⟨r, hr, rfl⟩ := List.mem_map.1 h
  have := List.mem_range.1 (List.mem_filter.1 hr).1
  omega
set_option maxRecDepth 100000 in
set_option maxHeartbeats 8000000 in
theorem seizeX (hd : lookH H d = some (true, .ab (dP S W last b))) (hD : DOk N S W last) (node ep : Int) (he : snE S a bb c node = 0) {e : Int} {S' : List ByteArray} (hs : szR a bb c node ep (tbL S a bb c) (hdL S a bb c (2 - node)) S = (e, S')) (h0 : e ≠ 0) :
    FnH Tryz.prog 19 [.c (.nm d), geoT a bb c, .c (iT node), .c (iT ep)] H nx ⟨.tup [.c .nsl, .c (iT e)], [], [(d, some (.ab (dP S' W last b)))], []⟩ := by
  refine fnAs (fn := Tryz.f19) 55 rfl rfl rfl (args' := [.c (.nm 0), geoT a bb c, .c (iT node), .c (iT ep)]) [(d, dP S W last b, dP S' W last b)] [] ⟨⟨hd, ptr b, disk_pins _ _ _ _, disk_pins _ _ _ _⟩, trivial⟩ trivial (by simp) rfl rfl rfl rfl (v' := .tup [.c .nsl, .c (iT e)]) (news' := []) rfl rfl rfl rfl rfl fun w Wh => ?_
  show At _ _ _ _ _ _ [(0, some (true, .ab (dP S W last b)))] 1
  obtain ⟨_, n0, n2⟩ := snE_ok he
  have ht := fun (H : HL) (nx : Nat) (h0' : lookH H 0 = some (true, .ab (dP S W last b))) => lseenO (nx := nx) h0' hD he
  have hll := tbL_le S a bb c
  have ho := other0 node
  have hot := oth_ok ⟨n0, n2⟩
  have w1 : IntKind.i64.wrap (node + 1) = node + 1 := wrap_sm (by omega) (by omega)
  unfold hdL at hs
  generalize tbL S a bb c = L at *
  have hh : ∀ (H : HL) (nx : Nat) (h2 : lookH H 2 = some (true, .own 46 2 L.length (lcells L))), FnH Tryz.prog 71 [.c (.nm 2), .c (iT (oth node))] H nx ⟨.t (.c (.nm nx)), [(true, .own 3 1 (held L (2 - node) L.length).length (ivs (held L (2 - node) L.length)))], [], []⟩ := fun H nx h2 => by rw [hot]; exact theld_h (nx := nx) L (2 - node) (by omega) (SlR.own h2)
  have hin := fun x (hx : x ∈ held L (2 - node) L.length) => held_in hx
  have hhl := held_le L (2 - node) L.length
  generalize held L (2 - node) L.length = out at *
  refine rn [(20, .spec ⟨.tup [.c (.nm 2), .c (iT 0)], [(true, .own 46 2 L.length (lcells L))], [(0, some (.ab (dP S W last b)))], []⟩), (24, .dec false), (28, .ret (.t (.c (iT (IntKind.i64.wrap (1 - node)))))), (30, .spec ⟨.t (.c (.nm 3)), [(true, .own 3 1 out.length (ivs out))], [], []⟩)] rfl (by (repeat' (first | exact trivial | exact rfl | exact trivial | exact fun _ => trivial | first | exact ht _ _ rfl | exact ho | exact hh _ _ rfl | rfl | decide | refine And.intro ?_ ?_))) ?_
  refine At.loop (X := (k : Nat) ×' (T : List ByteArray) ×' (DOk N T W last ∧ szR a bb c node ep L (out.drop k) T = (e, S') ∧ k ≤ out.length)) 4 (fun x => out.length - x.1)
    (fun x => [(0, .t (.c (.nm 0))), (2, .t (.c (iT node))), (3, .t (.c (iT ep))), (5, .t (.c (.p 1 0))), (10, .t (.c (.nm 2))), (12, .t (.c (.nm 3))), (31, .t (.c (.nm 3))), (32, .t (.c (iT (out.length : Nat)))), (33, .t (.c (iT (x.1 : Nat))))])
    (fun x => [(0, some (true, .ab (dP x.2.1 W last b))), (1, some (true, .cells [iT a, iT bb, iT c] 23)), (2, some (true, .own 46 2 L.length (lcells L))), (3, some (true, .own 3 1 out.length (ivs out)))]) ⟨0, S, hD, hs, by omega⟩ [] (fun x => wf rfl rfl) (by repeat' (first | exact trivial | exact rfl | refine And.intro ?_ ?_)) (by repeat' (first | exact trivial | exact rfl | refine And.intro ?_ ?_)) rfl fun x => ?_
  obtain ⟨k, T, hT, hz, hk⟩ := x
  have w3 : IntKind.i64.wrap ((k : Int) + 1) = ((k + 1 : Nat) : Int) := by rw [wrap_sm (by omega) (by omega)]; omega
  refine rn [] rfl (by repeat' (first | exact trivial | exact rfl | refine And.intro ?_ ?_)) ?_
  refine ⟨fun h1 => ?_, fun h1 => ?_⟩
  · have hkl : k < out.length := by have : (k : Int) < (out.length : Int) := of_decide_eq_true h1; omega
    clear h1
    have e1 : (ivs out)[(k : Int).toNat * 1]? = some (.int .i64 out[k]) := by simpa using ivs_at hkl
    have b0 : (0 : Int) ≤ (k : Int) := by omega
    have b1 : (k : Int) < (out.length : Int) := by omega
    obtain ⟨q0, q1⟩ := hin _ (List.getElem_mem hkl)
    rw [List.drop_eq_getElem_cons hkl, szR] at hz
    generalize out[k] = r at *
    have hrl : r.toNat < L.length := by omega
    have r1 := lcells_get L r.toNat hrl
    have c5 : r.toNat * 2 < (lcells L).length := by rw [lcells_length]; omega
    rw [List.getD_eq_getElem?_getD, List.getElem?_eq_getElem hrl, Option.getD_some] at hz
    have hT' := hT.tn a bb c node ep r L[r.toNat] (node + 1)
    have htn : ∀ (H : HL) (nx : Nat) (h0 : lookH H 0 = some (true, .ab (dP T W last b))), FnH Tryz.prog 61 [hdT 0 a bb c node ep, .c (iT r), lT L[r.toNat], .c (iT (IntKind.i64.wrap (node + 1)))] H nx ⟨.t (.c (iT (tnE T a bb c node ep r L[r.toNat] (node + 1)))), [], [(0, some (.ab (dP (tnS T a bb c node ep r L[r.toNat] (node + 1)) W last b)))], []⟩ := fun H nx h0 => by rw [w1]; exact turn_h h0 hT node ep r L[r.toNat] (node + 1)
    generalize tnE T a bb c node ep r L[r.toNat] (node + 1) = te at *
    generalize tnS T a bb c node ep r L[r.toNat] (node + 1) = tS at *
    by_cases h2 : te = 0
    · subst h2
      simp only [ne_eq, not_true_eq_false, if_false] at hz
      refine rn [(36, .ld [iT r]), (46, .ld [iT L[r.toNat].1, iT L[r.toNat].2]), (49, .spec ⟨.t (.c (iT 0)), [], [(0, some (.ab (dP tS W last b)))], []⟩), (51, .dec false)] rfl (by (repeat' (first | exact trivial | exact rfl | exact trivial | exact fun _ => trivial | first | exact e1 | exact ⟨e1, trivial⟩ | exact b0 | exact b1 | exact ⟨r1.1, r1.2, trivial⟩ | exact q0 | exact q1 | exact c5 | exact htn _ _ rfl | rfl | decide | refine And.intro ?_ ?_))) ?_
      exact roundEnd ⟨k + 1, tS, hT', hz, by omega⟩ [] (by show out.length - (k + 1) < out.length - k; omega) (by (repeat' (first | exact trivial | exact rfl | exact w3 | exact fun _ => w3 | refine And.intro ?_ ?_))) (by repeat' (first | exact trivial | exact rfl | refine And.intro ?_ ?_)) rfl
    · simp only [ne_eq, h2, not_false_eq_true, if_true] at hz
      have hz1 : te = e := congrArg Prod.fst hz
      have hz2 : tS = S' := congrArg Prod.snd hz
      rw [hz1, hz2] at htn
      refine rn [(36, .ld [iT r]), (46, .ld [iT L[r.toNat].1, iT L[r.toNat].2]), (49, .spec ⟨.t (.c (iT e)), [], [(0, some (.ab (dP S' W last b)))], []⟩), (51, .dec true)] rfl (by (repeat' (first | exact trivial | exact rfl | exact trivial | exact fun _ => trivial | first | exact e1 | exact ⟨e1, trivial⟩ | exact b0 | exact b1 | exact ⟨r1.1, r1.2, trivial⟩ | exact q0 | exact q1 | exact c5 | exact htn _ _ rfl | exact ne_b h0 | rfl | decide | refine And.intro ?_ ?_))) ?_
      exact roundRet (retM tysOk [(0, 0)] rfl (by repeat' (first | exact trivial | exact rfl | refine And.intro ?_ ?_)) (by repeat' (first | exact trivial | exact rfl | refine And.intro ?_ ?_)) rfl rfl)
  · exfalso
    have hke : k = out.length := by have : ¬ (k : Int) < (out.length : Int) := of_decide_eq_false h1; omega
    rw [hke, List.drop_length, szR] at hz
    cases hz
    exact h0 rfl
set_option maxRecDepth 100000 in
set_option maxHeartbeats 8000000 in
theorem seizeO (hd : lookH H d = some (true, .ab (dP S W last b))) (hD : DOk N S W last) (node ep : Int) (he : snE S a bb c node = 0) {S' : List ByteArray} (hs : szR a bb c node ep (tbL S a bb c) (hdL S a bb c (2 - node)) S = (0, S')) :
    FnH Tryz.prog 19 [.c (.nm d), geoT a bb c, .c (iT node), .c (iT ep)] H nx ⟨.tup [.c (.nm nx), .c (iT 0)], [(true, .own 3 1 (hdL S a bb c (2 - node)).length (ivs (hdL S a bb c (2 - node))))], [(d, some (.ab (dP S' W last b)))], []⟩ := by
  refine fnAs (fn := Tryz.f19) 55 rfl rfl rfl (args' := [.c (.nm 0), geoT a bb c, .c (iT node), .c (iT ep)]) [(d, dP S W last b, dP S' W last b)] [] ⟨⟨hd, ptr b, disk_pins _ _ _ _, disk_pins _ _ _ _⟩, trivial⟩ trivial (by simp) rfl rfl rfl rfl (v' := .tup [.c (.nm 1), .c (iT 0)]) (news' := [(true, .own 3 1 (hdL S a bb c (2 - node)).length (ivs (hdL S a bb c (2 - node))))]) rfl rfl rfl rfl rfl fun w Wh => ?_
  show At _ _ _ _ _ _ [(0, some (true, .ab (dP S W last b)))] 1
  obtain ⟨_, n0, n2⟩ := snE_ok he
  have ht := fun (H : HL) (nx : Nat) (h0' : lookH H 0 = some (true, .ab (dP S W last b))) => lseenO (nx := nx) h0' hD he
  have hll := tbL_le S a bb c
  have ho := other0 node
  have hot := oth_ok ⟨n0, n2⟩
  have w1 : IntKind.i64.wrap (node + 1) = node + 1 := wrap_sm (by omega) (by omega)
  unfold hdL at *
  generalize tbL S a bb c = L at *
  have hh : ∀ (H : HL) (nx : Nat) (h2 : lookH H 2 = some (true, .own 46 2 L.length (lcells L))), FnH Tryz.prog 71 [.c (.nm 2), .c (iT (oth node))] H nx ⟨.t (.c (.nm nx)), [(true, .own 3 1 (held L (2 - node) L.length).length (ivs (held L (2 - node) L.length)))], [], []⟩ := fun H nx h2 => by rw [hot]; exact theld_h (nx := nx) L (2 - node) (by omega) (SlR.own h2)
  have hin := fun x (hx : x ∈ held L (2 - node) L.length) => held_in hx
  have hhl := held_le L (2 - node) L.length
  generalize held L (2 - node) L.length = out at *
  refine rn [(20, .spec ⟨.tup [.c (.nm 2), .c (iT 0)], [(true, .own 46 2 L.length (lcells L))], [(0, some (.ab (dP S W last b)))], []⟩), (24, .dec false), (28, .ret (.t (.c (iT (IntKind.i64.wrap (1 - node)))))), (30, .spec ⟨.t (.c (.nm 3)), [(true, .own 3 1 out.length (ivs out))], [], []⟩)] rfl (by (repeat' (first | exact trivial | exact rfl | exact trivial | exact fun _ => trivial | first | exact ht _ _ rfl | exact ho | exact hh _ _ rfl | rfl | decide | refine And.intro ?_ ?_))) ?_
  refine At.loop (X := (k : Nat) ×' (T : List ByteArray) ×' (DOk N T W last ∧ szR a bb c node ep L (out.drop k) T = (0, S') ∧ k ≤ out.length)) 4 (fun x => out.length - x.1)
    (fun x => [(0, .t (.c (.nm 0))), (2, .t (.c (iT node))), (3, .t (.c (iT ep))), (5, .t (.c (.p 1 0))), (10, .t (.c (.nm 2))), (12, .t (.c (.nm 3))), (31, .t (.c (.nm 3))), (32, .t (.c (iT (out.length : Nat)))), (33, .t (.c (iT (x.1 : Nat))))])
    (fun x => [(0, some (true, .ab (dP x.2.1 W last b))), (1, some (true, .cells [iT a, iT bb, iT c] 23)), (2, some (true, .own 46 2 L.length (lcells L))), (3, some (true, .own 3 1 out.length (ivs out)))]) ⟨0, S, hD, hs, by omega⟩ [] (fun x => wf rfl rfl) (by repeat' (first | exact trivial | exact rfl | refine And.intro ?_ ?_)) (by repeat' (first | exact trivial | exact rfl | refine And.intro ?_ ?_)) rfl fun x => ?_
  obtain ⟨k, T, hT, hz, hk⟩ := x
  have w3 : IntKind.i64.wrap ((k : Int) + 1) = ((k + 1 : Nat) : Int) := by rw [wrap_sm (by omega) (by omega)]; omega
  refine rn [] rfl (by repeat' (first | exact trivial | exact rfl | refine And.intro ?_ ?_)) ?_
  refine ⟨fun h1 => ?_, fun h1 => ?_⟩
  · have hkl : k < out.length := by have : (k : Int) < (out.length : Int) := of_decide_eq_true h1; omega
    clear h1
    have e1 : (ivs out)[(k : Int).toNat * 1]? = some (.int .i64 out[k]) := by simpa using ivs_at hkl
    have b0 : (0 : Int) ≤ (k : Int) := by omega
    have b1 : (k : Int) < (out.length : Int) := by omega
    obtain ⟨q0, q1⟩ := hin _ (List.getElem_mem hkl)
    rw [List.drop_eq_getElem_cons hkl, szR] at hz
    generalize out[k] = r at *
    have hrl : r.toNat < L.length := by omega
    have r1 := lcells_get L r.toNat hrl
    have c5 : r.toNat * 2 < (lcells L).length := by rw [lcells_length]; omega
    rw [List.getD_eq_getElem?_getD, List.getElem?_eq_getElem hrl, Option.getD_some] at hz
    have hT' := hT.tn a bb c node ep r L[r.toNat] (node + 1)
    have htn : ∀ (H : HL) (nx : Nat) (h0 : lookH H 0 = some (true, .ab (dP T W last b))), FnH Tryz.prog 61 [hdT 0 a bb c node ep, .c (iT r), lT L[r.toNat], .c (iT (IntKind.i64.wrap (node + 1)))] H nx ⟨.t (.c (iT (tnE T a bb c node ep r L[r.toNat] (node + 1)))), [], [(0, some (.ab (dP (tnS T a bb c node ep r L[r.toNat] (node + 1)) W last b)))], []⟩ := fun H nx h0 => by rw [w1]; exact turn_h h0 hT node ep r L[r.toNat] (node + 1)
    generalize tnE T a bb c node ep r L[r.toNat] (node + 1) = te at *
    generalize tnS T a bb c node ep r L[r.toNat] (node + 1) = tS at *
    by_cases h2 : te = 0
    · subst h2
      simp only [ne_eq, not_true_eq_false, if_false] at hz
      refine rn [(36, .ld [iT r]), (46, .ld [iT L[r.toNat].1, iT L[r.toNat].2]), (49, .spec ⟨.t (.c (iT 0)), [], [(0, some (.ab (dP tS W last b)))], []⟩), (51, .dec false)] rfl (by (repeat' (first | exact trivial | exact rfl | exact trivial | exact fun _ => trivial | first | exact e1 | exact ⟨e1, trivial⟩ | exact b0 | exact b1 | exact ⟨r1.1, r1.2, trivial⟩ | exact q0 | exact q1 | exact c5 | exact htn _ _ rfl | rfl | decide | refine And.intro ?_ ?_))) ?_
      exact roundEnd ⟨k + 1, tS, hT', hz, by omega⟩ [] (by show out.length - (k + 1) < out.length - k; omega) (by (repeat' (first | exact trivial | exact rfl | exact w3 | exact fun _ => w3 | refine And.intro ?_ ?_))) (by repeat' (first | exact trivial | exact rfl | refine And.intro ?_ ?_)) rfl
    · exfalso
      simp only [ne_eq, h2, not_false_eq_true, if_true] at hz
      cases hz
      exact h2 rfl
  · have hke : k = out.length := by have : ¬ (k : Int) < (out.length : Int) := of_decide_eq_false h1; omega
    rw [hke, List.drop_length, szR] at hz
    cases hz
    refine rn [] rfl (by repeat' (first | exact trivial | exact rfl | refine And.intro ?_ ?_)) (roundExit rfl ?_)
    refine rnA [] rfl (by repeat' (first | exact trivial | exact rfl | refine And.intro ?_ ?_)) ?_
    exact retM tysOk [(0, 0), (1, 3)] rfl (by repeat' (first | exact trivial | exact rfl | refine And.intro ?_ ?_)) (by repeat' (first | exact trivial | exact rfl | refine And.intro ?_ ?_)) rfl rfl
set_option maxRecDepth 100000 in
set_option maxHeartbeats 4000000 in
theorem seizeE (hd : lookH H d = some (true, .ab (dP S W last b))) (hD : DOk N S W last) (node ep : Int) {e : Int} (he : snE S a bb c node = e) (h0 : e ≠ 0) :
    FnH Tryz.prog 19 [.c (.nm d), geoT a bb c, .c (iT node), .c (iT ep)] H nx ⟨.tup [.c .nsl, .c (iT e)], [], [(d, some (.ab (dP S W last b)))], []⟩ := by
  refine fnAs (fn := Tryz.f19) 55 rfl rfl rfl (args' := [.c (.nm 0), geoT a bb c, .c (iT node), .c (iT ep)]) [(d, dP S W last b, dP S W last b)] [] ⟨⟨hd, ptr b, disk_pins _ _ _ _, disk_pins _ _ _ _⟩, trivial⟩ trivial (by simp) rfl rfl rfl rfl (v' := .tup [.c .nsl, .c (iT e)]) (news' := []) rfl rfl rfl rfl rfl fun w Wh => ?_
  show At _ _ _ _ _ _ [(0, some (true, .ab (dP S W last b)))] 1
  have ht := fun (H : HL) (nx : Nat) (h0' : lookH H 0 = some (true, .ab (dP S W last b))) => lseenE (nx := nx) h0' hD he h0
  refine rn [(20, .spec ⟨.tup [.c .nsl, .c (iT e)], [], [(0, some (.ab (dP S W last b)))], []⟩), (24, .dec true)] rfl (by (repeat' (first | exact trivial | exact rfl | exact trivial | exact fun _ => trivial | first | exact ht _ _ rfl | exact ne_b h0 | rfl | decide | refine And.intro ?_ ?_))) ?_
  exact retM tysOk [(0, 0)] rfl (by repeat' (first | exact trivial | exact rfl | refine And.intro ?_ ?_)) (by repeat' (first | exact trivial | exact rfl | refine And.intro ?_ ?_)) rfl rfl
end
end Cw
namespace Cw
open Go Vc
open Go.Proofs
set_option maxRecDepth 100000
theorem sec_lease (L : List Ls) (r : Nat) (hr : r < L.length) : ((sec (tz L L.length) (r / 16)).drop (r % 16 * 4)).take 4 = lw L[r] := by
  unfold sec
  rw [List.drop_take, List.take_take, Nat.min_eq_left (by omega), List.drop_drop, show 64 * (r / 16) + r % 16 * 4 = 4 * r by omega]
  unfold tz
  rw [List.take_length, List.drop_append_of_le_length (by rw [lbytes_length]; omega), lbytes_drop, List.drop_eq_getElem_cons hr]
  have : lbytes (L[r] :: L.drop (r + 1)) = lw L[r] ++ lbytes (L.drop (r + 1)) := rfl
  rw [this, List.append_assoc, List.take_left' (lw_length _)]
theorem tT_set {S : List ByteArray} {m q : Nat} (t : ByteArray) (hq : q < m) : tT (S.set (2 + q) t) m = (tT S m).set q t := by
  rw [tT, tT, List.drop_set, if_neg (by omega), show 2 + q - 2 = q by omega, List.take_set]
theorem s1_set {S : List ByteArray} {q : Nat} (t : ByteArray) : s1 (S.set (2 + q) t) = s1 S := by
  rw [s1, s1, List.getD_eq_getElem?_getD, List.getD_eq_getElem?_getD, List.getElem?_set, if_neg (by omega)]
theorem rd_tT {S : List ByteArray} {m q : Nat} (hq : q < m) (h : 2 + m ≤ S.length) : rdT S (2 + (q : Nat) : Int) = (tT S m)[q]'(by rw [tT_len h]; exact hq) := by
  have h2 : inS S.length (2 + (q : Nat) : Int) = true := inS_iff.2 (by omega)
  have h3 : (2 + (q : Nat) : Int).toNat = 2 + q := by omega
  rw [rdT, if_pos h2, h3, List.getD_eq_getElem?_getD, List.getElem?_eq_getElem (by omega), Option.getD_some]
  simp only [tT, List.getElem_take, List.getElem_drop]
/-- A disk that has a table of these leases, and these epochs. -/
structure TbI (S : List ByteArray) (a bb c : Int) (L : List Ls) (f0 f1 N : Nat) : Prop where
  g : Gok a bb c
  hn : gregions a bb c = (L.length : Nat)
  tk : L.all (fun x => tok x.1 x.2) = true
  ln : 2 + nsec L.length ≤ N
  tb : tT S (nsec L.length) = tsecs (tz L L.length) (nsec L.length)
  w : s1 S = wallB f0 f1
  f0 : f0 < 4294967296
  f1 : f1 < 4294967296
  ok : DOk N S [] 0
section
variable {S : List ByteArray} {a bb c : Int} {L : List Ls} {f0 f1 N : Nat}
theorem TbI.tl (h : TbI S a bb c L f0 f1 N) : (gregions a bb c).toNat = L.length := by rw [h.hn]; omega
theorem TbI.e (h : TbI S a bb c L f0 f1 N) : tbE S a bb c = 0 := by
  unfold tbE tbM
  rw [h.tl, if_neg (fun hg => hg h.g), if_pos]
  rw [h.ok.len, h.tb]
  exact ⟨h.ln, tdok_back L h.tk⟩
theorem TbI.l (h : TbI S a bb c L f0 f1 N) : tbL S a bb c = L := by
  unfold tbL tbM
  rw [h.tl, h.tb]
  exact dl_back L h.tk
theorem TbI.sn (h : TbI S a bb c L f0 f1 N) {node : Int} (hn : 0 ≤ node ∧ node < 2) : snE S a bb c node = 0 := by
  rw [snE, h.e, if_neg (fun h => h rfl), if_neg (by omega)]
theorem TbI.le (h : TbI S a bb c L f0 f1 N) : L.length ≤ 132 := by rw [← h.l]; exact tbL_le _ _ _ _
/-- A node's fence. -/
def fnc (f0 f1 : Nat) (node : Int) : Nat := if node = 0 then f0 else f1
theorem put_ok (hg : Gok a bb c) {r : Nat} (hr : (r : Int) < gregions a bb c) {x : Ls} (hx : tok x.1 x.2 = true) : tpe a bb c (r : Nat) x.1 x.2 = 0 ∧ tps a bb c (r : Nat) x.1 x.2 = 2 + (r / 16 : Nat) ∧ tpp a bb c (r : Nat) x.1 x.2 = (((r % 16 * 4 : Nat) : Int), Cw.S (lw x)) := by
  have he := te_in hg r hr
  obtain ⟨_, _, _, h1, h2, _⟩ := te_ok he
  have h3 : tpe a bb c (r : Nat) x.1 x.2 = 0 := by rw [tpe, if_neg (by omega), if_pos hx]
  refine ⟨h3, ?_, ?_⟩
  · rw [tps, if_pos h3, h1]; omega
  · rw [tpp, if_pos h3, h2]
    congr 1
theorem gve_ok {x : Ls} (hx : tok x.1 x.2 = true) {o : Int} (ho : 0 ≤ o ∧ o ≤ 2) (hs : x.2 ≠ 16777215) : gve x o = 0 ∧ gvx x o = (o, x.2 + 1) := by
  have e : gve x o = 0 := by rw [gve, if_pos hx, if_neg (by omega)]
  exact ⟨e, by rw [gvx, if_pos e]⟩
theorem tok_next {x : Ls} (hx : tok x.1 x.2 = true) {o : Int} (ho : 0 ≤ o ∧ o ≤ 2) (hs : x.2 ≠ 16777215) : tok o (x.2 + 1) = true := by
  have := tok_iff hx
  simp [tok]
  omega
theorem TbI.tn (h : TbI S a bb c L f0 f1 N) {node ep o : Int} (hn : node = 0 ∨ node = 1) (he : 0 ≤ ep ∧ ep ≤ 4294967295) (ho : 0 ≤ o ∧ o ≤ 2) {r : Nat} (hr : r < L.length) (hs : L[r].2 ≠ 16777215) :
    ((fnc f0 f1 node : Int) ≤ ep → tnE S a bb c node ep (r : Nat) L[r] o = 0 ∧ TbI (tnS S a bb c node ep (r : Nat) L[r] o) a bb c (L.set r (o, L[r].2 + 1)) f0 f1 N) ∧
    (¬ (fnc f0 f1 node : Int) ≤ ep → tnE S a bb c node ep (r : Nat) L[r] o = 110 ∧ tnS S a bb c node ep (r : Nat) L[r] o = S) := by
  have hx : tok L[r].1 L[r].2 = true := List.all_eq_true.1 h.tk _ (List.getElem_mem hr)
  obtain ⟨g1, g2⟩ := gve_ok hx ho hs
  have hy : tok o (L[r].2 + 1) = true := tok_next hx ho hs
  have hrn : (r : Int) < gregions a bb c := by rw [h.hn]; omega
  obtain ⟨p1, p2, p3⟩ := put_ok (x := L[r]) h.g hrn hx
  obtain ⟨q1, q2, q3⟩ := put_ok (x := (o, L[r].2 + 1)) h.g hrn hy
  simp only at q1 q2 q3
  have hq : r / 16 < nsec L.length := by unfold nsec; omega
  have hlen : 2 + nsec L.length ≤ S.length := by rw [h.ok.len]; exact h.ln
  have hz : 64 * nsec L.length = (tz L L.length).length := (tz_length L _ (Nat.le_refl _)).symm
  have hsl : (sec (tz L L.length) (r / 16)).length = 64 := sec_length hz.symm hq
  have hrd : rdT S (2 + (r / 16 : Nat) : Int) = Cw.S (sec (tz L L.length) (r / 16)) := by
    rw [rd_tT hq hlen]
    simp only [h.tb, secs_get]
  have okx : okp (((r % 16 * 4 : Nat) : Int), Cw.S (lw L[r])) = true := by
    simp [okp, finside, S_size, lw_length]
    omega
  have oky : okp (((r % 16 * 4 : Nat) : Int), Cw.S (lw (o, L[r].2 + 1))) = true := by
    simp [okp, finside, S_size, lw_length]
    omega
  have i0 : isE node ep = 0 := isE_ok (by rcases hn with rfl | rfl <;> omega)
  have i1 : inS S.length (2 + (r / 16 : Nat) : Int) = true := inS_iff.2 (by omega)
  have hps : psD (s1 S) node ep = decide ((fnc f0 f1 node : Int) ≤ ep) := by
    rw [h.w, psD_wall h.f0 h.f1 node ep hn]
    rfl
  have hsw : swE S node ep (2 + (r / 16 : Nat)) (((r % 16 * 4 : Nat) : Int), Cw.S (lw L[r])) (((r % 16 * 4 : Nat) : Int), Cw.S (lw (o, L[r].2 + 1))) = if (fnc f0 f1 node : Int) ≤ ep then 0 else 110 := by
    rw [swE, if_neg (fun h => h i0), if_neg (by rw [i1]; decide), if_neg (by rw [okx, oky]; decide), if_neg (by simp [S_size, lw_length]), hps]
    by_cases hc : (fnc f0 f1 node : Int) ≤ ep
    · rw [if_neg (by simpa using hc), if_pos hc]
    · rw [if_pos (by simpa using hc), if_neg hc]
  have hE : tnE S a bb c node ep (r : Nat) L[r] o = if (fnc f0 f1 node : Int) ≤ ep then 0 else 110 := by
    rw [tnE, if_neg (fun h => h g1), if_neg (fun h => h p1), g2, if_neg (fun h => h q1), p2, p3, q3, hsw]
  have hS : tnS S a bb c node ep (r : Nat) L[r] o = swS S node ep (2 + (r / 16 : Nat)) (((r % 16 * 4 : Nat) : Int), Cw.S (lw L[r])) (((r % 16 * 4 : Nat) : Int), Cw.S (lw (o, L[r].2 + 1))) := by
    rw [tnS, if_neg (fun h => h g1), if_neg (fun h => h p1), g2, if_neg (fun h => h q1), p2, p3, q3]
  refine ⟨fun hc => ⟨by rw [hE, if_pos hc], ?_⟩, fun hc => ⟨by rw [hE, if_neg hc], ?_⟩⟩
  · have hb : plc (rdT S (2 + (r / 16 : Nat) : Int)) (((r % 16 * 4 : Nat) : Int), Cw.S (lw L[r])) = Cw.S (lw L[r]) := by
      apply bt_ext
      rw [plc_data okx, hrd]
      show ((Cw.S (sec (tz L L.length) (r / 16))).data.toList.drop ((r % 16 * 4 : Nat) : Int).toNat).take (Cw.S (lw L[r])).size = (Cw.S (lw L[r])).data.toList
      rw [Int.toNat_natCast, S_size, lw_length, S_data, S_data]
      exact sec_lease L r hr
    have hT : tnS S a bb c node ep (r : Nat) L[r] o = S.set (2 + r / 16) (Cw.S (one (sec (tz L L.length) (r / 16)) ((r % 16 * 4 : Nat), Cw.S (lw (o, L[r].2 + 1))))) := by
      rw [hS, swS, swB, hsw, if_pos hc, hb, if_pos (by simp [bq])]
      have h1 : (2 + (r / 16 : Nat) : Int).toNat = 2 + r / 16 := by omega
      rw [h1]
      congr 1
      apply bt_ext
      rw [pt_data (by rw [hrd, S_size]; exact hsl) oky, hrd]
      show over (Cw.S (sec (tz L L.length) (r / 16))).data.toList ((r % 16 * 4 : Nat) : Int).toNat (Cw.S (lw (o, L[r].2 + 1))).data.toList = _
      rw [S_data, S_data, one, S_data]
      rfl
    have hok := h.ok.tn a bb c node ep (r : Nat) L[r] o
    rw [hT] at hok ⊢
    have hl : (L.set r (o, L[r].2 + 1)).length = L.length := List.length_set ..
    refine ⟨h.g, by rw [hl]; exact h.hn, ?_, by rw [hl]; exact h.ln, ?_, by rw [s1_set]; exact h.w, h.f0, h.f1, hok⟩
    · rw [List.all_eq_true]
      intro y hy'
      rcases List.mem_or_eq_of_mem_set hy' with h1 | h1
      · exact List.all_eq_true.1 h.tk _ h1
      · rw [h1]; exact hy
    · rw [hl, tT_set _ hq, h.tb]
      have := secs_set L r hr (o, L[r].2 + 1)
      rw [← hl]
      rw [hl]
      exact this
  · rw [hS, swS, swB, hsw, if_neg hc]
    simp
end
end Cw
namespace Cw
open Go Vc
open Go.Proofs
set_option maxRecDepth 100000
/-- What a call leaves of the leases: each as it was, or turned once. -/
structure Stp (L L' : List Ls) (out : Bool) (B : Int) : Prop where
  len : L'.length = L.length
  st : ∀ (j : Nat) (h : j < L.length) (h' : j < L'.length), L'[j] = L[j] ∨ (out = false ∧ L'[j].2 = L[j].2 + 1)
  bd : ∀ x ∈ L', x.2 ≤ B + 1
theorem Stp.same {L : List Ls} {out : Bool} {B : Int} (h : ∀ x ∈ L, x.2 ≤ B) : Stp L L out B := ⟨rfl, fun j h h' => .inl rfl, fun x hx => by have := h x hx; omega⟩
theorem Stp.set {L : List Ls} {B o : Int} (h : ∀ x ∈ L, x.2 ≤ B) {r : Nat} (hr : r < L.length) : Stp L (L.set r (o, L[r].2 + 1)) false B := by
  refine ⟨List.length_set .., fun j hj h' => ?_, fun x hx => ?_⟩
  · rw [List.getElem_set]
    split
    · rename_i h1; subst h1; exact .inr ⟨rfl, rfl⟩
    · exact .inl rfl
  · rcases List.mem_or_eq_of_mem_set hx with h1 | h1
    · have := h x h1; omega
    · rw [h1]
      have := h _ (List.getElem_mem hr)
      show L[r].2 + 1 ≤ B + 1
      omega
section
variable {S : List ByteArray} {a bb c : Int} {L : List Ls} {f0 f1 N : Nat} {B : Int}
theorem held_nodup (L : List Ls) (o : Int) (n : Nat) : (held L o n).Nodup := by
  rw [held, List.nodup_iff_pairwise_ne, List.pairwise_map]
  refine ((List.nodup_iff_pairwise_ne.1 List.nodup_range).sublist List.filter_sublist).imp fun h e => h (by omega)
/-- All of the other's seized. -/
def szL (L : List Ls) (node : Int) : List Ls := L.map fun x => if x.1 = 2 - node then (node + 1, x.2 + 1) else x
end
end Cw
